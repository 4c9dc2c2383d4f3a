/- Plain law: signs of zeros do not matter to stiffness. Plain law: held places stay at rest in each round of a mode. Words of numbers, their order, the next ones. Rounding: words of numbers are rounded to themselves; quarters between neighbours. Numbers of 64 bits that are what they should be: sums and halves of neighbours of 32 bits, narrowed.
Conditions: none. -/
import Derived.Test.YtnjpigkijdnpkaaGreatG7
import Derived.Test.YtnjpigkijdnpkaaGreatOrd
namespace Go.Proofs.YtnjpigkijdnpkaaGreat
set_option linter.all false
open Go Go.Awp Ieee
set_option maxRecDepth 100000
set_option maxHeartbeats 4000000

/-- A number's sign dropped, if it is a zero. -/
def zs (x : Nat) : Nat := if x = 2147483648 then 0 else x
abbrev F32 : Format := FloatKind.f32.format
theorem rd_nz : F32.read 2147483648 = .number true 0 F32.leastPlace := by decide +kernel
theorem rd_pz : F32.read 0 = .number false 0 F32.leastPlace := by decide +kernel
theorem zs_idem (x : Nat) : zs (zs x) = zs x := by unfold zs; split <;> rename_i h <;> simp [h]
theorem zs_cases (x : Nat) : zs x = x ∨ x = 2147483648 := by unfold zs; split <;> simp_all
theorem near_zero (s : Bool) (e : Int) : F32.nearest s 0 e = F32.word s 0 := by unfold Format.nearest; rw [if_pos rfl]
theorem zs_word (s t : Bool) : zs (F32.word s 0) = zs (F32.word t 0) := by cases s <;> cases t <;> decide +kernel
theorem zs_near (s t : Bool) (e f : Int) : zs (F32.nearest s 0 e) = zs (F32.nearest t 0 f) := by rw [near_zero, near_zero]; exact zs_word s t
/-- What comes of data that differ in the sign of a zero at most. -/
inductive Zd : Option Datum → Option Datum → Prop
  | eq (d : Option Datum) : Zd d d
  | zero (s t : Bool) (e f : Int) : Zd (some (.number s 0 e)) (some (.number t 0 f))
theorem Zd.get {d d' : Option Datum} (h : Zd d d') : zs ((d.map F32.write).getD (qnan .f32)) = zs ((d'.map F32.write).getD (qnan .f32)) := by
  cases h with
  | eq => rfl
  | zero s t e f => exact zs_near s t e f
theorem signed_zero (s : Bool) (k : Nat) : signed s 0 k = 0 := by unfold signed; cases s <;> simp
theorem sum_zd (s t : Bool) (e : Int) (d : Datum) : Zd ((Datum.number s 0 e).sum d) ((Datum.number t 0 e).sum d) := by
  cases d with
  | nan a b => exact .eq _
  | infinity a => exact .eq _
  | number a n j =>
    simp only [Datum.sum, signed_zero]
    by_cases c : 0 + signed a n (j - min e j).toNat = 0
    · rw [if_pos c, if_pos c]
      have : (0 + signed a n (j - min e j).toNat).natAbs = 0 := by rw [c]; rfl
      rw [this]
      exact .zero ..
    · rw [if_neg c, if_neg c]; exact .eq _
theorem sum_comm (d e : Datum) : d.sum e = e.sum d := by
  cases d with
  | nan a b => cases e <;> rfl
  | infinity a =>
    cases e with
    | infinity b => simp only [Datum.sum]; cases a <;> cases b <;> rfl
    | _ => rfl
  | number s m i =>
    cases e with
    | number t n j =>
      simp only [Datum.sum]
      rw [Int.min_comm, Int.add_comm, Bool.and_comm]
    | _ => rfl
theorem prod_zd (s t : Bool) (e : Int) (d : Datum) : Zd ((Datum.number s 0 e).product d) ((Datum.number t 0 e).product d) := by
  cases d with
  | nan a b => exact .eq _
  | infinity a => exact .eq _
  | number a n j =>
    simp only [Datum.product, Nat.zero_mul]
    exact .zero ..
theorem prod_comm (d e : Datum) : d.product e = e.product d := by
  cases d with
  | nan a b => cases e <;> rfl
  | infinity a =>
    cases e with
    | infinity b => simp only [Datum.product]; cases a <;> cases b <;> rfl
    | number t n j => simp only [Datum.product]
    | nan _ _ => rfl
  | number s m i =>
    cases e with
    | number t n j => simp only [Datum.product]; rw [Nat.mul_comm, Int.add_comm, Bool.xor_comm]
    | infinity b => simp only [Datum.product]
    | nan _ _ => rfl
theorem opp_nz (e : Int) (s : Bool) : (Datum.number s 0 e).opposite = .number (!s) 0 e := rfl
theorem add_l (y : Nat) : zs (fop .add .f32 2147483648 y) = zs (fop .add .f32 0 y) := by
  show zs ((((F32.read 2147483648).sum (F32.read y)).map F32.write).getD _) = zs ((((F32.read 0).sum (F32.read y)).map F32.write).getD _)
  rw [rd_nz, rd_pz]; exact (sum_zd ..).get
theorem add_r (x : Nat) : zs (fop .add .f32 x 2147483648) = zs (fop .add .f32 x 0) := by
  show zs ((((F32.read x).sum (F32.read 2147483648)).map F32.write).getD _) = zs ((((F32.read x).sum (F32.read 0)).map F32.write).getD _)
  rw [rd_nz, rd_pz, sum_comm, sum_comm (F32.read x)]; exact (sum_zd ..).get
theorem sub_l (y : Nat) : zs (fop .sub .f32 2147483648 y) = zs (fop .sub .f32 0 y) := by
  show zs ((((F32.read 2147483648).sum (F32.read y).opposite).map F32.write).getD _) = zs ((((F32.read 0).sum (F32.read y).opposite).map F32.write).getD _)
  rw [rd_nz, rd_pz]; exact (sum_zd ..).get
theorem sub_r (x : Nat) : zs (fop .sub .f32 x 2147483648) = zs (fop .sub .f32 x 0) := by
  show zs ((((F32.read x).sum (F32.read 2147483648).opposite).map F32.write).getD _) = zs ((((F32.read x).sum (F32.read 0).opposite).map F32.write).getD _)
  rw [rd_nz, rd_pz, opp_nz, opp_nz, sum_comm, sum_comm (F32.read x)]; exact (sum_zd ..).get
theorem mul_l (y : Nat) : zs (fop .mul .f32 2147483648 y) = zs (fop .mul .f32 0 y) := by
  show zs ((((F32.read 2147483648).product (F32.read y)).map F32.write).getD _) = zs ((((F32.read 0).product (F32.read y)).map F32.write).getD _)
  rw [rd_nz, rd_pz]; exact (prod_zd ..).get
theorem mul_r (x : Nat) : zs (fop .mul .f32 x 2147483648) = zs (fop .mul .f32 x 0) := by
  show zs ((((F32.read x).product (F32.read 2147483648)).map F32.write).getD _) = zs ((((F32.read x).product (F32.read 0)).map F32.write).getD _)
  rw [rd_nz, rd_pz, prod_comm, prod_comm (F32.read x)]; exact (prod_zd ..).get
theorem quo_zd (q : Nat) (s t : Bool) (e : Int) (d : Datum) : Zd ((Datum.number s 0 e).quotient q d) ((Datum.number t 0 e).quotient q d) := by
  cases d with
  | nan a b => exact .eq _
  | infinity a => exact .zero ..
  | number a n j =>
    simp only [Datum.quotient]
    by_cases c : n = 0
    · rw [if_pos c, if_pos c, if_pos trivial, if_pos trivial]; exact .eq _
    · rw [if_neg c, if_neg c]
      simp only [Nat.zero_shiftLeft, Nat.zero_div, Nat.zero_mod]
      exact .zero ..
theorem quo_l (y : Nat) : zs (fop .quo .f32 2147483648 y) = zs (fop .quo .f32 0 y) := by
  show zs ((((F32.read 2147483648).quotient _ (F32.read y)).map F32.write).getD _) = zs ((((F32.read 0).quotient _ (F32.read y)).map F32.write).getD _)
  rw [rd_nz, rd_pz]; exact (quo_zd ..).get
theorem op_z {g : Nat → Nat → Nat} (hl : ∀ y, zs (g 2147483648 y) = zs (g 0 y)) (hr : ∀ x, zs (g x 2147483648) = zs (g x 0)) {x x' y y' : Nat} (hx : zs x = zs x') (hy : zs y = zs y') : zs (g x y) = zs (g x' y') := by
  have key : ∀ x y, zs (g x y) = zs (g (zs x) (zs y)) := by
    intro x y
    have h1 : zs (g x y) = zs (g (zs x) y) := by
      rcases zs_cases x with h | rfl
      · rw [h]
      · exact hl y
    have h2 : zs (g (zs x) y) = zs (g (zs x) (zs y)) := by
      rcases zs_cases y with h | rfl
      · rw [h]
      · exact hr _
    rw [h1, h2]
  rw [key x y, key x' y', hx, hy]
theorem add_z {x x' y y' : Nat} (hx : zs x = zs x') (hy : zs y = zs y') : zs (fop .add .f32 x y) = zs (fop .add .f32 x' y') := op_z add_l add_r hx hy
theorem sub_z {x x' y y' : Nat} (hx : zs x = zs x') (hy : zs y = zs y') : zs (fop .sub .f32 x y) = zs (fop .sub .f32 x' y') := op_z sub_l sub_r hx hy
theorem mul_z {x x' y y' : Nat} (hx : zs x = zs x') (hy : zs y = zs y') : zs (fop .mul .f32 x y) = zs (fop .mul .f32 x' y') := op_z mul_l mul_r hx hy
theorem fn_z {g : Nat → Nat} (h : zs (g 2147483648) = zs (g 0)) {x x' : Nat} (hx : zs x = zs x') : zs (g x) = zs (g x') := by
  have key : ∀ x, zs (g x) = zs (g (zs x)) := by
    intro x
    rcases zs_cases x with h1 | rfl
    · rw [h1]
    · exact h
  rw [key x, key x', hx]
theorem quo_z {x x' : Nat} (y : Nat) (hx : zs x = zs x') : zs (fop .quo .f32 x y) = zs (fop .quo .f32 x' y) := fn_z (g := fun x => fop .quo .f32 x y) (quo_l y) hx
theorem neg_z {x x' : Nat} (hx : zs x = zs x') : zs (fneg .f32 x) = zs (fneg .f32 x') := fn_z (g := fun x => fneg .f32 x) (by decide +kernel) hx
theorem root_z {x x' : Nat} (hx : zs x = zs x') : zs (froot x) = zs (froot x') := fn_z (g := froot) (by decide +kernel) hx
theorem gt_nz : ford .f32 2147483648 0 = some .eq := by decide +kernel
theorem gt_pz : ford .f32 0 0 = some .eq := by decide +kernel
theorem gain_z {x x' l l' : Nat} (hx : zs x = zs x') (hl : zs l = zs l') : zs (gainF x l) = zs (gainF x' l') := by
  have key : ∀ x l, zs (gainF x l) = zs (gainF (zs x) (zs l)) := by
    intro x l
    rcases zs_cases l with h | rfl
    · rw [h]
      unfold gainF
      split
      · exact quo_z l (zs_idem x).symm
      · rfl
    · show zs (gainF x 2147483648) = zs (gainF (zs x) 0)
      unfold gainF
      rw [gt_nz, gt_pz]; rfl
  rw [key x l, key x' l', hx, hl]
-- vectors
def vz (v : V) : V := (zs v.1, zs v.2.1, zs v.2.2)
theorem vz_eq {a b : V} (h : vz a = vz b) : zs a.1 = zs b.1 ∧ zs a.2.1 = zs b.2.1 ∧ zs a.2.2 = zs b.2.2 := by
  simp only [vz, Prod.mk.injEq] at h; exact h
theorem vz_mk {a b : V} (h1 : zs a.1 = zs b.1) (h2 : zs a.2.1 = zs b.2.1) (h3 : zs a.2.2 = zs b.2.2) : vz a = vz b := by simp only [vz, h1, h2, h3]
theorem vadd_z {a a' b b' : V} (ha : vz a = vz a') (hb : vz b = vz b') : vz (vadd a b) = vz (vadd a' b') := by
  obtain ⟨a1, a2, a3⟩ := vz_eq ha
  obtain ⟨b1, b2, b3⟩ := vz_eq hb
  exact vz_mk (add_z a1 b1) (add_z a2 b2) (add_z a3 b3)
theorem vsub_z {a a' b b' : V} (ha : vz a = vz a') (hb : vz b = vz b') : vz (vsub a b) = vz (vsub a' b') := by
  obtain ⟨a1, a2, a3⟩ := vz_eq ha
  obtain ⟨b1, b2, b3⟩ := vz_eq hb
  exact vz_mk (sub_z a1 b1) (sub_z a2 b2) (sub_z a3 b3)
theorem vscale_z {a a' : V} {k k' : Nat} (ha : vz a = vz a') (hk : zs k = zs k') : vz (vscale a k) = vz (vscale a' k') := by
  obtain ⟨a1, a2, a3⟩ := vz_eq ha
  exact vz_mk (mul_z a1 hk) (mul_z a2 hk) (mul_z a3 hk)
theorem vinner_z {a a' b b' : V} (ha : vz a = vz a') (hb : vz b = vz b') : zs (vinner a b) = zs (vinner a' b') := by
  obtain ⟨a1, a2, a3⟩ := vz_eq ha
  obtain ⟨b1, b2, b3⟩ := vz_eq hb
  exact add_z (add_z (mul_z a1 b1) (mul_z a2 b2)) (mul_z a3 b3)
theorem vlong_z {a a' : V} (ha : vz a = vz a') : zs (vlong a) = zs (vlong a') := root_z (vinner_z ha ha)
theorem vcross_z {a a' b b' : V} (ha : vz a = vz a') (hb : vz b = vz b') : vz (vcross a b) = vz (vcross a' b') := by
  obtain ⟨a1, a2, a3⟩ := vz_eq ha
  obtain ⟨b1, b2, b3⟩ := vz_eq hb
  exact vz_mk (sub_z (mul_z a2 b3) (mul_z a3 b2)) (sub_z (mul_z a3 b1) (mul_z a1 b3)) (sub_z (mul_z a1 b2) (mul_z a2 b1))
theorem pull_z {d d' : V} (z u : Nat) (hd : vz d = vz d') : zs (pullF d z u) = zs (pullF d' z u) :=
  gain_z (mul_z rfl (sub_z (vlong_z hd) rfl)) (vlong_z hd)
/-- Lists that differ in signs of zeros at most. -/
def Zl (a b : List V) : Prop := a.map vz = b.map vz
theorem Zl.len {a b : List V} (h : Zl a b) : a.length = b.length := by have := congrArg List.length h; simpa using this
theorem Zl.getD {a b : List V} (h : Zl a b) (i : Nat) : vz (a.getD i (0, 0, 0)) = vz (b.getD i (0, 0, 0)) := by
  have h1 : (a.map vz).getD i (vz (0, 0, 0)) = (b.map vz).getD i (vz (0, 0, 0)) := by rw [h]
  rw [List.getD_eq_getElem?_getD, List.getD_eq_getElem?_getD, List.getElem?_map, List.getElem?_map] at h1
  rw [List.getD_eq_getElem?_getD, List.getD_eq_getElem?_getD]
  cases hx : a[i]? <;> cases hy : b[i]? <;> rw [hx, hy] at h1 <;> simpa using h1
theorem push_z {O O' : List V} (i : Nat) {d d' : V} {g g' : Nat} (hO : Zl O O') (hd : vz d = vz d') (hg : zs g = zs g') : Zl (push O i d g) (push O' i d' g') := by
  unfold Zl push at *
  have hv := vadd_z (Zl.getD hO i) (vscale_z hd hg)
  rw [List.map_set, List.map_set, hO, hv]
theorem fold_z {α : Type} {f f' : List V → α → List V} (hf : ∀ O O' x, Zl O O' → Zl (f O x) (f' O' x)) : ∀ (l : List α) {O O' : List V}, Zl O O' → Zl (l.foldl f O) (l.foldl f' O')
  | [], _, _, h => h
  | x :: l, _, _, h => fold_z hf l (hf _ _ x h)
/-- Bodies whose places differ in signs of zeros at most. -/
structure Zb (b b' : Bod) : Prop where
  pl : Zl b.me.pl b'.me.pl
  tr : b.me.tr = b'.me.tr
  sp : b.sp = b'.sp
  film : b.film = b'.film
  bend : b.bend = b'.bend
  w : b.w = b'.w
  fall : b.fall = b'.fall
theorem plA_z {b b' : Bod} (h : Zb b b') (i : Int) : vz (plA b.me i) = vz (plA b'.me i) := h.pl.getD i.toNat
theorem hinS_z {b b' : Bod} (h : Zb b b') : hinS b.me = hinS b'.me := by
  have h1 := h.pl.len
  have h2 := h.tr
  unfold hinS hinN edS
  rw [h1, h2]
theorem nrmA_z {b b' : Bod} (h : Zb b b') (t : List Int) : vz (nrmA b.me t) = vz (nrmA b'.me t) :=
  vcross_z (vsub_z (plA_z h _) (plA_z h _)) (vsub_z (plA_z h _) (plA_z h _))
theorem bendA_z {b b' : Bod} (h : Zb b b') (t : List Int) : vz (bendA b.me t) = vz (bendA b'.me t) :=
  vsub_z (vadd_z (plA_z h _) (plA_z h _)) (vadd_z (plA_z h _) (plA_z h _))
theorem frcB_z {b b' : Bod} (h : Zb b b') : Zl (frcB b) (frcB b') := by
  unfold frcB
  rw [hinS_z h, h.tr, h.sp, h.pl.len]
  unfold fP3 fP2 fP1 fP0
  rw [hinS_z h, h.tr, h.sp]
  refine fold_z (fun O O' i hO => ?_) _ (fold_z (fun O O' t hO => ?_) _ (fold_z (fun O O' t hO => ?_) _ (fold_z (fun O O' s hO => ?_) _ rfl)))
  · unfold foW
    rw [h.w, h.fall]
    exact push_z i hO rfl rfl
  · unfold foH
    rw [h.bend]
    exact push_z _ (push_z _ (push_z _ (push_z _ hO (bendA_z h t) rfl) (bendA_z h t) rfl) (bendA_z h t) rfl) (bendA_z h t) rfl
  · unfold foT foT3
    refine fold_z (fun O O' i hO => ?_) _ hO
    refine push_z _ hO (vcross_z (nrmA_z h t) (vsub_z (plA_z h _) (plA_z h _))) ?_
    unfold filF
    rw [h.film]
    exact gain_z rfl (vlong_z (nrmA_z h t))
  · have hd := vsub_z (plA_z h s.2.1) (plA_z h s.1)
    exact push_z _ (push_z _ hO hd (pull_z _ _ hd)) hd (neg_z (pull_z _ _ hd))
theorem movB_z {b : Bod} {v v' : List V} (s : Nat) (h : Zl v v') : Zb (movB b v s) (movB b v' s) := by
  refine ⟨?_, rfl, rfl, rfl, rfl, rfl, rfl⟩
  show (movP b.me.pl v s).map vz = (movP b.me.pl v' s).map vz
  have hl := h.len
  unfold movP
  apply List.ext_getElem
  · simp [hl]
  · intro i h1 h2
    have hi : i < v.length := by simp at h1; omega
    have hi' : i < v'.length := by omega
    have hg := h.getD i
    rw [List.getD_eq_getElem?_getD, List.getD_eq_getElem?_getD, List.getElem?_eq_getElem hi, List.getElem?_eq_getElem hi'] at hg
    simp only [List.getElem_map, List.getElem_zipWith]
    exact vadd_z rfl (vscale_z hg rfl)
theorem Zl.free {a b : List V} (h : Zl a b) (held : List Int) : Zl (freeL a held) (freeL b held) := by
  unfold freeL freeN
  refine fold_z (fun O O' p hO => ?_) _ h
  unfold Zl at *
  rw [List.map_set, List.map_set, hO]
theorem timB_z {b : Bod} (held : List Int) {v v' : List V} (step : Nat) (h : Zl v v') : Zl (timB b held v step) (timB b held v' step) := by
  unfold timB
  refine Zl.free ?_ held
  have h1 := frcB_z (movB_z (b := b) (fneg .f32 step) h)
  have h2 := frcB_z (movB_z (b := b) step h)
  unfold Zl timN
  rw [h.len, List.map_map, List.map_map]
  exact List.map_congr_left fun i _ => vscale_z (vsub_z (h1.getD i) (h2.getD i)) rfl
-- sums of inner products
theorem word_ne {s : Bool} {r : Nat} (h : r ≠ 0) (hr : r < 2147483648) : F32.word s r ≠ 2147483648 := by
  have e : F32.signWeight = 2147483648 := by decide +kernel
  unfold Format.word
  rw [e]
  split <;> omega
theorem near_ne {s : Bool} {m : Nat} {e : Int} (hm : m ≠ 0) (he : F32.leastPlace ≤ e) : F32.nearest s m e ≠ 2147483648 := by
  have hI : F32.infRung = 2139095040 := by decide +kernel
  have hB : F32.binade = 8388608 := by decide +kernel
  unfold Format.nearest
  rw [if_neg hm]
  dsimp only
  refine word_ne ?_ (by rw [hI]; omega)
  rw [hI, hB]
  by_cases c : F32.leastPlace < e + m.log2 - F32.fractionBits
  · have : 1 ≤ (max (e + (m.log2 : Int) - F32.fractionBits) F32.leastPlace - F32.leastPlace).toNat := by omega
    have := Nat.mul_le_mul_right 8388608 this
    omega
  · have hmx : max (e + (m.log2 : Int) - F32.fractionBits) F32.leastPlace = F32.leastPlace := by omega
    rw [hmx, show (F32.leastPlace - e).toNat = 0 by omega]
    have hk : 1 ≤ Toward.even.cut s (m <<< (e - F32.leastPlace).toNat) 0 := by
      unfold Toward.cut
      dsimp only
      rw [Nat.zero_min, Nat.shiftLeft_zero, Nat.div_one, Nat.shiftLeft_eq]
      have : 1 ≤ m * 2 ^ (e - F32.leastPlace).toNat := Nat.mul_pos (by omega) (Nat.two_pow_pos _)
      omega
    omega
theorem rd_place {x : Nat} {s : Bool} {m : Nat} {e : Int} (h : F32.read x = .number s m e) : F32.leastPlace ≤ e ∧ (m = 0 → s = true → x < 4294967296 → x = 2147483648) := by
  have hI : F32.infRung = 2139095040 := by decide +kernel
  have hB : F32.binade = 8388608 := by decide +kernel
  have hS : F32.signWeight = 2147483648 := by decide +kernel
  unfold Format.read at h
  dsimp only at h
  rw [hS, hB, hI] at h
  split at h
  · cases h
    refine ⟨Int.le_refl _, fun h1 h2 h3 => ?_⟩
    simp at h2
    omega
  · split at h
    · cases h
      refine ⟨by omega, fun h1 => by omega⟩
    · split at h <;> cases h
theorem add_ne {x y : Nat} (hx : x < 4294967296) (h : x ≠ 2147483648) : fop .add .f32 x y ≠ 2147483648 := by
  have hI : F32.infRung = 2139095040 := by decide +kernel
  show (((F32.read x).sum (F32.read y)).map F32.write).getD (qnan .f32) ≠ 2147483648
  have hq : qnan .f32 ≠ 2147483648 := by decide +kernel
  cases hX : F32.read x with
  | nan a b => rw [sum_nan_l]; exact hq
  | infinity a =>
    cases hY : F32.read y with
    | nan c d => rw [sum_nan_r]; exact hq
    | infinity c =>
      simp only [Datum.sum]
      split
      · exact word_ne (by rw [hI]; omega) (by rw [hI]; omega)
      · exact hq
    | number t n j => exact word_ne (by rw [hI]; omega) (by rw [hI]; omega)
  | number s m i =>
    obtain ⟨p1, p2⟩ := rd_place hX
    cases hY : F32.read y with
    | nan c d => rw [sum_nan_r]; exact hq
    | infinity c => exact word_ne (by rw [hI]; omega) (by rw [hI]; omega)
    | number t n j =>
      obtain ⟨q1, _⟩ := rd_place hY
      simp only [Datum.sum, Option.map_some, Option.getD_some, Format.write]
      by_cases c : signed s m (i - min i j).toNat + signed t n (j - min i j).toNat = 0
      · rw [if_pos c]
        have : (signed s m (i - min i j).toNat + signed t n (j - min i j).toNat).natAbs = 0 := by rw [c]; rfl
        rw [this, near_zero]
        cases hst : (s && t) with
        | false => decide +kernel
        | true =>
          exfalso
          simp only [Bool.and_eq_true] at hst
          rw [hst.1, hst.2] at c
          simp only [signed, if_true] at c
          have : m <<< (i - min i j).toNat = 0 := by
            generalize m <<< (i - min i j).toNat = A at *
            generalize n <<< (j - min i j).toNat = B at *
            omega
          rw [Nat.shiftLeft_eq] at this
          rcases Nat.mul_eq_zero.1 this with h0 | h0
          · exact h (p2 h0 hst.1 hx)
          · have := Nat.two_pow_pos (i - min i j).toNat; omega
      · exact near_ne (Int.natAbs_ne_zero.2 c) (by omega)
theorem map_lt32 (d : Option Datum) : (d.map F32.write).getD (qnan .f32) < 4294967296 := by
  have hw : (2 : Nat) ^ F32.width = 4294967296 := by decide +kernel
  cases d with
  | none => exact hw ▸ qnan_lt .f32
  | some d => exact hw ▸ F32.write_lt d
theorem fop_lt32 (x y : Nat) : fop .add .f32 x y < 4294967296 := map_lt32 _
theorem add_same {S y y' : Nat} (hS : S < 4294967296) (h : S ≠ 2147483648) (hy : zs y = zs y') : fop .add .f32 S y = fop .add .f32 S y' := by
  have key : ∀ y, fop .add .f32 S y = fop .add .f32 S (zs y) := by
    intro y
    rcases zs_cases y with h1 | rfl
    · rw [h1]
    · have h1 := add_r S
      have h2 := add_ne (y := 2147483648) hS h
      have h3 := add_ne (y := 0) hS h
      show _ = fop .add .f32 S 0
      unfold zs at h1
      rwa [if_neg h2, if_neg h3] at h1
  rw [key y, key y', hy]
theorem innN_z {a a' b b' : List V} (ha : Zl a a') (hb : Zl b b') : ∀ k, innN a b k = innN a' b' k ∧ innN a b k ≠ 2147483648 ∧ innN a b k < 4294967296
  | 0 => ⟨rfl, by simp [innN], by simp [innN]⟩
  | k + 1 => by
    obtain ⟨h1, h2, h3⟩ := innN_z ha hb k
    have e1 : innN a b (k + 1) = fop .add .f32 (innN a b k) (vinner (a.getD k (0, 0, 0)) (b.getD k (0, 0, 0))) := by unfold innN; rw [foldr_succ]
    have e2 : innN a' b' (k + 1) = fop .add .f32 (innN a' b' k) (vinner (a'.getD k (0, 0, 0)) (b'.getD k (0, 0, 0))) := by unfold innN; rw [foldr_succ]
    rw [e1, e2, ← h1]
    exact ⟨add_same h3 h2 (vinner_z (ha.getD k) (hb.getD k)), add_ne h3 h2, fop_lt32 ..⟩
theorem innL_z {a a' b b' : List V} (ha : Zl a a') (hb : Zl b b') : innL a b = innL a' b' := by
  unfold innL
  rw [ha.len]
  exact (innN_z ha hb _).1
theorem rayL_z {b : Bod} (held : List Int) {v v' : List V} (step : Nat) (h : Zl v v') : rayL b held v step = rayL b held v' step := by
  unfold rayL
  rw [innL_z h h, innL_z h (timB_z held step h)]
end Go.Proofs.YtnjpigkijdnpkaaGreat
namespace Go.Proofs.YtnjpigkijdnpkaaGreat
set_option linter.all false
open Go Go.Awp Ieee
set_option maxRecDepth 100000
set_option maxHeartbeats 4000000

/-- Held places have zeros. -/
def Zh (held : List Int) (w : List V) : Prop := ∀ p ∈ held, vz (w.getD p.toNat (0, 0, 0)) = (0, 0, 0)
theorem free_Zl {held : List Int} {w : List V} (h : Zh held w) : Zl (freeL w held) w := by
  unfold freeL freeN
  rw [List.take_length]
  have key : ∀ (l : List Int) (O : List V), (∀ p ∈ l, p ∈ held) → Zl O w → Zl (l.foldl (fun o p => o.set p.toNat (0, 0, 0)) O) w := by
    intro l
    induction l with
    | nil => exact fun _ _ h => h
    | cons p l ih =>
      intro O hl hO
      refine ih _ (fun q hq => hl q (List.mem_cons_of_mem _ hq)) ?_
      have hp := h p (hl p (List.mem_cons_self ..))
      unfold Zl at *
      rw [List.map_set, hO]
      apply List.ext_getElem?
      intro i
      rw [List.getElem?_set]
      split
      · rename_i e
        subst e
        split
        · rename_i hlt
          rw [List.getElem?_map]
          have hlt : p.toNat < w.length := by simpa using hlt
          rw [List.getD_eq_getElem?_getD, List.getElem?_eq_getElem hlt] at hp
          rw [List.getElem?_eq_getElem hlt]
          simp only [Option.getD_some] at hp
          rw [Option.map_some, hp]; rfl
        · rename_i hge
          rw [List.getElem?_eq_none (by omega)]
      · rfl
  exact key held w (fun _ h => h) rfl
theorem getD_set {O : List V} {i j : Nat} : (O.set i (0, 0, 0)).getD j (0, 0, 0) = if i = j then (0, 0, 0) else O.getD j (0, 0, 0) := by
  rw [List.getD_eq_getElem?_getD, List.getElem?_set, List.getD_eq_getElem?_getD]
  split
  · split <;> rfl
  · rfl
theorem free_get {held : List Int} (v : List V) {p : Int} (hp : p ∈ held) : (freeL v held).getD p.toNat (0, 0, 0) = (0, 0, 0) := by
  unfold freeL freeN
  rw [List.take_length]
  have key : ∀ (l : List Int) (O : List V), (p ∈ l ∨ O.getD p.toNat (0, 0, 0) = (0, 0, 0)) → (l.foldl (fun o p => o.set p.toNat (0, 0, 0)) O).getD p.toNat (0, 0, 0) = (0, 0, 0) := by
    intro l
    induction l with
    | nil => intro O h; exact h.resolve_left (by simp)
    | cons q l ih =>
      intro O h
      refine ih _ ?_
      rw [getD_set]
      by_cases c : q.toNat = p.toNat
      · exact .inr (by rw [if_pos c])
      · rw [if_neg c]
        rcases h with h | h
        · rcases List.mem_cons.1 h with e | h
          · exact absurd (by rw [e]) c
          · exact .inl h
        · exact .inr h
  exact key held v (.inl hp)
theorem zh_free (v : List V) (held : List Int) : Zh held (freeL v held) := fun p hp => by rw [free_get v hp]; rfl
theorem zh_tim (b : Bod) (held : List Int) (v : List V) (step : Nat) : Zh held (timB b held v step) := zh_free _ held
theorem qnan_nan : nanB .f32 (qnan .f32) = true := by decide +kernel
theorem fop_nan_l (op : BinOp) {x : Nat} (y : Nat) (h : nanB .f32 x = true) : nanB .f32 (fop op .f32 x y) = true := by
  unfold fop; rw [floatBits_nan_l h]; exact qnan_nan
theorem fop_nan_r (op : BinOp) (x : Nat) {y : Nat} (h : nanB .f32 y = true) : nanB .f32 (fop op .f32 x y) = true := by
  unfold fop; rw [floatBits_nan_r h]; exact qnan_nan
theorem fin_nan {x : Nat} (h : nanB .f32 x = true) : finB x = false := by
  unfold finB
  rw [ford_nan_l (fop_nan_l .sub x h)]; rfl
theorem over_nan {x : Nat} (h : nanB .f32 x = true) : overB x = false := by unfold overB; rw [fin_nan h]; rfl
theorem mul_zero_fin {x : Nat} (h : finB x = true) : zs (fop .mul .f32 0 x) = 0 := by
  show zs ((((F32.read 0).product (F32.read x)).map F32.write).getD (qnan .f32)) = 0
  rw [rd_pz]
  cases hx : F32.read x with
  | nan a b =>
    have : nanB .f32 x = true := by unfold nanB FloatKind.decode; rw [show FloatKind.f32.format.read x = F32.read x from rfl, hx]; rfl
    rw [fin_nan this] at h; cases h
  | infinity a =>
    exfalso
    have h2 : fop .sub .f32 x x = qnan .f32 := by
      show (((F32.read x).sum (F32.read x).opposite).map F32.write).getD (qnan .f32) = qnan .f32
      rw [hx]; cases a <;> rfl
    unfold finB at h
    rw [h2, ford_nan_l qnan_nan] at h
    cases h
  | number s m e =>
    simp only [Datum.product, Nat.zero_mul, Option.map_some, Option.getD_some, Format.write]
    rw [near_zero]
    cases s <;> decide +kernel
theorem mul_zero_inf {x : Nat} (h : finB x = false) : nanB .f32 (fop .mul .f32 0 x) = true := by
  show nanB .f32 ((((F32.read 0).product (F32.read x)).map F32.write).getD (qnan .f32)) = true
  rw [rd_pz]
  cases hx : F32.read x with
  | nan a b => exact qnan_nan
  | infinity a => cases a <;> exact qnan_nan
  | number s m e =>
    exfalso
    have hsub : fop .sub .f32 x x = 0 := by
      show (((F32.read x).sum (F32.read x).opposite).map F32.write).getD (qnan .f32) = 0
      rw [hx]
      simp only [Datum.sum, Datum.opposite, Option.map_some, Option.getD_some, Format.write]
      have hz : signed s m (e - min e e).toNat + signed (!s) m (e - min e e).toNat = 0 := by
        unfold signed
        generalize m <<< (e - min e e).toNat = A
        cases s <;> simp <;> omega
      rw [if_pos hz, hz]
      show F32.nearest (s && !s) 0 _ = 0
      rw [near_zero]
      cases s <;> decide +kernel
    unfold finB at h
    rw [hsub, gt_pz] at h
    cases h
theorem mul_zero_inf' {x : Nat} (h : finB x = false) : nanB .f32 (fop .mul .f32 2147483648 x) = true := by
  show nanB .f32 ((((F32.read 2147483648).product (F32.read x)).map F32.write).getD (qnan .f32)) = true
  have h0 : nanB .f32 ((((F32.read 0).product (F32.read x)).map F32.write).getD (qnan .f32)) = true := mul_zero_inf h
  rw [rd_pz] at h0
  rw [rd_nz]
  cases hx : F32.read x with
  | nan a b => exact qnan_nan
  | infinity a => cases a <;> exact qnan_nan
  | number s m e =>
    exfalso
    rw [hx] at h0
    simp only [Datum.product, Nat.zero_mul, Option.map_some, Option.getD_some, Format.write] at h0
    rw [near_zero] at h0
    cases s <;> exact absurd h0 (by decide +kernel)
theorem vz_zero {a : V} (h : vz a = (0, 0, 0)) : vz a = vz (0, 0, 0) := h
theorem scale_zero {a : V} {k : Nat} (ha : vz a = (0, 0, 0)) (hk : finB k = true) : vz (vscale a k) = (0, 0, 0) := by
  rw [vscale_z (vz_zero ha) (rfl : zs k = zs k)]
  simp only [vscale, vz, mul_zero_fin hk]
theorem zh_nrm {held : List Int} {x : List V} (h : Zh held x) (hk : nrmK x = true) : Zh held (nrmL x) := by
  have hk2 : finB (nrmF x) = true := by unfold nrmK at hk; simp at hk; exact hk.2
  intro p hp
  have h1 := h p hp
  unfold nrmL
  rw [List.getD_eq_getElem?_getD, List.getElem?_map]
  rw [List.getD_eq_getElem?_getD] at h1
  cases hx : x[p.toNat]? with
  | none => rfl
  | some a =>
    rw [hx] at h1
    exact scale_zero h1 hk2
theorem inn_nan {a b : List V} {p : Nat} (h : nanB .f32 (vinner (a.getD p (0, 0, 0)) (b.getD p (0, 0, 0))) = true) : ∀ k, p < k → nanB .f32 (innN a b k) = true
  | 0, hk => by omega
  | k + 1, hk => by
    have e1 : innN a b (k + 1) = fop .add .f32 (innN a b k) (vinner (a.getD k (0, 0, 0)) (b.getD k (0, 0, 0))) := by unfold innN; rw [foldr_succ]
    rw [e1]
    by_cases c : p = k
    · subst c; exact fop_nan_r .add _ h
    · exact fop_nan_l .add _ (inn_nan h k (by omega))
theorem zh_sof {b : Bod} {held : List Int} {v : List V} {step shift : Nat} (h : Zh held v) (hlt : ∀ p ∈ held, 0 ≤ p ∧ p < v.length) (hk : nrmK (sofB b held v step shift) = true) : Zh held (sofB b held v step shift) := by
  intro p hp
  have hpl := hlt p hp
  have h1 := h p hp
  have h2 := zh_tim b held v step p hp
  have e : (sofB b held v step shift).getD p.toNat (0, 0, 0) = vsub (vscale (v.getD p.toNat (0, 0, 0)) shift) ((timB b held v step).getD p.toNat (0, 0, 0)) := by
    unfold sofB sofN
    rw [List.getD_eq_getElem?_getD, List.getElem?_map, List.getElem?_range (by omega)]; rfl
  have h3 : (timB b held v step).getD p.toNat (0, 0, 0) = (0, 0, 0) := free_get _ hp
  rw [e, h3]
  cases hf : finB shift with
  | true =>
    rw [vsub_z ((scale_zero h1 hf).trans (by decide : ((0, 0, 0) : V) = vz (0, 0, 0))) (rfl : vz (0, 0, 0) = vz (0, 0, 0))]
    decide +kernel
  | false =>
    exfalso
    have hn : nanB .f32 ((sofB b held v step shift).getD p.toNat (0, 0, 0)).1 = true := by
      rw [e]
      refine fop_nan_l .sub _ ?_
      show nanB .f32 (fop .mul .f32 (v.getD p.toNat (0, 0, 0)).1 shift) = true
      have h4 : zs (v.getD p.toNat (0, 0, 0)).1 = 0 := by
        have := congrArg Prod.fst h1
        exact this
      rcases zs_cases (v.getD p.toNat (0, 0, 0)).1 with h5 | h5
      · rw [← h5, h4]; exact mul_zero_inf hf
      · rw [h5]; exact mul_zero_inf' hf
    have hi : nanB .f32 (innL (sofB b held v step shift) (sofB b held v step shift)) = true := by
      refine inn_nan (p := p.toNat) ?_ _ (by rw [sofB_len]; omega)
      exact fop_nan_l .add _ (fop_nan_l .add _ (fop_nan_l .mul _ hn))
    unfold nrmK at hk
    rw [over_nan hi] at hk
    cases hk
end Go.Proofs.YtnjpigkijdnpkaaGreat
namespace Go.Proofs.YtnjpigkijdnpkaaGreat
set_option linter.all false
open Go Go.Awp
set_option maxRecDepth 100000

theorem cmp_lt {a b : Int} (h : a < b) : compare a b = .lt := by
  simp [compare, compareOfLessAndEq, h]
theorem cmp_eq {a b : Int} (h : a = b) : compare a b = .eq := by
  subst h; simp [compare, compareOfLessAndEq]
theorem cmp_gt {a b : Int} (h : b < a) : compare a b = .gt := by
  simp [compare, compareOfLessAndEq, show ¬ a < b by omega, show ¬ a = b by omega]
/-- The place of a number among all. -/
def k32 (x : Nat) : Int := if x < 2147483648 then (x : Int) else 2147483648 - (x : Int)
theorem nan32 (x : Nat) : nanB .f32 x = decide (2139095040 < x % 2147483648) := nanB_eq .f32 x
theorem key32 {x : Nat} (h : x < 4294967296) : keyW .f32 x = k32 x := by
  have hs : FloatKind.f32.format.signWeight = 2147483648 := by decide +kernel
  unfold keyW k32 skey
  rw [hs]
  by_cases c : x < 2147483648
  · rw [if_pos c, Nat.div_eq_of_lt c, Nat.mod_eq_of_lt c]; rfl
  · have e1 : x / 2147483648 = 1 := by omega
    have e2 : x % 2147483648 = x - 2147483648 := by omega
    rw [if_neg c, e1, e2]
    simp; omega
theorem ford32 {x y : Nat} (hx : x < 4294967296) (hy : y < 4294967296) (nx : nanB .f32 x = false) (ny : nanB .f32 y = false) : ford .f32 x y = some (compare (k32 x) (k32 y)) := by
  rw [ford_key nx ny, key32 hx, key32 hy]
theorem lt32 {x y : Nat} (hx : x < 4294967296) (hy : y < 4294967296) (nx : nanB .f32 x = false) (ny : nanB .f32 y = false) (h : k32 x < k32 y) : ford .f32 x y = some .lt := by rw [ford32 hx hy nx ny, cmp_lt h]
theorem gt32 {x y : Nat} (hx : x < 4294967296) (hy : y < 4294967296) (nx : nanB .f32 x = false) (ny : nanB .f32 y = false) (h : k32 y < k32 x) : ford .f32 x y = some .gt := by rw [ford32 hx hy nx ny, cmp_gt h]
theorem eq32 {x y : Nat} (hx : x < 4294967296) (hy : y < 4294967296) (nx : nanB .f32 x = false) (ny : nanB .f32 y = false) (h : k32 x = k32 y) : ford .f32 x y = some .eq := by rw [ford32 hx hy nx ny, cmp_eq h]
/-- The next greater number. -/
def nup (x : Nat) : Nat := if nanB .f32 x then x else if x = 2139095040 then x else if x < 2147483648 then x + 1 else if x = 2147483648 then 1 else x - 1
def ndn (x : Nat) : Nat := fneg .f32 (nup (fneg .f32 x))
theorem num_le {x : Nat} (h : x < 4294967296) (n : nanB .f32 x = false) : x ≤ 2139095040 ∨ 2147483648 ≤ x ∧ x ≤ 4286578688 := by
  rw [nan32] at n
  have := of_decide_eq_false n
  omega
theorem num_of {x : Nat} (h : x ≤ 2139095040 ∨ 2147483648 ≤ x ∧ x ≤ 4286578688) : nanB .f32 x = false := by
  rw [nan32]; exact decide_eq_false (by omega)
theorem nup_num {x : Nat} (h : x < 4294967296) (n : nanB .f32 x = false) : nanB .f32 (nup x) = false ∧ nup x < 4294967296 := by
  have hx := num_le h n
  unfold nup
  rw [n]
  simp only [Bool.false_eq_true, if_false]
  split
  · exact ⟨num_of (by omega), by omega⟩
  · split
    · exact ⟨num_of (by omega), by omega⟩
    · split
      · exact ⟨num_of (by omega), by omega⟩
      · exact ⟨num_of (by omega), by omega⟩
theorem nup_key {x : Nat} (h : x < 4294967296) (n : nanB .f32 x = false) (hi : x ≠ 2139095040) : k32 (nup x) = k32 x + 1 := by
  have hx := num_le h n
  unfold nup k32
  rw [n]
  simp only [Bool.false_eq_true, if_false, if_neg hi]
  repeat' split
  all_goals omega
theorem neg32 {x : Nat} (h : x < 4294967296) (n : nanB .f32 x = false) : fneg .f32 x = (if x < 2147483648 then x + 2147483648 else x - 2147483648) ∧ nanB .f32 (fneg .f32 x) = false ∧ fneg .f32 x < 4294967296 ∧ k32 (fneg .f32 x) = - k32 x := by
  have hx := num_le h n
  have e : fneg .f32 x = (if x < 2147483648 then x + 2147483648 else x - 2147483648) := by
    have e1 : Op.negFloat .f32 x = (if x < 2147483648 then x + 2147483648 else x - 2147483648) := negFloat_eq .f32 x h
    have n1 : nanB .f32 (Op.negFloat .f32 x) = false := by rw [nanB_neg .f32 x h]; exact n
    unfold fneg
    rw [cn_num n1, e1]
  refine ⟨e, ?_, ?_, ?_⟩
  · rw [e]; refine num_of ?_; split <;> omega
  · rw [e]; split <;> omega
  · rw [e]; unfold k32; repeat' split
    all_goals omega
theorem ndn_num {x : Nat} (h : x < 4294967296) (n : nanB .f32 x = false) : nanB .f32 (ndn x) = false ∧ ndn x < 4294967296 := by
  obtain ⟨_, a1, a2, _⟩ := neg32 h n
  obtain ⟨b1, b2⟩ := nup_num a2 a1
  obtain ⟨_, c1, c2, _⟩ := neg32 b2 b1
  exact ⟨c1, c2⟩
theorem ndn_key {x : Nat} (h : x < 4294967296) (n : nanB .f32 x = false) (hi : x ≠ 4286578688) : k32 (ndn x) = k32 x - 1 := by
  have hx := num_le h n
  obtain ⟨e, a1, a2, a3⟩ := neg32 h n
  obtain ⟨b1, b2⟩ := nup_num a2 a1
  obtain ⟨_, c1, c2, c3⟩ := neg32 b2 b1
  have := nup_key a2 a1 (by rw [e]; split <;> omega)
  unfold ndn
  rw [c3, this, a3]; omega
theorem nup_inf : nup 2139095040 = 2139095040 := by
  have : nanB .f32 2139095040 = false := num_of (by omega)
  simp [nup, this]
theorem ndn_inf : ndn 4286578688 = 4286578688 := by
  have n : nanB .f32 4286578688 = false := num_of (by omega)
  have e := (neg32 (by omega) n).1
  have e2 := (neg32 (x := 2139095040) (by omega) (num_of (by omega))).1
  unfold ndn
  rw [e]
  simp only [show ¬ (4286578688 : Nat) < 2147483648 by omega, if_false, show (4286578688 : Nat) - 2147483648 = 2139095040 by omega, nup_inf]
  rw [e2]; rfl
theorem nup_nan {x : Nat} (n : nanB .f32 x = true) : nup x = x := by simp [nup, n]
/-- Numbers and infinities. -/
def fin32 (x : Nat) : Bool := decide (x % 2147483648 < 2139095040)
theorem and_low {a b r n : Nat} (h : r < 2 ^ n) : (2 ^ n * a + r) &&& (2 ^ n * b) = 2 ^ n * (a &&& b) := by
  refine Nat.eq_of_testBit_eq fun j => ?_
  rw [Nat.testBit_and, Nat.testBit_two_pow_mul_add _ h, Nat.testBit_two_pow_mul, Nat.testBit_two_pow_mul, Nat.testBit_and]
  by_cases c : j < n
  · simp [c, show ¬ n ≤ j by omega]
  · simp [c, show n ≤ j by omega]
theorem fin_and {x : Nat} (h : x < 4294967296) : (bitsV .and .i64 (x : Int) 2139095040 = 2139095040) ↔ fin32 x = false := by
  have hb : (BitVec.ofInt 64 (x : Int) &&& BitVec.ofInt 64 2139095040).toNat = x &&& 2139095040 := by
    rw [BitVec.toNat_and]
    have e1 : (BitVec.ofInt 64 (x : Int)).toNat = x := by simp [BitVec.toNat_ofInt]; omega
    have e2 : (BitVec.ofInt 64 2139095040).toNat = 2139095040 := by decide
    rw [e1, e2]
  have hv : bitsV .and .i64 (x : Int) 2139095040 = ((x &&& 2139095040 : Nat) : Int) := by
    show IntKind.i64.wrap ((BitVec.ofInt 64 (x : Int) &&& BitVec.ofInt 64 2139095040).toNat : Int) = _
    rw [hb]
    have := Nat.and_le_right (n := x) (m := 2139095040)
    exact wrap64 (by omega) (by omega)
  have hx : x = 2 ^ 23 * (x / 2 ^ 23) + x % 2 ^ 23 := (Nat.div_add_mod x (2 ^ 23)).symm
  have ha : x &&& 2139095040 = 2 ^ 23 * ((x / 2 ^ 23) % 256) := by
    have := and_low (a := x / 2 ^ 23) (b := 255) (r := x % 2 ^ 23) (n := 23) (Nat.mod_lt _ (by decide))
    rw [← hx, show (2 : Nat) ^ 23 * 255 = 2139095040 by decide] at this
    rw [this, show (255 : Nat) = 2 ^ 8 - 1 by decide, Nat.and_two_pow_sub_one_eq_mod]
  rw [hv, ha]
  unfold fin32
  rw [decide_eq_false_iff_not]
  omega
theorem sum_opp (s : Bool) (m : Nat) (e : Int) : (Ieee.Datum.number s m e).sum (Ieee.Datum.number s m e).opposite = some (.number false 0 e) := by
  have hz : Ieee.signed s m (e - min e e).toNat + Ieee.signed (!s) m (e - min e e).toNat = 0 := by
    unfold Ieee.signed
    generalize ((m <<< (e - min e e).toNat : Nat) : Int) = z
    cases s <;> simp <;> omega
  simp only [Ieee.Datum.opposite, Ieee.Datum.sum]
  rw [hz, Int.min_self]
  cases s <;> rfl
theorem finB_eq {x : Nat} (h : x < 4294967296) (n : nanB .f32 x = false) : (ford .f32 (fop .sub .f32 x x) 0 == some .eq) = fin32 x := by
  have hs : FloatKind.f32.format.signWeight = 2147483648 := by decide +kernel
  have hi : FloatKind.f32.format.infRung = 2139095040 := by decide +kernel
  have hx := num_le h n
  by_cases c : x % 2147483648 < 2139095040
  · obtain ⟨m, e, h1, _, _⟩ := read_rmag FloatKind.f32.format (w := x) (by rw [hs, hi]; exact c)
    have h0 : fop .sub .f32 x x = 0 := by
      have : FloatKind.f32.format.sub x x = some 0 := by
        unfold Ieee.Format.sub
        rw [h1]
        rw [sum_opp]; rfl
      show (FloatKind.f32.format.sub x x).getD _ = 0
      rw [this]; rfl
    rw [h0, ford_self (num_of (by omega))]
    unfold fin32
    rw [decide_eq_true c]; rfl
  · have h1 : FloatKind.f32.format.sub x x = none := by
      have hr : FloatKind.f32.format.read x = .infinity (x / FloatKind.f32.format.signWeight % 2 == 1) := by
        have hb : FloatKind.f32.format.binade ≤ 2139095040 := by decide +kernel
        unfold Ieee.Format.read
        dsimp only
        rw [hs, hi, if_neg (by omega), if_neg (by omega), if_pos (by omega)]
      unfold Ieee.Format.sub
      rw [hr]
      generalize (x / FloatKind.f32.format.signWeight % 2 == 1) = s
      cases s <;> rfl
    have h0 : fop .sub .f32 x x = qnan .f32 := by
      show (FloatKind.f32.format.sub x x).getD _ = _
      rw [h1]; rfl
    rw [h0, ford_nan_l (nanB_qnan .f32)]
    unfold fin32
    rw [decide_eq_false c]; rfl
end Go.Proofs.YtnjpigkijdnpkaaGreat
namespace Go.Proofs.YtnjpigkijdnpkaaGreat
set_option linter.all false
open Go Go.Awp Ieee
set_option maxRecDepth 100000

theorem log2_at {m P : Nat} (h1 : 2 ^ P ≤ m) (h2 : m < 2 ^ (P + 1)) : m.log2 = P := by
  have hm : m ≠ 0 := by have := Nat.two_pow_pos P; omega
  exact (Nat.log2_eq_iff hm).2 ⟨h1, h2⟩
theorem rmag_big {f : Format} {r : Nat} (h : ¬ r < f.binade) : rmag f r = (f.binade + r % f.binade) * 2 ^ (r / f.binade - 1) := by unfold rmag; rw [if_neg h]
theorem rmag_low {f : Format} {r : Nat} (h : r < f.binade) : rmag f r = r := by unfold rmag; rw [if_pos h]
theorem near_rmag (f : Format) (neg : Bool) {r : Nat} (h : r ≤ f.infRung) : f.nearest neg (rmag f r) f.leastPlace = f.word neg r := by
  have hB : f.binade = 2 ^ f.fractionBits := rfl
  have hp : 0 < f.binade := Nat.two_pow_pos _
  by_cases h0 : r = 0
  · subst h0; rw [rmag_zero]; unfold Format.nearest; rw [if_pos rfl]
  · have hpos : rmag f r ≠ 0 := by have := rmag_lt f (r := 0) (s := r) (by omega); rw [rmag_zero] at this; omega
    unfold Format.nearest
    rw [if_neg hpos]
    dsimp only
    by_cases c : r < f.binade
    · have hl : r.log2 ≤ f.fractionBits := log2_of_lt (by rw [Nat.pow_succ]; omega)
      rw [rmag_low c, show max (f.leastPlace + (r.log2 : Int) - f.fractionBits) f.leastPlace = f.leastPlace by omega]
      rw [show (f.leastPlace - f.leastPlace).toNat = 0 by omega, Nat.shiftLeft_zero, cut_zero, Nat.zero_mul, Nat.zero_add, Nat.min_eq_left h]
    · have hdm := Nat.div_add_mod r f.binade
      have hlt := Nat.mod_lt r hp
      have hq : 1 ≤ r / f.binade := Nat.div_pos (by omega) hp
      rw [rmag_big c]
      generalize ht : r % f.binade = t at *
      generalize hqq : r / f.binade = q at *
      have hl : ((f.binade + t) * 2 ^ (q - 1)).log2 = f.fractionBits + (q - 1) := by
        rw [log2_mul_pow (by omega), log2_at (P := f.fractionBits) (by omega) (by rw [Nat.pow_succ]; omega)]
      rw [hl, show max (f.leastPlace + ((f.fractionBits + (q - 1) : Nat) : Int) - f.fractionBits) f.leastPlace = f.leastPlace + (q - 1 : Nat) by omega]
      rw [show (f.leastPlace - (f.leastPlace + (q - 1 : Nat))).toNat = 0 by omega, Nat.shiftLeft_zero, show (f.leastPlace + ((q - 1 : Nat) : Int) - f.leastPlace).toNat = q - 1 by omega]
      rw [cut_exact _ (by omega) (Nat.le_refl _), Nat.sub_self, Nat.pow_zero, Nat.mul_one]
      have e : (q - 1) * f.binade + (f.binade + t) = r := by
        rw [← hdm]
        obtain ⟨k, rfl⟩ : ∃ k, q = k + 1 := ⟨q - 1, by omega⟩
        rw [Nat.add_sub_cancel, Nat.mul_add, Nat.mul_comm k, Nat.mul_one]; omega
      rw [e, Nat.min_eq_left h]
def dlt (c r : Nat) : Nat := if c = 3 ∨ (c = 2 ∧ r % 2 = 1) then 1 else 0
theorem cut_two (neg : Bool) (m c : Nat) (h : c ≤ 3) : Toward.even.cut neg (4 * m + c) 2 = m + dlt c m := by
  unfold Toward.cut dlt
  dsimp only
  rw [show min 2 ((4 * m + c).log2 + 2) = 2 by omega, show (1 <<< 2 : Nat) = 4 from rfl, show (4 * m + c) / 4 = m by omega, show (4 * m + c) % 4 = c by omega]
  congr 1
  have hc : c = 0 ∨ c = 1 ∨ c = 2 ∨ c = 3 := by omega
  rcases hc with rfl | rfl | rfl | rfl
  · simp
  · simp
  · by_cases o : m % 2 = 1 <;> simp [o]
  · simp
/-- How far the next number is. -/
def gapR (f : Format) (r : Nat) : Nat := if r < f.binade then 1 else 2 ^ (r / f.binade - 1)
theorem near_quarter (f : Format) (neg : Bool) {r c : Nat} (hF : 1 ≤ f.fractionBits) (h : r < f.infRung) (hc : c ≤ 3) : f.nearest neg (4 * rmag f r + c * gapR f r) (f.leastPlace - 2) = f.word neg (r + dlt c r) := by
  have hB : f.binade = 2 ^ f.fractionBits := rfl
  have hp : 0 < f.binade := Nat.two_pow_pos _
  have hd : dlt c r ≤ 1 := by unfold dlt; split <;> omega
  by_cases c0 : r < f.binade
  · unfold gapR
    rw [rmag_low c0, if_pos c0, Nat.mul_one]
    by_cases h0 : 4 * r + c = 0
    · have e1 : r = 0 := by omega
      have e2 : c = 0 := by omega
      subst e1; subst e2
      unfold Format.nearest dlt; simp
    · unfold Format.nearest
      rw [if_neg h0]
      dsimp only
      have hl : (4 * r + c).log2 ≤ f.fractionBits + 1 := log2_of_lt (by rw [Nat.pow_succ, Nat.pow_succ]; omega)
      rw [show max (f.leastPlace - 2 + ((4 * r + c).log2 : Int) - f.fractionBits) f.leastPlace = f.leastPlace by omega]
      rw [show (f.leastPlace - 2 - f.leastPlace).toNat = 0 by omega, Nat.shiftLeft_zero, show (f.leastPlace - (f.leastPlace - 2)).toNat = 2 by omega, cut_two _ _ _ hc, show (f.leastPlace - f.leastPlace).toNat = 0 by omega, Nat.zero_mul, Nat.zero_add, Nat.min_eq_left (by omega)]
  · have hdm := Nat.div_add_mod r f.binade
    have hlt := Nat.mod_lt r hp
    have hq : 1 ≤ r / f.binade := Nat.div_pos (by omega) hp
    have hpar : dlt c (f.binade + r % f.binade) = dlt c r := by
      have h2 : f.binade = 2 * 2 ^ (f.fractionBits - 1) := by rw [← Nat.pow_succ', hB]; congr 1; omega
      have : (f.binade + r % f.binade) % 2 = r % 2 := by
        rw [Nat.add_mod, Nat.mod_mod_of_dvd r ⟨_, h2⟩, h2, Nat.mul_mod_right]; omega
      unfold dlt; rw [this]
    unfold gapR
    rw [rmag_big c0, if_neg c0]
    generalize ht : r % f.binade = t at *
    generalize hqq : r / f.binade = q at *
    rw [show 4 * ((f.binade + t) * 2 ^ (q - 1)) + c * 2 ^ (q - 1) = (4 * (f.binade + t) + c) * 2 ^ (q - 1) by rw [Nat.add_mul (4 * (f.binade + t)) c, Nat.mul_assoc], nearest_shift]
    unfold Format.nearest
    rw [if_neg (by omega)]
    dsimp only
    rw [log2_at (m := 4 * (f.binade + t) + c) (P := f.fractionBits + 2) (by rw [Nat.pow_add]; omega) (by rw [show f.fractionBits + 2 + 1 = f.fractionBits + 3 from rfl, Nat.pow_add]; omega)]
    rw [show max (f.leastPlace - 2 + ((q - 1 : Nat) : Int) + ((f.fractionBits + 2 : Nat) : Int) - f.fractionBits) f.leastPlace = f.leastPlace + (q - 1 : Nat) by omega]
    rw [show (f.leastPlace - 2 + ((q - 1 : Nat) : Int) - (f.leastPlace + (q - 1 : Nat))).toNat = 0 by omega, Nat.shiftLeft_zero, show (f.leastPlace + ((q - 1 : Nat) : Int) - (f.leastPlace - 2 + (q - 1 : Nat))).toNat = 2 by omega, cut_two _ _ _ hc, show (f.leastPlace + ((q - 1 : Nat) : Int) - f.leastPlace).toNat = q - 1 by omega, hpar]
    have e0 : (q - 1) * f.binade + (f.binade + t) = r := by
      rw [← hdm]
      obtain ⟨k, rfl⟩ : ∃ k, q = k + 1 := ⟨q - 1, by omega⟩
      rw [Nat.add_sub_cancel, Nat.mul_add, Nat.mul_comm k, Nat.mul_one]; omega
    have e : (q - 1) * f.binade + (f.binade + t + dlt c r) = r + dlt c r := by omega
    rw [e, Nat.min_eq_left (by omega)]
/-- Numbers of few digits are words. -/
theorem rep_rung {f : Format} {m a : Nat} (hm : m < 2 * f.binade) (ha : (a + 2) * f.binade ≤ f.infRung) : ∃ r, r < f.infRung ∧ rmag f r = m * 2 ^ a := by
  have hB : f.binade = 2 ^ f.fractionBits := rfl
  have hp : 0 < f.binade := Nat.two_pow_pos _
  have hb2 : 2 * f.binade ≤ (a + 2) * f.binade := Nat.mul_le_mul_right _ (by omega)
  by_cases h0 : m = 0
  · subst h0; exact ⟨0, by omega, by rw [rmag_zero, Nat.zero_mul]⟩
  · by_cases c : m * 2 ^ a < f.binade
    · exact ⟨_, by omega, rmag_low c⟩
    · -- the digits laid to the top
      have hj : m.log2 ≤ f.fractionBits := log2_of_lt (by rw [Nat.pow_succ]; omega)
      have hm1 := Nat.log2_self_le h0
      have hm2 := Nat.lt_log2_self (n := m)
      have hja : f.fractionBits ≤ m.log2 + a := by
        rcases Nat.lt_or_ge (m.log2 + a) f.fractionBits with g | g
        · exfalso; apply c
          rw [hB]
          calc m * 2 ^ a < 2 ^ (m.log2 + 1) * 2 ^ a := Nat.mul_lt_mul_of_pos_right hm2 (Nat.two_pow_pos _)
            _ = 2 ^ (m.log2 + 1 + a) := (Nat.pow_add _ _ _).symm
            _ ≤ 2 ^ f.fractionBits := Nat.pow_le_pow_right (by omega) (by omega)
        · exact g
      obtain ⟨d, hd⟩ : ∃ d, f.fractionBits = m.log2 + d := ⟨f.fractionBits - m.log2, by omega⟩
      obtain ⟨k, hk⟩ : ∃ k, a = k + d := ⟨a - d, by omega⟩
      have hM1 : f.binade ≤ m * 2 ^ d := by rw [hB, hd, Nat.pow_add]; exact Nat.mul_le_mul_right _ hm1
      have hM2 : m * 2 ^ d < 2 * f.binade := by
        rw [hB, hd, ← Nat.pow_succ', show (m.log2 + d).succ = m.log2 + 1 + d by omega, Nat.pow_add]
        exact Nat.mul_lt_mul_of_pos_right hm2 (Nat.two_pow_pos _)
      refine ⟨(k + 1) * f.binade + (m * 2 ^ d - f.binade), ?_, ?_⟩
      · have : (k + 2) * f.binade ≤ (a + 2) * f.binade := Nat.mul_le_mul_right _ (by omega)
        have e2 : (k + 2) * f.binade = (k + 1) * f.binade + f.binade := by rw [Nat.add_mul, Nat.add_mul]; omega
        omega
      · have e1 : ((k + 1) * f.binade + (m * 2 ^ d - f.binade)) / f.binade = k + 1 := by
          rw [Nat.mul_comm, Nat.mul_add_div hp, Nat.div_eq_of_lt (by omega), Nat.add_zero]
        have e2 : ((k + 1) * f.binade + (m * 2 ^ d - f.binade)) % f.binade = m * 2 ^ d - f.binade := by
          rw [Nat.mul_comm, Nat.mul_add_mod, Nat.mod_eq_of_lt (by omega)]
        have hge : ¬ (k + 1) * f.binade + (m * 2 ^ d - f.binade) < f.binade := by
          have : f.binade ≤ (k + 1) * f.binade := Nat.le_mul_of_pos_left _ (by omega)
          omega
        rw [rmag_big hge, e1, e2, show f.binade + (m * 2 ^ d - f.binade) = m * 2 ^ d by omega, Nat.add_sub_cancel, Nat.mul_assoc, ← Nat.pow_add, hk, Nat.add_comm d k]
end Go.Proofs.YtnjpigkijdnpkaaGreat
namespace Go.Proofs.YtnjpigkijdnpkaaGreat
set_option linter.all false
open Go Go.Awp Ieee
set_option maxRecDepth 100000

def E3 : Nat := 923
def E5 : Nat := 925
abbrev G : Format := FloatKind.f64.format
abbrev F : Format := FloatKind.f32.format
theorem gL : G.leastPlace = -1074 := by decide +kernel
theorem fL : F.leastPlace = -149 := by decide +kernel
theorem gB : G.binade = 4503599627370496 := by decide +kernel
theorem fB : F.binade = 8388608 := by decide +kernel
theorem gI : G.infRung = 2047 * 4503599627370496 := by decide +kernel
theorem fI : F.infRung = 2139095040 := by decide +kernel
theorem fS : F.signWeight = 2147483648 := by decide +kernel
theorem rmag_next {f : Format} (r : Nat) : rmag f (r + 1) = rmag f r + gapR f r := by
  have hb : 0 < f.binade := Nat.two_pow_pos _
  unfold rmag gapR
  have hdm := Nat.div_add_mod r f.binade
  have hlt := Nat.mod_lt r hb
  generalize hq : r / f.binade = q at *
  generalize ht : r % f.binade = t at *
  generalize f.binade = b at *
  by_cases c : t + 1 < b
  · have e1 : (r + 1) / b = q := by
      rw [← hdm, Nat.add_assoc, Nat.mul_add_div hb, Nat.div_eq_of_lt c]; omega
    have e2 : (r + 1) % b = t + 1 := by
      rw [← hdm, Nat.add_assoc, Nat.mul_add_mod, Nat.mod_eq_of_lt c]
    rw [e1, e2]
    by_cases hq0 : q = 0
    · subst hq0
      simp at hdm
      rw [if_pos (by omega), if_pos (by omega), if_pos (by omega)]
    · have : b ≤ b * q := Nat.le_mul_of_pos_right b (by omega)
      rw [if_neg (by omega), if_neg (by omega), if_neg (by omega), ← Nat.add_assoc, Nat.add_mul (b + t), Nat.one_mul]
  · have ht' : t + 1 = b := by omega
    have e1 : (r + 1) / b = q + 1 := by
      have : r + 1 = b * (q + 1) := by rw [Nat.mul_add, ← hdm]; omega
      rw [this, Nat.mul_div_cancel_left _ hb]
    have e2 : (r + 1) % b = 0 := by
      have : r + 1 = b * (q + 1) := by rw [Nat.mul_add, ← hdm]; omega
      rw [this, Nat.mul_mod_right]
    rw [e1, e2]
    by_cases hq0 : q = 0
    · subst hq0
      simp at hdm
      rw [if_neg (by omega), if_pos (by omega), if_pos (by omega)]; simp; omega
    · have : b ≤ b * q := Nat.le_mul_of_pos_right b (by omega)
      rw [if_neg (by omega), if_neg (by omega), if_neg (by omega)]
      have e3 : 2 ^ (q + 1 - 1) = 2 * 2 ^ (q - 1) := by rw [← Nat.pow_succ']; congr 1; omega
      rw [e3, Nat.add_zero, ← Nat.mul_assoc, ← Nat.add_one_mul]
      congr 1; omega
/-- A word of 64 bits stands for a number, told in the least place. -/
def Val (z : Nat) (s : Bool) (N : Nat) : Prop := ∃ (m : Nat) (e : Int), G.read z = .number s m e ∧ G.leastPlace ≤ e ∧ m * 2 ^ (e - G.leastPlace).toNat = N
def Rp (N : Nat) : Prop := ∃ r, r < G.infRung ∧ rmag G r = N
theorem val_word (s : Bool) {r : Nat} (h : r < G.infRung) : Val (G.word s r) s (rmag G r) := by
  have hs : r < G.signWeight := Nat.lt_trans h G.infRung_lt
  have hp : 0 < G.signWeight := Nat.two_pow_pos _
  have hm : G.word s r % G.signWeight = r := word_mod G s hs
  have hd : (G.word s r / G.signWeight % 2 == 1) = s := by
    unfold Format.word
    cases s with
    | false => simp [Nat.div_eq_of_lt hs]
    | true => simp [Nat.add_div_left _ hp, Nat.div_eq_of_lt hs]
  obtain ⟨m, e, h1, h2, h3⟩ := read_rmag G (w := G.word s r) (by rw [hm]; exact h)
  rw [hd] at h1
  rw [hm] at h3
  exact ⟨m, e, h1, h2, h3⟩
theorem near_at {f : Format} {s : Bool} {m N : Nat} {e p : Int} (h : p ≤ e) (hN : m * 2 ^ (e - p).toNat = N) : f.nearest s m e = f.nearest s N p := by
  rw [← hN, nearest_shift]; congr 1; omega
theorem val_near {s : Bool} {N : Nat} (h : Rp N) : Val (G.nearest s N G.leastPlace) s N := by
  obtain ⟨r, h1, rfl⟩ := h
  rw [near_rmag G s (Nat.le_of_lt h1)]
  exact val_word s h1
theorem rp_of {m a : Nat} (hm : m < 9007199254740992) (ha : a ≤ 2045) : Rp (m * 2 ^ a) := by
  refine rep_rung (f := G) (by rw [gB]; omega) ?_
  rw [gB, gI]; exact Nat.mul_le_mul_right _ (by omega)
theorem mul_pow_at {m a b N : Nat} {e p q : Int} (h1 : p ≤ q) (h2 : q ≤ e) (hN : m * 2 ^ (e - q).toNat = N) : m * 2 ^ (e - p).toNat = N * 2 ^ (q - p).toNat := by
  rw [← hN, Nat.mul_assoc, ← Nat.pow_add]; congr 2; omega
theorem val_wid {x : Nat} (hx : x < 4294967296) (n : nanB .f32 x = false) (hf : x % 2147483648 < 2139095040) : Val (wid x) (x / 2147483648 % 2 == 1) (rmag F (x % 2147483648) * 2 ^ E5) := by
  obtain ⟨m, e, h1, h2, h3⟩ := read_rmag F (w := x) (by rw [fS, fI]; exact hf)
  rw [fS] at h1 h3
  have hw := fcvt_wid x
  unfold fcvt at hw
  rw [if_neg (by rw [n]; simp)] at hw
  unfold floatToFloatBits at hw
  rw [if_neg (by decide)] at hw
  have hd : FloatKind.f32.decode x = .number (x / 2147483648 % 2 == 1) m e := h1
  rw [hd] at hw
  dsimp only at hw
  split at hw
  · cases hw
  · have hw : G.nearest (x / 2147483648 % 2 == 1) m e = wid x := Option.some.inj hw
    have hp := read_parts (binade_le_inf .f32) h1
    rw [show FloatKind.f32.format = F from rfl, fB, fI, fL, fS] at hp
    obtain ⟨p1, p2, p3, p4⟩ := hp
    have p5 : x % 2147483648 / 8388608 < 255 := Nat.div_lt_of_lt_mul (by omega)
    have hN := mul_pow_at (a := 0) (b := 0) (p := G.leastPlace) (q := F.leastPlace) (by rw [gL, fL]; decide) h2 h3
    rw [← hw, near_at (p := G.leastPlace) (by rw [gL]; omega) hN]
    have hr : Rp (rmag F (x % 2147483648) * 2 ^ (F.leastPlace - G.leastPlace).toNat) := by
      rw [← hN]
      exact rp_of (by omega) (by rw [gL]; omega)
    have := val_near (s := (x / 2147483648 % 2 == 1)) hr
    rw [show (F.leastPlace - G.leastPlace).toNat = E5 by rw [gL, fL]; rfl] at this ⊢
    exact this
theorem val_add {x y N1 N2 : Nat} {s t : Bool} (h1 : Val x s N1) (h2 : Val y t N2) (h : s = t ∨ N1 = 0 ∧ 0 < N2) (hr : Rp (N1 + N2)) : Val (fop .add .f64 x y) t (N1 + N2) := by
  obtain ⟨m, i, a1, a2, a3⟩ := h1
  obtain ⟨n, j, b1, b2, b3⟩ := h2
  have hA : m * 2 ^ (i - min i j).toNat * 2 ^ (min i j - G.leastPlace).toNat = N1 := by
    rw [← a3, Nat.mul_assoc, ← Nat.pow_add]; congr 2; omega
  have hB : n * 2 ^ (j - min i j).toNat * 2 ^ (min i j - G.leastPlace).toNat = N2 := by
    rw [← b3, Nat.mul_assoc, ← Nat.pow_add]; congr 2; omega
  generalize hA' : m * 2 ^ (i - min i j).toNat = A at hA
  generalize hB' : n * 2 ^ (j - min i j).toNat = B at hB
  have hsum : (Datum.number s m i).sum (.number t n j) = some (.number t (A + B) (min i j)) := by
    have e1 : Ieee.signed s m (i - min i j).toNat = if s then -(A : Int) else A := by unfold Ieee.signed; rw [Nat.shiftLeft_eq, hA']
    have e2 : Ieee.signed t n (j - min i j).toNat = if t then -(B : Int) else B := by unfold Ieee.signed; rw [Nat.shiftLeft_eq, hB']
    simp only [Datum.sum]
    rw [e1, e2]
    have hz : s = t ∨ A = 0 ∧ 0 < B := by
      rcases h with h | ⟨h, h'⟩
      · exact .inl h
      · right
        constructor
        · rw [← hA] at h
          rcases Nat.mul_eq_zero.1 h with h | h
          · exact h
          · have := Nat.two_pow_pos (min i j - G.leastPlace).toNat; omega
        · rw [← hB] at h'
          exact Nat.pos_of_mul_pos_right h'
    rcases hz with rfl | ⟨rfl, hb⟩
    · cases s with
      | false =>
        simp only [Bool.false_eq_true, if_false, Bool.and_self]
        congr 2
        · split
          · rfl
          · simp; omega
      | true =>
        simp only [if_true, Bool.and_self]
        congr 2
        · split
          · rfl
          · simp; omega
        · omega
    · cases s <;> cases t <;> simp <;> omega
  show Val ((G.add x y).getD _) t _
  unfold Format.add
  rw [a1, b1, hsum]
  show Val (G.nearest t (A + B) (min i j)) t _
  rw [near_at (p := G.leastPlace) (N := N1 + N2) (by omega) (by rw [Nat.add_mul, hA, hB])]
  exact val_near hr
end Go.Proofs.YtnjpigkijdnpkaaGreat
