/- Contracts: the reader of choices. Words of numbers, their order, the next ones. Contracts: small functions on numbers. Contracts: the next lesser number, numbers that are the same, numbers drawn. The law of bits of numbers; what laws of drawn things are given. Rounding: words of numbers are rounded to themselves; quarters between neighbours. Numbers of 64 bits that are what they should be: sums and halves of neighbours of 32 bits, narrowed. Halves of numbers of 64 bits; what is narrowed between two neighbours. The law of numbers that are narrowed.
Conditions: none. -/
import Derived.Test.YtfngkhkghjgmkaaTyp
import Derived.Test.YtfngkhkghjgmkaaEnt
import Derived.Test.YtfngkhkghjgmkaaSrc
import Derived.Test.YtfngkhkghjgmkaaOrd
namespace Go.Proofs.Ytfngkhkghjgmkaa
set_option linter.all false
open Go Go.Awp
set_option maxRecDepth 100000
set_option maxHeartbeats 4000000
set_option pp.deepTerms true

/-- Bytes. -/
def cBy (l : List Nat) : List AV := l.map fun b => .int .u8 (b : Nat)
@[simp] theorem cBy_length (l : List Nat) : (cBy l).length = l.length := by simp [cBy]
@[simp] theorem cBy_drop {l : List Nat} {k : Nat} (h : k < l.length) : (cBy l).drop k = .int .u8 (l[k] : Nat) :: cBy (l.drop (k + 1)) := by
  unfold cBy; rw [List.drop_eq_getElem_cons (by simpa using h), List.getElem_map, List.map_drop]
@[simp] theorem cBy_get {l : List Nat} {k : Nat} (h : k < l.length) : (cBy l)[k]? = some (.int .u8 (l[k] : Nat)) := by simp [cBy, h]
@[simp] theorem cBy_num (l : List Nat) : (cBy l).all AV.num = true := by
  induction l with
  | nil => rfl
  | cons a l ih => simp only [cBy, List.map_cons, List.all_cons] at ih ⊢; rw [ih]; rfl
@[simp] theorem cBy_flat (l : List Nat) : (cBy l).all AV.flat = true := num_flat (cBy_num l)
@[simp] theorem cBy_pures (l : List Nat) : (∀ (x : AV), x ∈ cBy l → x.isPure = true) = True := eq_true (List.all_eq_true.1 (pure_flat (cBy_flat l)))
/-- The reader. -/
abbrev rd (nw : Bool) (l : List Nat) (at_ : Nat) (seed : Int) : Root := .blk nw true 95 [.view false (cBy l) l.length, .int .i64 at_, .int .u64 seed]
attribute [simp] rd
theorem c_l00From (l : List Nat) : FunV Try.prog 42 [.view false (cBy l) l.length] [] (.ptr 0 0) [rd true l 0 0] := by
  refine FnSpecV.walk dr_ok Try.func42 rfl (by kernel_rfl) rfl rfl rfl (by simp) ?_
  simp
  (refine endGV_keepT [(some 0, 0)] ?_ ?_ ?_ ?_ ?_ ?_ ⟨rfl, rfl⟩ ?_ <;> simp)
theorem and255 (y : Int) : ∃ x : Nat, x < 256 ∧ bitsV .and .u64 y 255 = (x : Int) := by
  refine ⟨(BitVec.ofInt 64 y &&& BitVec.ofInt 64 255).toNat, ?_, ?_⟩
  · rw [BitVec.toNat_and]
    exact Nat.lt_of_le_of_lt Nat.and_le_right (by decide)
  · have hlt : (BitVec.ofInt 64 y &&& BitVec.ofInt 64 255).toNat < 256 := by
      rw [BitVec.toNat_and]
      exact Nat.lt_of_le_of_lt Nat.and_le_right (by decide)
    show IntKind.u64.wrap ((BitVec.ofInt 64 y &&& BitVec.ofInt 64 255).toNat : Int) = _
    rw [IntKind.wrap_u64]; omega
section
variable {P : Program}
theorem callN_all {f : FuncId} {own : Bool} {σ : List Nat} {args : List AV} {Hin H : Heap} {K : AV → Heap → Prop} {R : AV → Heap → Prop} (hc : FnSpec P f args Hin R)
    (hk : ∀ av H', R av H' → (own = true → (H'.take σ.length).all Root.noView = true) ∧ K (av.ren (backN σ H.length)) (mergeH σ H H')) : @callN P f own σ args Hin H ⟨K⟩ trivial := ⟨R, hc, hk⟩
end
/-- What a reader leaves that was read at most inc times, and what it gave. -/
def RdR (l : List Nat) (k inc : Nat) (Q : AV → Prop) (av : AV) (H : Heap) : Prop := ∃ (k' : Nat) (seed : Int), k' ≤ k + inc ∧ H = [rd false l k' seed] ∧ Q av
def QI (n : Nat) (av : AV) : Prop := ∃ x : Nat, x < n ∧ av = .int .i64 x
def QB (av : AV) : Prop := ∃ b : Bool, av = .bool b
def QF (av : AV) : Prop := ∃ x : Nat, CanF .f32 x ∧ av = .flt .f32 x
theorem c_next (l : List Nat) (k : Nat) (seed : Int) (hl : l.length ≤ 1048576) (hb : ∀ b ∈ l, b < 256) (hk : k < 1000000000000) :
    FnSpec Try.prog 82 [.ptr 0 0] [rd false l k seed] (RdR l k 1 (QI 256)) := by
  have hw := nat_wrap (k := k) (by omega)
  by_cases b : k < l.length
  · have hx := hb _ (List.getElem_mem b)
    have hx2 : IntKind.i64.wrap ((l[k] : Nat) : Int) = ((l[k] : Nat) : Int) := wrap64 (by omega) (by omega)
    have h1 : (k : Int) + 1 ≤ l.length := by omega
    have h2 : k + 1 ≤ l.length := by omega
    refine FnSpec.walk dr_ok Try.func82 rfl (by kernel_rfl) rfl rfl rfl (by simp) ?_
    simp [b, hw, hx2, h1, h2]
    generalize IntKind.u64.wrap (_ + 1442695040888963407) = y
    refine endG_keepT (r := .int .i64 (l[k] : Nat)) (Hout := [rd false l (k + 1) y]) [] ?_ ?_ ?_ ?_ ?_ ?_ ?_ ⟨k + 1, y, by omega, rfl, l[k], hx, rfl⟩ ?_ <;> simp
  · have h1 : ¬ (k : Int) + 1 ≤ l.length := by omega
    have h2 : ¬ k + 1 ≤ l.length := by omega
    refine FnSpec.walk dr_ok Try.func82 rfl (by kernel_rfl) rfl rfl rfl (by simp) ?_
    simp [b, hw, h1, h2]
    generalize (IntKind.u64.wrap (IntKind.u64.wrap (IntKind.u64.wrap (seed * 6364136223846793005) + IntKind.u64.wrap 0) + 1442695040888963407)) = y
    obtain ⟨x, hx, e⟩ := and255 (y.fdiv (2 ^ min 40 IntKind.u64.bits))
    have e2 : IntKind.i64.wrap ((x : Nat) : Int) = x := wrap64 (by omega) (by omega)
    simp only [e, e2]
    refine endG_keepT (r := .int .i64 x) (Hout := [rd false l (k + 1) y]) [] ?_ ?_ ?_ ?_ ?_ ?_ ?_ ⟨k + 1, y, by omega, rfl, x, hx, rfl⟩ ?_ <;> simp
theorem c_pick (l : List Nat) (k n : Nat) (seed : Int) (hl : l.length ≤ 1048576) (hb : ∀ b ∈ l, b < 256) (hk : k + 2 < 1000000000000) (h1 : 1 < n) (h2 : n ≤ 65536) :
    FnSpec Try.prog 44 [.ptr 0 0, .int .i64 n] [rd false l k seed] (RdR l k 2 (QI n)) := by
  have h1' : ¬ (n : Int) ≤ 1 := by omega
  have hr : ∀ x : Nat, (x : Int).tmod n = ((x % n : Nat) : Int) := fun x => rfl
  refine FnSpec.walk dr_ok Try.func44 rfl (by kernel_rfl) rfl rfl rfl (by simp) ?_
  simp [h1']
  refine callG_on false [0] ?_; simp; refine callN_all (by with_reducible exact c_next l k seed hl hb (by omega)) ?_; rintro _ _ ⟨k1, s1, hk1, rfl, x, hx, rfl⟩; refine ⟨fun e => (by cases e), ?_⟩; simp
  by_cases c : 200 < n
  · have c' : (200 : Int) < n := by omega
    have c'' : ¬ (n : Int) ≤ 200 := by omega
    have hm : IntKind.i64.wrap ((x : Int) * 256) = ((x * 256 : Nat) : Int) := by rw [wrap64 (by omega) (by omega)]; simp
    simp [c', c'', hm]
    refine callG_on false [0] ?_; simp; refine callN_all (by with_reducible exact c_next l k1 s1 hl hb (by omega)) ?_; rintro _ _ ⟨k2, s2, hk2, rfl, y, hy, rfl⟩; refine ⟨fun e => (by cases e), ?_⟩; simp
    have ha : IntKind.i64.wrap ((x : Int) * 256 + (y : Int)) = ((x * 256 + y : Nat) : Int) := by rw [wrap64 (by omega) (by omega)]; simp
    have e : ((x : Int) * 256 + (y : Int)).tmod n = (((x * 256 + y) % n : Nat) : Int) := by rw [show ((x : Int) * 256 + (y : Int)) = ((x * 256 + y : Nat) : Int) by simp]; rfl
    simp [hm, ha, e]
    refine ⟨by omega, endG_src ?_⟩
    simp
    exact ⟨k2, s2, by omega, rfl, _, Nat.mod_lt _ (by omega), rfl⟩
  · have c' : ¬ (200 : Int) < n := by omega
    have c'' : (n : Int) ≤ 200 := by omega
    simp [c', c'', hr]
    refine ⟨by omega, endG_src ?_⟩
    simp
    exact ⟨k1, s1, by omega, rfl, _, Nat.mod_lt _ (by omega), rfl⟩
theorem c_one (l : List Nat) (k n : Nat) (seed : Int) (hl : l.length ≤ 1048576) (hb : ∀ b ∈ l, b < 256) (hk : k + 2 < 1000000000000) (h1 : 1 < n) (h2 : n ≤ 65536) :
    FnSpec Try.prog 43 [.ptr 0 0, .int .i64 n] [rd false l k seed] (RdR l k 2 QB) := by
  refine FnSpec.walk dr_ok Try.func43 rfl (by kernel_rfl) rfl rfl rfl (by simp) ?_
  simp
  refine callG_on false [0] ?_; simp; refine callN_all (by with_reducible exact c_pick l k n seed hl hb hk h1 h2) ?_; rintro _ _ ⟨k1, s1, hk1, rfl, x, hx, rfl⟩; refine ⟨fun e => (by cases e), ?_⟩; simp
  refine endG_src ?_
  simp
  exact ⟨k1, s1, by omega, rfl, _, rfl⟩
theorem c_pickL (l : List Nat) (k : Nat) (m : Int) (n : Nat) (seed : Int) (hm : m = n) (hl : l.length ≤ 1048576) (hb : ∀ b ∈ l, b < 256) (hk : k + 2 < 1000000000000) (h1 : 1 < n) (h2 : n ≤ 65536) :
    FnSpec Try.prog 44 [.ptr 0 0, .int .i64 m] [rd false l k seed] (RdR l k 2 (QI n)) := by subst hm; exact c_pick l k n seed hl hb hk h1 h2
theorem c_oneL (l : List Nat) (k : Nat) (m : Int) (n : Nat) (seed : Int) (hm : m = n) (hl : l.length ≤ 1048576) (hb : ∀ b ∈ l, b < 256) (hk : k + 2 < 1000000000000) (h1 : 1 < n) (h2 : n ≤ 65536) :
    FnSpec Try.prog 43 [.ptr 0 0, .int .i64 m] [rd false l k seed] (RdR l k 2 QB) := by subst hm; exact c_one l k n seed hl hb hk h1 h2
end Go.Proofs.Ytfngkhkghjgmkaa
namespace Go.Proofs.Ytfngkhkghjgmkaa
set_option linter.all false
open Go Go.Awp
set_option maxRecDepth 100000

theorem cmp_lt {a b : Int} (h : a < b) : compare a b = .lt := by
  simp [compare, compareOfLessAndEq, h]
theorem cmp_eq {a b : Int} (h : a = b) : compare a b = .eq := by
  subst h; simp [compare, compareOfLessAndEq]
theorem cmp_gt {a b : Int} (h : b < a) : compare a b = .gt := by
  simp [compare, compareOfLessAndEq, show ¬ a < b by omega, show ¬ a = b by omega]
/-- The place of a number among all. -/
def k32 (x : Nat) : Int := if x < 2147483648 then (x : Int) else 2147483648 - (x : Int)
theorem nan32 (x : Nat) : nanB .f32 x = decide (2139095040 < x % 2147483648) := nanB_eq .f32 x
theorem key32 {x : Nat} (h : x < 4294967296) : keyW .f32 x = k32 x := by
  have hs : FloatKind.f32.format.signWeight = 2147483648 := by decide +kernel
  unfold keyW k32 skey
  rw [hs]
  by_cases c : x < 2147483648
  · rw [if_pos c, Nat.div_eq_of_lt c, Nat.mod_eq_of_lt c]; rfl
  · have e1 : x / 2147483648 = 1 := by omega
    have e2 : x % 2147483648 = x - 2147483648 := by omega
    rw [if_neg c, e1, e2]
    simp; omega
theorem ford32 {x y : Nat} (hx : x < 4294967296) (hy : y < 4294967296) (nx : nanB .f32 x = false) (ny : nanB .f32 y = false) : ford .f32 x y = some (compare (k32 x) (k32 y)) := by
  rw [ford_key nx ny, key32 hx, key32 hy]
theorem lt32 {x y : Nat} (hx : x < 4294967296) (hy : y < 4294967296) (nx : nanB .f32 x = false) (ny : nanB .f32 y = false) (h : k32 x < k32 y) : ford .f32 x y = some .lt := by rw [ford32 hx hy nx ny, cmp_lt h]
theorem gt32 {x y : Nat} (hx : x < 4294967296) (hy : y < 4294967296) (nx : nanB .f32 x = false) (ny : nanB .f32 y = false) (h : k32 y < k32 x) : ford .f32 x y = some .gt := by rw [ford32 hx hy nx ny, cmp_gt h]
theorem eq32 {x y : Nat} (hx : x < 4294967296) (hy : y < 4294967296) (nx : nanB .f32 x = false) (ny : nanB .f32 y = false) (h : k32 x = k32 y) : ford .f32 x y = some .eq := by rw [ford32 hx hy nx ny, cmp_eq h]
/-- The next greater number. -/
def nup (x : Nat) : Nat := if nanB .f32 x then x else if x = 2139095040 then x else if x < 2147483648 then x + 1 else if x = 2147483648 then 1 else x - 1
def ndn (x : Nat) : Nat := fneg .f32 (nup (fneg .f32 x))
theorem num_le {x : Nat} (h : x < 4294967296) (n : nanB .f32 x = false) : x ≤ 2139095040 ∨ 2147483648 ≤ x ∧ x ≤ 4286578688 := by
  rw [nan32] at n
  have := of_decide_eq_false n
  omega
theorem num_of {x : Nat} (h : x ≤ 2139095040 ∨ 2147483648 ≤ x ∧ x ≤ 4286578688) : nanB .f32 x = false := by
  rw [nan32]; exact decide_eq_false (by omega)
theorem nup_num {x : Nat} (h : x < 4294967296) (n : nanB .f32 x = false) : nanB .f32 (nup x) = false ∧ nup x < 4294967296 := by
  have hx := num_le h n
  unfold nup
  rw [n]
  simp only [Bool.false_eq_true, if_false]
  split
  · exact ⟨num_of (by omega), by omega⟩
  · split
    · exact ⟨num_of (by omega), by omega⟩
    · split
      · exact ⟨num_of (by omega), by omega⟩
      · exact ⟨num_of (by omega), by omega⟩
theorem nup_key {x : Nat} (h : x < 4294967296) (n : nanB .f32 x = false) (hi : x ≠ 2139095040) : k32 (nup x) = k32 x + 1 := by
  have hx := num_le h n
  unfold nup k32
  rw [n]
  simp only [Bool.false_eq_true, if_false, if_neg hi]
  repeat' split
  all_goals omega
theorem neg32 {x : Nat} (h : x < 4294967296) (n : nanB .f32 x = false) : fneg .f32 x = (if x < 2147483648 then x + 2147483648 else x - 2147483648) ∧ nanB .f32 (fneg .f32 x) = false ∧ fneg .f32 x < 4294967296 ∧ k32 (fneg .f32 x) = - k32 x := by
  have hx := num_le h n
  have e : fneg .f32 x = (if x < 2147483648 then x + 2147483648 else x - 2147483648) := by
    have e1 : Op.negFloat .f32 x = (if x < 2147483648 then x + 2147483648 else x - 2147483648) := negFloat_eq .f32 x h
    have n1 : nanB .f32 (Op.negFloat .f32 x) = false := by rw [nanB_neg .f32 x h]; exact n
    unfold fneg
    rw [cn_num n1, e1]
  refine ⟨e, ?_, ?_, ?_⟩
  · rw [e]; refine num_of ?_; split <;> omega
  · rw [e]; split <;> omega
  · rw [e]; unfold k32; repeat' split
    all_goals omega
theorem ndn_num {x : Nat} (h : x < 4294967296) (n : nanB .f32 x = false) : nanB .f32 (ndn x) = false ∧ ndn x < 4294967296 := by
  obtain ⟨_, a1, a2, _⟩ := neg32 h n
  obtain ⟨b1, b2⟩ := nup_num a2 a1
  obtain ⟨_, c1, c2, _⟩ := neg32 b2 b1
  exact ⟨c1, c2⟩
theorem ndn_key {x : Nat} (h : x < 4294967296) (n : nanB .f32 x = false) (hi : x ≠ 4286578688) : k32 (ndn x) = k32 x - 1 := by
  have hx := num_le h n
  obtain ⟨e, a1, a2, a3⟩ := neg32 h n
  obtain ⟨b1, b2⟩ := nup_num a2 a1
  obtain ⟨_, c1, c2, c3⟩ := neg32 b2 b1
  have := nup_key a2 a1 (by rw [e]; split <;> omega)
  unfold ndn
  rw [c3, this, a3]; omega
theorem nup_inf : nup 2139095040 = 2139095040 := by
  have : nanB .f32 2139095040 = false := num_of (by omega)
  simp [nup, this]
theorem ndn_inf : ndn 4286578688 = 4286578688 := by
  have n : nanB .f32 4286578688 = false := num_of (by omega)
  have e := (neg32 (by omega) n).1
  have e2 := (neg32 (x := 2139095040) (by omega) (num_of (by omega))).1
  unfold ndn
  rw [e]
  simp only [show ¬ (4286578688 : Nat) < 2147483648 by omega, if_false, show (4286578688 : Nat) - 2147483648 = 2139095040 by omega, nup_inf]
  rw [e2]; rfl
theorem nup_nan {x : Nat} (n : nanB .f32 x = true) : nup x = x := by simp [nup, n]
/-- Numbers and infinities. -/
def fin32 (x : Nat) : Bool := decide (x % 2147483648 < 2139095040)
theorem and_low {a b r n : Nat} (h : r < 2 ^ n) : (2 ^ n * a + r) &&& (2 ^ n * b) = 2 ^ n * (a &&& b) := by
  refine Nat.eq_of_testBit_eq fun j => ?_
  rw [Nat.testBit_and, Nat.testBit_two_pow_mul_add _ h, Nat.testBit_two_pow_mul, Nat.testBit_two_pow_mul, Nat.testBit_and]
  by_cases c : j < n
  · simp [c, show ¬ n ≤ j by omega]
  · simp [c, show n ≤ j by omega]
theorem fin_and {x : Nat} (h : x < 4294967296) : (bitsV .and .i64 (x : Int) 2139095040 = 2139095040) ↔ fin32 x = false := by
  have hb : (BitVec.ofInt 64 (x : Int) &&& BitVec.ofInt 64 2139095040).toNat = x &&& 2139095040 := by
    rw [BitVec.toNat_and]
    have e1 : (BitVec.ofInt 64 (x : Int)).toNat = x := by simp [BitVec.toNat_ofInt]; omega
    have e2 : (BitVec.ofInt 64 2139095040).toNat = 2139095040 := by decide
    rw [e1, e2]
  have hv : bitsV .and .i64 (x : Int) 2139095040 = ((x &&& 2139095040 : Nat) : Int) := by
    show IntKind.i64.wrap ((BitVec.ofInt 64 (x : Int) &&& BitVec.ofInt 64 2139095040).toNat : Int) = _
    rw [hb]
    have := Nat.and_le_right (n := x) (m := 2139095040)
    exact wrap64 (by omega) (by omega)
  have hx : x = 2 ^ 23 * (x / 2 ^ 23) + x % 2 ^ 23 := (Nat.div_add_mod x (2 ^ 23)).symm
  have ha : x &&& 2139095040 = 2 ^ 23 * ((x / 2 ^ 23) % 256) := by
    have := and_low (a := x / 2 ^ 23) (b := 255) (r := x % 2 ^ 23) (n := 23) (Nat.mod_lt _ (by decide))
    rw [← hx, show (2 : Nat) ^ 23 * 255 = 2139095040 by decide] at this
    rw [this, show (255 : Nat) = 2 ^ 8 - 1 by decide, Nat.and_two_pow_sub_one_eq_mod]
  rw [hv, ha]
  unfold fin32
  rw [decide_eq_false_iff_not]
  omega
theorem sum_opp (s : Bool) (m : Nat) (e : Int) : (Ieee.Datum.number s m e).sum (Ieee.Datum.number s m e).opposite = some (.number false 0 e) := by
  have hz : Ieee.signed s m (e - min e e).toNat + Ieee.signed (!s) m (e - min e e).toNat = 0 := by
    unfold Ieee.signed
    generalize ((m <<< (e - min e e).toNat : Nat) : Int) = z
    cases s <;> simp <;> omega
  simp only [Ieee.Datum.opposite, Ieee.Datum.sum]
  rw [hz, Int.min_self]
  cases s <;> rfl
theorem finB_eq {x : Nat} (h : x < 4294967296) (n : nanB .f32 x = false) : (ford .f32 (fop .sub .f32 x x) 0 == some .eq) = fin32 x := by
  have hs : FloatKind.f32.format.signWeight = 2147483648 := by decide +kernel
  have hi : FloatKind.f32.format.infRung = 2139095040 := by decide +kernel
  have hx := num_le h n
  by_cases c : x % 2147483648 < 2139095040
  · obtain ⟨m, e, h1, _, _⟩ := read_rmag FloatKind.f32.format (w := x) (by rw [hs, hi]; exact c)
    have h0 : fop .sub .f32 x x = 0 := by
      have : FloatKind.f32.format.sub x x = some 0 := by
        unfold Ieee.Format.sub
        rw [h1]
        rw [sum_opp]; rfl
      show (FloatKind.f32.format.sub x x).getD _ = 0
      rw [this]; rfl
    rw [h0, ford_self (num_of (by omega))]
    unfold fin32
    rw [decide_eq_true c]; rfl
  · have h1 : FloatKind.f32.format.sub x x = none := by
      have hr : FloatKind.f32.format.read x = .infinity (x / FloatKind.f32.format.signWeight % 2 == 1) := by
        have hb : FloatKind.f32.format.binade ≤ 2139095040 := by decide +kernel
        unfold Ieee.Format.read
        dsimp only
        rw [hs, hi, if_neg (by omega), if_neg (by omega), if_pos (by omega)]
      unfold Ieee.Format.sub
      rw [hr]
      generalize (x / FloatKind.f32.format.signWeight % 2 == 1) = s
      cases s <;> rfl
    have h0 : fop .sub .f32 x x = qnan .f32 := by
      show (FloatKind.f32.format.sub x x).getD _ = _
      rw [h1]; rfl
    rw [h0, ford_nan_l (nanB_qnan .f32)]
    unfold fin32
    rw [decide_eq_false c]; rfl
end Go.Proofs.Ytfngkhkghjgmkaa
namespace Go.Proofs.Ytfngkhkghjgmkaa
set_option linter.all false
open Go Go.Awp
set_option maxRecDepth 100000
set_option maxHeartbeats 4000000
set_option pp.deepTerms true

theorem c_bits32 {x : Nat} (h : nanB .f32 x = false) : Fun Try.prog 51 [.flt .f32 x] [] (.int .u32 x) [] := by
  refine FnSpec.of_extern (e := Extern.MathFloatBits.float32bits) Try.func51 rfl rfl (by kernel_rfl) (by kernel_rfl) fun w E vs hv => ?_
  obtain ⟨h1, h2⟩ := hv
  obtain ⟨vs⟩ := vs
  match vs, h1 with
  | [v], _ =>
    have hr := h2 0 _ v rfl rfl
    cases hr with
    | flt _ _ r hr hl =>
      have hn : nanB .f32 r = false := by rw [← nanB_cn, hr]; exact h
      have e : r = x := by rw [← hr, cn_num hn]
      subst e
      exact ⟨.int .u32 r, 0, .int .u32 r, rfl, .int _ _, rfl, rfl, rfl⟩
theorem c_bits32n (x : Nat) : FnSpec Try.prog 51 [.flt .f32 x] [] fun av H => H = [] ∧ av.flats = true ∧ ∃ n : Nat, n < 4294967296 ∧ av = .int .u32 n := by
  refine FnSpec.of_extern (e := Extern.MathFloatBits.float32bits) Try.func51 rfl rfl (by kernel_rfl) (by kernel_rfl) fun w E vs hv => ?_
  obtain ⟨h1, h2⟩ := hv
  obtain ⟨vs⟩ := vs
  match vs, h1 with
  | [v], _ =>
    have hr := h2 0 _ v rfl rfl
    cases hr with
    | flt _ _ r hr hl =>
      exact ⟨.int .u32 r, 0, .int .u32 r, rfl, .int _ _, rfl, rfl, rfl, r, hl, rfl⟩
theorem c_from32 {n : Nat} (h : n < 4294967296) : Fun Try.prog 53 [.int .u32 n] [] (.flt .f32 (cn .f32 n)) [] := by
  refine FnSpec.of_extern (e := Extern.MathFloatBits.float32frombits) Try.func53 rfl rfl (by kernel_rfl) (by kernel_rfl) fun w E vs hv => ?_
  obtain ⟨h1, h2⟩ := hv
  obtain ⟨vs⟩ := vs
  match vs, h1 with
  | [v], _ =>
    have hr := h2 0 _ v rfl rfl
    cases hr with
    | int _ _ => exact ⟨.float .f32 n, 0, .flt .f32 (cn .f32 n), rfl, .flt _ _ _ rfl h, rfl, rfl, rfl⟩
theorem canF_cn {n : Nat} (h : n < 4294967296) : CanF .f32 (cn .f32 n) := ⟨cn_cn _ _, cn_lt h⟩
theorem canF_nan {x : Nat} (h : CanF .f32 x) (hn : nanB .f32 x = true) : x = 2143289344 := by
  rw [← h.1, cn_nan hn]; rfl
theorem c_l01From {n : Nat} (h : n < 4294967296) : Fun Try.prog 45 [.int .i64 n] [] (.flt .f32 (cn .f32 n)) [] := by
  have hw : IntKind.u32.wrap (n : Int) = n := by rw [IntKind.wrap_u32]; omega
  refine FnSpec.walkF dr_ok Try.func45 rfl (by kernel_rfl) rfl rfl rfl (by simp) ?_
  simp [hw]
  (first | refine callG_r ?_ | refine callD_r ?_); simp; (first | refine callN_flat (by with_reducible first | exact c_from32 h) rfl ?_ | refine callN_new (by with_reducible first | exact c_from32 h) ?_ | refine callM_flat (by with_reducible first | exact c_from32 h) rfl ?_ | refine callM_new (by with_reducible first | exact c_from32 h) ?_)
  simp
theorem c_within (n a b : Int) : Fun Try.prog 52 [.int .i64 n, .int .i64 a, .int .i64 b] [] (.bool (decide (a ≤ n) && decide (n ≤ b))) [] := by
  refine FnSpec.walkF dr_ok Try.func52 rfl (by kernel_rfl) rfl rfl rfl (by simp) ?_
  simp
  grind
theorem c_BitsOf {x : Nat} (hx : CanF .f32 x) : Fun Try.prog 16 [.flt .f32 x] [] (.int .i64 x) [] := by
  refine FnSpec.walkF dr_ok Try.func16 rfl (by kernel_rfl) rfl rfl rfl (by simp) ?_
  have hl : x < 4294967296 := hx.2
  cases nx : nanB .f32 x with
  | true =>
    have ex := canF_nan hx nx
    have f1 : ford .f32 x x = none := ford_nan_l nx
    simp [f1]
    omega
  | false =>
    have f1 : ford .f32 x x = some .eq := ford_self nx
    simp [f1]
    (first | refine callG_r ?_ | refine callD_r ?_); simp; (first | refine callN_flat (by with_reducible first | exact c_bits32 nx) rfl ?_ | refine callN_new (by with_reducible first | exact c_bits32 nx) ?_ | refine callM_flat (by with_reducible first | exact c_bits32 nx) rfl ?_ | refine callM_new (by with_reducible first | exact c_bits32 nx) ?_)
    simp
    rw [wrap64 (by omega) (by omega)]
theorem c_FromBits {n : Nat} (h : n < 4294967296) : Fun Try.prog 17 [.int .i64 n] [] (.tup [.flt .f32 (cn .f32 n), .bool true]) [] := by
  have hw : IntKind.u32.wrap (n : Int) = n := by rw [IntKind.wrap_u32]; omega
  have h1 : (n : Int) ≤ 4294967295 := by omega
  have h2 : n ≤ 4294967295 := by omega
  refine FnSpec.walkF dr_ok Try.func17 rfl (by kernel_rfl) rfl rfl rfl (by simp) ?_
  simp
  (first | refine callG_r ?_ | refine callD_r ?_); simp; (first | refine callN_flat (by with_reducible first | exact c_within _ _ _) rfl ?_ | refine callN_new (by with_reducible first | exact c_within _ _ _) ?_ | refine callM_flat (by with_reducible first | exact c_within _ _ _) rfl ?_ | refine callM_new (by with_reducible first | exact c_within _ _ _) ?_)
  simp [h1, h2, hw]
  (first | refine callG_r ?_ | refine callD_r ?_); simp; (first | refine callN_flat (by with_reducible first | exact c_from32 h) rfl ?_ | refine callN_new (by with_reducible first | exact c_from32 h) ?_ | refine callM_flat (by with_reducible first | exact c_from32 h) rfl ?_ | refine callM_new (by with_reducible first | exact c_from32 h) ?_)
  simp
theorem c_IsFinite (x : Nat) : Fun Try.prog 19 [.flt .f32 x] [] (.bool (ford .f32 (fop .sub .f32 x x) 0 == some .eq)) [] := by
  refine FnSpec.walkF dr_ok Try.func19 rfl (by kernel_rfl) rfl rfl rfl (by simp) ?_
  simp
theorem c_NextUp {x : Nat} (hx : CanF .f32 x) : Fun Try.prog 20 [.flt .f32 x] [] (.flt .f32 (nup x)) [] := by
  have hl : x < 4294967296 := hx.2
  refine FnSpec.walkF dr_ok Try.func20 rfl (by kernel_rfl) rfl rfl rfl (by simp) ?_
  simp
  cases nx : nanB .f32 x with
  | true =>
    have f1 : ford .f32 x x = none := ford_nan_l nx
    refine callG_r ?_
    simp
    refine callN_rel (c_bits32n x) ?_
    rintro _ ⟨n, hn, rfl⟩
    simp [f1, nup_nan nx]
  | false =>
    have f1 : ford .f32 x x = some .eq := ford_self nx
    have hle := num_le hl nx
    have f2 := ford32 (y := 2139095039) hl (by omega) nx (num_of (by omega))
    have f3 := ford32 (y := 0) hl (by omega) nx (num_of (by omega))
    (first | refine callG_r ?_ | refine callD_r ?_); simp; (first | refine callN_flat (by with_reducible first | exact c_bits32 nx) rfl ?_ | refine callN_new (by with_reducible first | exact c_bits32 nx) ?_ | refine callM_flat (by with_reducible first | exact c_bits32 nx) rfl ?_ | refine callM_new (by with_reducible first | exact c_bits32 nx) ?_)
    by_cases c1 : x = 2139095040
    · subst c1
      rw [cmp_gt (by decide)] at f2
      simp [f1, f2, nup_inf]
    · have hk : k32 x ≤ k32 2139095039 := by
        rw [show k32 2139095039 = 2139095039 from rfl]; unfold k32; split <;> omega
      have hnk : ∀ o, compare (k32 x) (k32 2139095039) = o → o ≠ .gt := by
        intro o e ho; subst ho
        rcases Int.lt_or_eq_of_le hk with h | h
        · rw [cmp_lt h] at e; cases e
        · rw [cmp_eq h] at e; cases e
      have hng : ¬ ford .f32 x 2139095039 = some .gt := by rw [f2]; intro e; exact hnk _ rfl (Option.some.inj e)
      by_cases c2 : k32 x = k32 0
      · rw [cmp_eq c2] at f3
        have e : nup x = 1 := by
          have c2' : x = 0 ∨ x = 2147483648 := by
            rw [show k32 0 = 0 from rfl] at c2
            unfold k32 at c2
            split at c2 <;> omega
          rcases c2' with rfl | rfl <;> (unfold nup; rw [nx]; rfl)
        simp [f1, hng, f3]
        have h1 : Fun Try.prog 53 [.int .u32 1] [] (.flt .f32 (cn .f32 1)) [] := c_from32 (n := 1) (by omega)
        (first | refine callG_r ?_ | refine callD_r ?_); simp; (first | refine callN_flat (by with_reducible first | exact h1) rfl ?_ | refine callN_new (by with_reducible first | exact h1) ?_ | refine callM_flat (by with_reducible first | exact h1) rfl ?_ | refine callM_new (by with_reducible first | exact h1) ?_)
        simp
        rw [e]; decide +kernel
      · by_cases c3 : k32 0 < k32 x
        · rw [cmp_gt c3] at f3
          have c4 : x < 2139095040 := by
            unfold k32 at c3; simp at c3
            split at c3 <;> omega
          have hw : IntKind.u32.wrap ((x : Int) + 1) = ((x + 1 : Nat) : Int) := by rw [IntKind.wrap_u32]; omega
          have e : nup x = x + 1 := by unfold nup; rw [nx]; simp [c1]; omega
          simp [f1, hng, f3]
          rw [hw]
          have h1 := c_from32 (n := x + 1) (by omega)
          rw [show ((x + 1 : Nat) : Int) = (x : Int) + 1 by simp] at h1
          (first | refine callG_r ?_ | refine callD_r ?_); simp; (first | refine callN_flat (by with_reducible first | exact h1) rfl ?_ | refine callN_new (by with_reducible first | exact h1) ?_ | refine callM_flat (by with_reducible first | exact h1) rfl ?_ | refine callM_new (by with_reducible first | exact h1) ?_)
          simp
          rw [e, cn_num (num_of (by omega))]
        · rw [cmp_lt (by omega : k32 x < k32 0)] at f3
          have c4 : 2147483648 < x := by
            unfold k32 at c3 c2; simp at c3 c2
            split at c3 <;> omega
          have hw : IntKind.u32.wrap ((x : Int) - 1) = ((x - 1 : Nat) : Int) := by rw [IntKind.wrap_u32]; omega
          have e : nup x = x - 1 := by unfold nup; rw [nx]; simp [c1, show ¬ x < 2147483648 by omega, show ¬ x = 2147483648 by omega]
          simp [f1, hng, f3]
          rw [hw]
          (first | refine callG_r ?_ | refine callD_r ?_); simp; (first | refine callN_flat (by with_reducible first | exact c_from32 (n := x - 1) (by omega)) rfl ?_ | refine callN_new (by with_reducible first | exact c_from32 (n := x - 1) (by omega)) ?_ | refine callM_flat (by with_reducible first | exact c_from32 (n := x - 1) (by omega)) rfl ?_ | refine callM_new (by with_reducible first | exact c_from32 (n := x - 1) (by omega)) ?_)
          simp
          rw [e, cn_num (num_of (by omega))]
end Go.Proofs.Ytfngkhkghjgmkaa
namespace Go.Proofs.Ytfngkhkghjgmkaa
set_option linter.all false
open Go Go.Awp
set_option maxRecDepth 100000
set_option maxHeartbeats 4000000
set_option pp.deepTerms true

theorem c_bits64 {x : Nat} (h : nanB .f64 x = false) : Fun Try.prog 85 [.flt .f64 x] [] (.int .u64 x) [] := by
  refine FnSpec.of_extern (e := Extern.MathFloatBits.float64bits) Try.func85 rfl rfl (by kernel_rfl) (by kernel_rfl) fun w E vs hv => ?_
  obtain ⟨h1, h2⟩ := hv
  obtain ⟨vs⟩ := vs
  match vs, h1 with
  | [v], _ =>
    have hr := h2 0 _ v rfl rfl
    cases hr with
    | flt _ _ r hr hl =>
      have hn : nanB .f64 r = false := by rw [← nanB_cn, hr]; exact h
      have e : r = x := by rw [← hr, cn_num hn]
      subst e
      exact ⟨.int .u64 r, 0, .int .u64 r, rfl, .int _ _, rfl, rfl, rfl⟩
theorem c_Signbit {x : Nat} (h : nanB .f64 x = false) (hx : x < 2 ^ FloatKind.f64.format.width) : Fun Try.prog 54 [.flt .f64 x] [] (.bool (sgB .f64 x)) [] := by
  refine FnSpec.walkF dr_ok Try.func54 rfl (by kernel_rfl) rfl rfl rfl (by simp) ?_
  simp
  (first | refine callG_r ?_ | refine callD_r ?_); simp; (first | refine callN_flat (by with_reducible first | exact c_bits64 h) rfl ?_ | refine callN_new (by with_reducible first | exact c_bits64 h) ?_ | refine callM_flat (by with_reducible first | exact c_bits64 h) rfl ?_ | refine callM_new (by with_reducible first | exact c_bits64 h) ?_)
  simp
  have hx : x < 18446744073709551616 := hx
  have hs : FloatKind.f64.format.signWeight = 9223372036854775808 := by decide +kernel
  unfold sgB
  rw [hs]
  have hw : IntKind.i64.wrap (x : Int) = if x < 9223372036854775808 then (x : Int) else x - 18446744073709551616 := by
    by_cases c : x < 9223372036854775808
    · rw [if_pos c, wrap64 (by omega) (by omega)]
    · rw [if_neg c, IntKind.wrap_i64]; omega
  rw [hw]
  by_cases c : x < 9223372036854775808
  · rw [if_pos c, Nat.div_eq_of_lt c]; simp
  · rw [if_neg c]
    have : x / 9223372036854775808 = 1 := by omega
    rw [this]; simp; omega
theorem c_SameNumber {x y : Nat} (hx : CanF .f32 x) (hy : CanF .f32 y) : Fun Try.prog 18 [.flt .f32 x, .flt .f32 y] [] (.bool (decide (x = y))) [] := by
  refine FnSpec.walkF dr_ok Try.func18 rfl (by kernel_rfl) rfl rfl rfl (by simp) ?_
  cases nx : nanB .f32 x with
  | true =>
    have ex := canF_nan hx nx
    have f1 : ford .f32 x x = none := ford_nan_l nx
    cases ny : nanB .f32 y with
    | true =>
      have ey := canF_nan hy ny
      have f2 : ford .f32 y y = none := ford_nan_l ny
      subst ex; subst ey
      simp [f1]
    | false =>
      have f2 : ford .f32 y y = some .eq := ford_self ny
      have : x ≠ y := by intro e; rw [e, ny] at nx; cases nx
      simp [f1, f2, this]
  | false =>
    have f1 : ford .f32 x x = some .eq := ford_self nx
    cases ny : nanB .f32 y with
    | true =>
      have f2 : ford .f32 y y = none := ford_nan_l ny
      have : x ≠ y := by intro e; rw [e, ny] at nx; cases nx
      simp [f1, f2, this]
    | false =>
      have f2 : ford .f32 y y = some .eq := ford_self ny
      have hs := same_word hx.2 hy.2 nx ny
      obtain ⟨a1, a2, a3⟩ := wid_sign nx
      obtain ⟨b1, b2, b3⟩ := wid_sign ny
      simp [f1, f2]
      by_cases c : ford .f32 x y = some .eq
      · simp [c]
        (first | refine callG_r ?_ | refine callD_r ?_); simp; (first | refine callN_flat (by with_reducible first | exact c_Signbit a1 a2) rfl ?_ | refine callN_new (by with_reducible first | exact c_Signbit a1 a2) ?_ | refine callM_flat (by with_reducible first | exact c_Signbit a1 a2) rfl ?_ | refine callM_new (by with_reducible first | exact c_Signbit a1 a2) ?_)
        simp
        (first | refine callG_r ?_ | refine callD_r ?_); simp; (first | refine callN_flat (by with_reducible first | exact c_Signbit b1 b2) rfl ?_ | refine callN_new (by with_reducible first | exact c_Signbit b1 b2) ?_ | refine callM_flat (by with_reducible first | exact c_Signbit b1 b2) rfl ?_ | refine callM_new (by with_reducible first | exact c_Signbit b1 b2) ?_)
        simp
        rw [a3, b3]
        rw [Bool.eq_iff_iff]
        simp
        rw [← hs]
        simp [c]
      · simp [c]
        intro e
        exact c (hs.2 e).1
theorem canF_fneg {x : Nat} (h : x < 4294967296) : CanF .f32 (fneg .f32 x) := ⟨cn_cn _ _, cn_lt (negFloat_lt .f32 x h)⟩
theorem canF_num {x : Nat} (h : x < 4294967296) (n : nanB .f32 x = false) : CanF .f32 x := ⟨cn_num n, h⟩
theorem canF_nup {x : Nat} (h : CanF .f32 x) : CanF .f32 (nup x) := by
  cases n : nanB .f32 x with
  | true => rw [nup_nan n]; exact h
  | false => obtain ⟨a, b⟩ := nup_num h.2 n; exact canF_num b a
theorem c_NextDown {x : Nat} (hx : CanF .f32 x) : Fun Try.prog 21 [.flt .f32 x] [] (.flt .f32 (ndn x)) [] := by
  refine FnSpec.walkF dr_ok Try.func21 rfl (by kernel_rfl) rfl rfl rfl (by simp) ?_
  simp
  have hf := canF_fneg hx.2
  (first | refine callG_r ?_ | refine callD_r ?_); simp; (first | refine callN_flat (by with_reducible first | exact c_NextUp hf) rfl ?_ | refine callN_new (by with_reducible first | exact c_NextUp hf) ?_ | refine callM_flat (by with_reducible first | exact c_NextUp hf) rfl ?_ | refine callM_new (by with_reducible first | exact c_NextUp hf) ?_)
  simp [ndn]
theorem canF_fop (op : BinOp) (x y : Nat) : CanF .f32 (fop op .f32 x y) := by
  unfold fop
  cases h : floatBits op .f32 x y with
  | some r =>
    have hw := floatBits_wf h
    have hl : r < 4294967296 := by simpa [Lit.wf] using hw
    exact canF_num hl (floatBits_num h)
  | none => exact ⟨cn_nan (nanB_qnan .f32), qnan_lt .f32⟩
/-- One of some integers. -/
theorem c_among (l : List Nat) (k : Nat) (xs : List Int) (m : Nat) (seed : Int) (hl : l.length ≤ 1048576) (hb : ∀ b ∈ l, b < 256) (hk : k + 2 < 1000000000000) (hm : m = xs.length) (h1 : 1 < m) (h2 : m ≤ 65536) :
    FnSpec Try.prog 84 [.ptr 0 0, .slc 1 0 m 1] [rd false l k seed, .blk false false 2 (cIs xs)] fun av H => ∃ (k' : Nat) (seed' x : Int), k' ≤ k + 2 ∧ x ∈ xs ∧ H = [rd false l k' seed', .blk false false 2 (cIs xs)] ∧ av = .int .i64 x := by
  subst hm
  refine FnSpec.walk dr_ok Try.func84 rfl (by kernel_rfl) rfl rfl rfl (by simp) ?_
  simp
  refine callG_on false [0] ?_; simp; refine callN_all (by with_reducible exact c_pick l k xs.length seed hl hb hk h1 h2) ?_; rintro _ _ ⟨k1, s1, hk1, rfl, x, hx, rfl⟩; refine ⟨fun e => (by cases e), ?_⟩; simp
  simp [hx]
  refine endG_keepT (r := .int .i64 xs[x]) (Hout := [rd false l k1 s1, .blk false false 2 (cIs xs)]) [] ?_ ?_ ?_ ?_ ?_ ?_ ?_ ?_ ?_ <;> simp
  exact ⟨k1, by omega, rfl⟩
theorem c_DrawPlain (l : List Nat) (k : Nat) (seed : Int) (hl : l.length ≤ 1048576) (hb : ∀ b ∈ l, b < 256) (hk : k + 4 < 1000000000000) :
    FnSpec Try.prog 83 [.ptr 0 0] [rd false l k seed] (RdR l k 4 QF) := by
  refine FnSpec.walk dr_ok Try.func83 rfl (by kernel_rfl) rfl rfl rfl (by simp) ?_
  simp
  refine callG_on false [0] ?_; simp; refine callN_all (by with_reducible exact c_pickL l k 129 129 seed rfl hl hb (by omega) (by omega) (by omega)) ?_; rintro _ _ ⟨k1, s1, hk1, rfl, x, hx, rfl⟩; refine ⟨fun e => (by cases e), ?_⟩; simp
  refine callG_on false [0] ?_; simp; refine callN_all (by with_reducible exact c_oneL l k1 4 4 s1 rfl hl hb (by omega) (by omega) (by omega)) ?_; rintro _ _ ⟨k2, s2, hk2, rfl, b, rfl⟩; refine ⟨fun e => (by cases e), ?_⟩; simp
  refine ⟨fun e => endG_src ?_, fun e => endG_src ?_⟩
  all_goals
    simp
    exact ⟨k2, s2, by omega, rfl, _, canF_fop _ _ _, rfl⟩
theorem c_DrawFloat (l : List Nat) (k : Nat) (seed : Int) (hl : l.length ≤ 1048576) (hb : ∀ b ∈ l, b < 256) (hk : k + 20 < 1000000000000) :
    FnSpec Try.prog 46 [.ptr 0 0] [rd false l k seed] (RdR l k 12 QF) := by
  refine FnSpec.walk dr_ok Try.func46 rfl (by kernel_rfl) rfl rfl rfl (by simp) ?_
  simp
  refine callG_on false [0] ?_; simp; refine callN_all (by with_reducible exact c_oneL l k 12 12 seed rfl hl hb (by omega) (by omega) (by omega)) ?_; rintro _ _ ⟨k1, s1, hk1, rfl, b, rfl⟩; refine ⟨fun e => (by cases e), ?_⟩; simp
  refine ⟨fun e => ?_, fun e => ?_⟩
  · refine callG_on false [0] ?_; simp; refine callN_all (by with_reducible exact c_DrawPlain l k1 s1 hl hb (by omega)) ?_; rintro _ _ ⟨k2, s2, hk2, rfl, y, hy, rfl⟩; refine ⟨fun e => (by cases e), ?_⟩; simp
    refine endG_src ?_
    simp
    exact ⟨k2, s2, by omega, rfl, y, hy, rfl⟩
  · refine callG_on false [0] ?_; simp; refine callN_all (by with_reducible exact c_pickL l k1 4 4 s1 rfl hl hb (by omega) (by omega) (by omega)) ?_; rintro _ _ ⟨k2, s2, hk2, rfl, x, hx, rfl⟩; refine ⟨fun e => (by cases e), ?_⟩; simp
    have hx4 : x = 0 ∨ x = 1 ∨ x = 2 ∨ x = 3 := by omega
    rcases hx4 with rfl | rfl | rfl | rfl
    · simp
      refine callG_on false [0, 1] ?_; simp; refine callN_all (by with_reducible exact c_among l k2 [0, 2147483648, 2139095040, 4286578688, 2143289344, 1, 2139095039, 8388608, 8388607, 2147483649] 10 s2 hl hb (by omega) rfl (by omega) (by omega)) ?_; rintro _ _ ⟨k3, s3, x, hk3, hx, rfl, rfl⟩; refine ⟨fun e => (by cases e), ?_⟩; simp
      have hall : ∀ y ∈ [(0 : Int), 2147483648, 2139095040, 4286578688, 2143289344, 1, 2139095039, 8388608, 8388607, 2147483649], 0 ≤ y ∧ y < 4294967296 := by decide
      obtain ⟨h1, h2⟩ := hall x hx
      obtain ⟨n, rfl⟩ := Int.eq_ofNat_of_zero_le h1
      have hn : n < 4294967296 := by omega
      (first | refine callG_r ?_ | refine callD_r ?_); simp; (first | refine callN_flat (by with_reducible first | exact c_l01From hn) rfl ?_ | refine callN_new (by with_reducible first | exact c_l01From hn) ?_ | refine callM_flat (by with_reducible first | exact c_l01From hn) rfl ?_ | refine callM_new (by with_reducible first | exact c_l01From hn) ?_)
      refine endG_keepT (r := .flt .f32 (cn .f32 n)) (Hout := [rd false l k3 s3]) [] ?_ ?_ ?_ ?_ ?_ ?_ ?_ ⟨k3, s3, by omega, rfl, _, canF_cn hn, rfl⟩ ?_ <;> simp
    · simp
      refine callG_on false [0] ?_; simp; refine callN_all (by with_reducible exact c_pickL l k2 65536 65536 s2 rfl hl hb (by omega) (by omega) (by omega)) ?_; rintro _ _ ⟨k3, s3, hk3, rfl, x, hx, rfl⟩; refine ⟨fun e => (by cases e), ?_⟩; simp
      have hm : IntKind.i64.wrap ((x : Int) * 65536) = ((x * 65536 : Nat) : Int) := by rw [wrap64 (by omega) (by omega)]; simp
      refine callG_on false [0] ?_; simp; refine callN_all (by with_reducible exact c_pickL l k3 65536 65536 s3 rfl hl hb (by omega) (by omega) (by omega)) ?_; rintro _ _ ⟨k4, s4, hk4, rfl, y, hy, rfl⟩; refine ⟨fun e => (by cases e), ?_⟩; simp
      have ha : IntKind.i64.wrap ((x : Int) * 65536 + (y : Int)) = ((x * 65536 + y : Nat) : Int) := by rw [wrap64 (by omega) (by omega)]; simp
      have hn : x * 65536 + y < 4294967296 := by omega
      have hc := c_l01From hn
      rw [show ((x * 65536 + y : Nat) : Int) = (x : Int) * 65536 + (y : Int) by simp] at hc
      simp [hm, ha]
      (first | refine callG_r ?_ | refine callD_r ?_); simp; (first | refine callN_flat (by with_reducible first | exact hc) rfl ?_ | refine callN_new (by with_reducible first | exact hc) ?_ | refine callM_flat (by with_reducible first | exact hc) rfl ?_ | refine callM_new (by with_reducible first | exact hc) ?_)
      refine endG_src ?_
      simp
      exact ⟨k4, s4, by omega, rfl, _, canF_cn hn, rfl⟩
    · simp
      refine callG_on false [0] ?_; simp; refine callN_all (by with_reducible exact c_pickL l k2 65536 65536 s2 rfl hl hb (by omega) (by omega) (by omega)) ?_; rintro _ _ ⟨k3, s3, hk3, rfl, x, hx, rfl⟩; refine ⟨fun e => (by cases e), ?_⟩; simp
      have hm : IntKind.i64.wrap ((x : Int) * 65536) = ((x * 65536 : Nat) : Int) := by rw [wrap64 (by omega) (by omega)]; simp
      have hn : x * 65536 < 4294967296 := by omega
      have hc := c_l01From hn
      rw [show ((x * 65536 : Nat) : Int) = (x : Int) * 65536 by simp] at hc
      simp [hm]
      (first | refine callG_r ?_ | refine callD_r ?_); simp; (first | refine callN_flat (by with_reducible first | exact hc) rfl ?_ | refine callN_new (by with_reducible first | exact hc) ?_ | refine callM_flat (by with_reducible first | exact hc) rfl ?_ | refine callM_new (by with_reducible first | exact hc) ?_)
      refine endG_src ?_
      simp
      exact ⟨k3, s3, by omega, rfl, _, canF_cn hn, rfl⟩
    · simp
      refine callG_on false [0] ?_; simp; refine callN_all (by with_reducible exact c_DrawPlain l k2 s2 hl hb (by omega)) ?_; rintro _ _ ⟨k3, s3, hk3, rfl, z, hz, rfl⟩; refine ⟨fun e => (by cases e), ?_⟩; simp
      refine callG_on false [0, 1] ?_; simp; refine callN_all (by with_reducible exact c_among l k3 [8388608, 2130706432, 1610612736, 536870912] 4 s3 hl hb (by omega) rfl (by omega) (by omega)) ?_; rintro _ _ ⟨k4, s4, x, hk4, hx, rfl, rfl⟩; refine ⟨fun e => (by cases e), ?_⟩; simp
      have hall : ∀ y ∈ [(8388608 : Int), 2130706432, 1610612736, 536870912], 0 ≤ y ∧ y < 4294967296 := by decide
      obtain ⟨h1, h2⟩ := hall x hx
      obtain ⟨n, rfl⟩ := Int.eq_ofNat_of_zero_le h1
      have hn : n < 4294967296 := by omega
      (first | refine callG_r ?_ | refine callD_r ?_); simp; (first | refine callN_flat (by with_reducible first | exact c_l01From hn) rfl ?_ | refine callN_new (by with_reducible first | exact c_l01From hn) ?_ | refine callM_flat (by with_reducible first | exact c_l01From hn) rfl ?_ | refine callM_new (by with_reducible first | exact c_l01From hn) ?_)
      simp
      refine endG_keepT (r := .flt .f32 (fop .mul .f32 z (cn .f32 n))) (Hout := [rd false l k4 s4]) [] ?_ ?_ ?_ ?_ ?_ ?_ ?_ ⟨k4, s4, by omega, rfl, _, canF_fop _ _ _, rfl⟩ ?_ <;> simp
/-- A number drawn. -/
theorem c_B10Number (l : List Nat) (n : Nat) (hn : n = l.length) (hl : l.length ≤ 1048576) (hb : ∀ b ∈ l, b < 256) :
    FnSpec Try.prog 10 [.view false (cBy l) n] [] fun av H => H = [] ∧ av.flats = true ∧ QF av := by
  subst hn
  refine FnSpec.walkF dr_ok Try.func10 rfl (by kernel_rfl) rfl rfl rfl (by simp) ?_
  simp
  refine callG_v ?_; simp; refine callNV_fun (by with_reducible exact c_l00From l) ?_
  simp
  have h1 : FnSpec Try.prog 43 [.ptr 0 0, .int .i64 2] [.blk false true 95 [.view false (cBy l) l.length, .int .i64 0, .int .u64 0]] (RdR l 0 2 QB) := c_oneL l 0 2 2 0 rfl hl hb (by omega) (by omega) (by omega)
  refine callG_on false [0] ?_; simp; refine callN_all (by with_reducible exact h1) ?_; rintro _ _ ⟨k1, s1, hk1, rfl, b, rfl⟩; refine ⟨fun e => (by cases e), ?_⟩; simp
  refine ⟨fun e => ?_, fun e => ?_⟩
  · refine callG_on false [0] ?_; simp; refine callN_all (by with_reducible exact c_pickL l k1 65536 65536 s1 rfl hl hb (by omega) (by omega) (by omega)) ?_; rintro _ _ ⟨k3, s3, hk3, rfl, x, hx, rfl⟩; refine ⟨fun e => (by cases e), ?_⟩; simp
    have hm : IntKind.i64.wrap ((x : Int) * 65536) = ((x * 65536 : Nat) : Int) := by rw [wrap64 (by omega) (by omega)]; simp
    refine callG_on false [0] ?_; simp; refine callN_all (by with_reducible exact c_pickL l k3 65536 65536 s3 rfl hl hb (by omega) (by omega) (by omega)) ?_; rintro _ _ ⟨k4, s4, hk4, rfl, y, hy, rfl⟩; refine ⟨fun e => (by cases e), ?_⟩; simp
    have ha : IntKind.i64.wrap ((x : Int) * 65536 + (y : Int)) = ((x * 65536 + y : Nat) : Int) := by rw [wrap64 (by omega) (by omega)]; simp
    have hn : x * 65536 + y < 4294967296 := by omega
    have hc := c_l01From hn
    rw [show ((x * 65536 + y : Nat) : Int) = (x : Int) * 65536 + (y : Int) by simp] at hc
    simp [hm, ha]
    (first | refine callG_r ?_ | refine callD_r ?_); simp; (first | refine callN_flat (by with_reducible first | exact hc) rfl ?_ | refine callN_new (by with_reducible first | exact hc) ?_ | refine callM_flat (by with_reducible first | exact hc) rfl ?_ | refine callM_new (by with_reducible first | exact hc) ?_)
    simp
    exact ⟨_, canF_cn hn, rfl⟩
  · refine callG_on false [0] ?_; simp; refine callN_all (by with_reducible exact c_DrawFloat l k1 s1 hl hb (by omega)) ?_; rintro _ _ ⟨k2, s2, hk2, rfl, y, hy, rfl⟩; refine ⟨fun e => (by cases e), ?_⟩; simp
    exact ⟨y, hy, rfl⟩
end Go.Proofs.Ytfngkhkghjgmkaa
namespace Go.Proofs.Ytfngkhkghjgmkaa
set_option linter.all false
open Go Go.Awp
set_option maxRecDepth 100000
set_option maxHeartbeats 4000000
set_option pp.deepTerms true

theorem wf_u8 {n : Int} (h : (Lit.int .u8 n).wf = true) : ∃ m : Nat, m < 256 ∧ n = m := by
  have h2 : Lit.wf (.int .u8 n) = decide (IntKind.u8.min ≤ n ∧ n ≤ IntKind.u8.max) := by simp [Lit.wf]
  rw [h2] at h
  have := of_decide_eq_true h
  have e1 : IntKind.u8.min = 0 := by decide
  have e2 : IntKind.u8.max = 255 := by decide
  rw [e1, e2] at this
  exact ⟨n.toNat, by omega, by omega⟩
theorem opens_By : Opens Try.prog 5 fun l => ∃ n : Nat, n < 256 ∧ l = [.int .u8 (n : Int)] := (opens_int Try.underlying5).mono (by
    rintro l ⟨x, hx, rfl⟩
    obtain ⟨m, hm, rfl⟩ := wf_u8 hx
    exact ⟨m, hm, rfl⟩)
theorem flat_bytes (l : List Nat) : l.flatMap (fun n : Nat => [AV.int .u8 (n : Int)]) = cBy l := by
  induction l with
  | nil => rfl
  | cons a l ih => simp only [List.flatMap_cons, ih]; rfl
theorem opens_Bys : Opens Try.prog 22 fun l => ∃ vs : List Nat, ((∀ v ∈ vs, v < 256) ∧ vs.length ≤ maxLen) ∧ l = [.view false (cBy vs) vs.length] :=
  (opens_slice (enc' := fun n : Nat => [AV.int .u8 (n : Int)]) Try.underlying22 (by kernel_rfl) (by decide : 0 < 1) (fun _ => rfl) opens_By).mono (by
    rintro l ⟨vs, h, rfl⟩
    exact ⟨vs, h, by rw [flat_bytes]⟩)
theorem arg_Bys : ArgOk Try.prog 22 fun a => ∃ vs : List Nat, ((∀ v ∈ vs, v < 256) ∧ vs.length ≤ maxLen) ∧ a = .view false (cBy vs) vs.length :=
  argOk_one (by rw [Try.underlying22]; intro fs h; cases h) (by rw [Try.underlying22]; intro n e h; cases h) (opens_Bys.mono (by
    rintro l ⟨x, hx, rfl⟩
    exact ⟨_, ⟨x, hx, rfl⟩, rfl⟩))
theorem relL_of {W : World} {avs : List AV} {args : Array Value} (h1 : avs.length = args.toList.length) (h2 : ∀ (i : Nat) a v, avs[i]? = some a → args.toList[i]? = some v → VRel W (env0 W) a v) : RelL W (env0 W) avs args :=
  ⟨by simpa using h1, fun i a v ha hv => h2 i a v ha (by simpa using hv)⟩
theorem c_b10Long (l m : List Nat) (h1 : l.length ≤ maxLen) (h2 : m.length ≤ maxLen) : Fun Try.prog 9 [.view false (cBy l) l.length, .view false (cBy m) m.length] [] (.bool (decide (1048576 < l.length) || decide (1048576 < m.length))) [] := by
  refine FnSpec.walkF dr_ok Try.func9 rfl (by kernel_rfl) rfl rfl rfl (by simp) ?_
  simp
  grind
theorem cmp_gt' {a b : Int} (h : compare a b = .gt) : b < a := by
  rcases Int.lt_trichotomy a b with c | c | c
  · rw [cmp_lt c] at h; cases h
  · rw [cmp_eq c] at h; cases h
  · exact c
theorem cmp_lt' {a b : Int} (h : compare a b = .lt) : a < b := by
  rcases Int.lt_trichotomy a b with c | c | c
  · exact c
  · rw [cmp_eq c] at h; cases h
  · rw [cmp_gt c] at h; cases h
theorem gt_of {x y : Nat} (hx : x < 4294967296) (hy : y < 4294967296) (nx : nanB .f32 x = false) (ny : nanB .f32 y = false) (h : ford .f32 x y = some .gt) : k32 y < k32 x := by
  rw [ford32 hx hy nx ny] at h; exact cmp_gt' (Option.some.inj h)
theorem lt_of {x y : Nat} (hx : x < 4294967296) (hy : y < 4294967296) (nx : nanB .f32 x = false) (ny : nanB .f32 y = false) (h : ford .f32 x y = some .lt) : k32 x < k32 y := by
  rw [ford32 hx hy nx ny] at h; exact cmp_lt' (Option.some.inj h)
theorem law_FnBits (l m : List Nat) (hb : ∀ b ∈ l, b < 256) (hb' : ∀ b ∈ m, b < 256) (h1 : l.length ≤ maxLen) (h2 : m.length ≤ maxLen) : FnSpec Try.prog 4 [.view false (cBy l) l.length, .view false (cBy m) m.length] [] fun av _ => av = .bool true := by
  refine FnSpec.walkF dr_ok Try.func4 rfl (by kernel_rfl) rfl rfl rfl (by simp) ?_
  simp
  (first | refine callG_r ?_ | refine callD_r ?_); simp; (first | refine callN_flat (by with_reducible first | exact c_b10Long l m h1 h2) rfl ?_ | refine callN_new (by with_reducible first | exact c_b10Long l m h1 h2) ?_ | refine callM_flat (by with_reducible first | exact c_b10Long l m h1 h2) rfl ?_ | refine callM_new (by with_reducible first | exact c_b10Long l m h1 h2) ?_)
  simp
  intro q1 q2
  refine callG_r ?_
  simp
  refine callN_rel (c_B10Number l _ rfl (by omega) hb) ?_
  rintro _ ⟨x, hx, rfl⟩
  simp
  refine callG_r ?_
  simp
  refine callN_rel (c_B10Number m _ rfl (by omega) hb') ?_
  rintro _ ⟨y, hy, rfl⟩
  simp
  (first | refine callG_r ?_ | refine callD_r ?_); simp; (first | refine callN_flat (by with_reducible first | exact c_BitsOf hx) rfl ?_ | refine callN_new (by with_reducible first | exact c_BitsOf hx) ?_ | refine callM_flat (by with_reducible first | exact c_BitsOf hx) rfl ?_ | refine callM_new (by with_reducible first | exact c_BitsOf hx) ?_)
  have hxl : x < 4294967296 := hx.2
  simp
  (first | refine callG_r ?_ | refine callD_r ?_); simp; (first | refine callN_flat (by with_reducible first | exact c_FromBits hxl) rfl ?_ | refine callN_new (by with_reducible first | exact c_FromBits hxl) ?_ | refine callM_flat (by with_reducible first | exact c_FromBits hxl) rfl ?_ | refine callM_new (by with_reducible first | exact c_FromBits hxl) ?_)
  have hle : (x : Int) ≤ 4294967295 := by omega
  have d1 : decide (x = y) = ((x : Int) == (y : Int)) := by rw [Bool.eq_iff_iff]; simp; omega
  cases nx : nanB .f32 x with
  | true =>
    have ex := canF_nan hx nx
    have f1 : ford .f32 x x = none := ford_nan_l nx
    have f2 : ford .f32 (fop .sub .f32 x x) 0 = none := by unfold fop; rw [floatBits_nan_l nx]; exact ford_nan_l (nanB_qnan .f32)
    have f3 : bitsV .and .i64 (x : Int) 2139095040 = 2139095040 := (fin_and hxl).2 (by rw [ex]; rfl)
    have ex' : (x : Int) = 2143289344 := by omega
    have f4 : ford .f32 (nup x) (nup x) = none := by rw [nup_nan nx]; exact f1
    have f5 : ford .f32 (ndn x) (ndn x) = none := by rw [ex]; exact ford_nan_l (by decide +kernel)
    simp [hx.1, hle]
    (first | refine callG_r ?_ | refine callD_r ?_); simp; (first | refine callN_flat (by with_reducible first | exact c_SameNumber hx hx) rfl ?_ | refine callN_new (by with_reducible first | exact c_SameNumber hx hx) ?_ | refine callM_flat (by with_reducible first | exact c_SameNumber hx hx) rfl ?_ | refine callM_new (by with_reducible first | exact c_SameNumber hx hx) ?_)
    simp
    (first | refine callG_r ?_ | refine callD_r ?_); simp; (first | refine callN_flat (by with_reducible first | exact c_SameNumber hx hy) rfl ?_ | refine callN_new (by with_reducible first | exact c_SameNumber hx hy) ?_ | refine callM_flat (by with_reducible first | exact c_SameNumber hx hy) rfl ?_ | refine callM_new (by with_reducible first | exact c_SameNumber hx hy) ?_)
    simp
    (first | refine callG_r ?_ | refine callD_r ?_); simp; (first | refine callN_flat (by with_reducible first | exact c_BitsOf hy) rfl ?_ | refine callN_new (by with_reducible first | exact c_BitsOf hy) ?_ | refine callM_flat (by with_reducible first | exact c_BitsOf hy) rfl ?_ | refine callM_new (by with_reducible first | exact c_BitsOf hy) ?_)
    simp [f1]
    refine ⟨fun _ => ⟨fun _ => ?_, by rw [ex']; rfl⟩, d1⟩
    (first | refine callG_r ?_ | refine callD_r ?_); simp; (first | refine callN_flat (by with_reducible first | exact c_IsFinite x) rfl ?_ | refine callN_new (by with_reducible first | exact c_IsFinite x) ?_ | refine callM_flat (by with_reducible first | exact c_IsFinite x) rfl ?_ | refine callM_new (by with_reducible first | exact c_IsFinite x) ?_)
    simp [f2, f3]
    (first | refine callG_r ?_ | refine callD_r ?_); simp; (first | refine callN_flat (by with_reducible first | exact c_NextUp hx) rfl ?_ | refine callN_new (by with_reducible first | exact c_NextUp hx) ?_ | refine callM_flat (by with_reducible first | exact c_NextUp hx) rfl ?_ | refine callM_new (by with_reducible first | exact c_NextUp hx) ?_)
    simp
    (first | refine callG_r ?_ | refine callD_r ?_); simp; (first | refine callN_flat (by with_reducible first | exact c_NextDown hx) rfl ?_ | refine callN_new (by with_reducible first | exact c_NextDown hx) ?_ | refine callM_flat (by with_reducible first | exact c_NextDown hx) rfl ?_ | refine callM_new (by with_reducible first | exact c_NextDown hx) ?_)
    simp [f1, f4, f5]
  | false =>
    have f1 : ford .f32 x x = some .eq := ford_self nx
    have hnl := num_le hxl nx
    have ex' : ¬ (x : Int) = 2143289344 := by omega
    have fb := finB_eq hxl nx
    have fa := fin_and hxl
    simp [hx.1, hle]
    (first | refine callG_r ?_ | refine callD_r ?_); simp; (first | refine callN_flat (by with_reducible first | exact c_SameNumber hx hx) rfl ?_ | refine callN_new (by with_reducible first | exact c_SameNumber hx hx) ?_ | refine callM_flat (by with_reducible first | exact c_SameNumber hx hx) rfl ?_ | refine callM_new (by with_reducible first | exact c_SameNumber hx hx) ?_)
    simp
    (first | refine callG_r ?_ | refine callD_r ?_); simp; (first | refine callN_flat (by with_reducible first | exact c_SameNumber hx hy) rfl ?_ | refine callN_new (by with_reducible first | exact c_SameNumber hx hy) ?_ | refine callM_flat (by with_reducible first | exact c_SameNumber hx hy) rfl ?_ | refine callM_new (by with_reducible first | exact c_SameNumber hx hy) ?_)
    simp
    (first | refine callG_r ?_ | refine callD_r ?_); simp; (first | refine callN_flat (by with_reducible first | exact c_BitsOf hy) rfl ?_ | refine callN_new (by with_reducible first | exact c_BitsOf hy) ?_ | refine callM_flat (by with_reducible first | exact c_BitsOf hy) rfl ?_ | refine callM_new (by with_reducible first | exact c_BitsOf hy) ?_)
    simp [f1]
    refine ⟨fun _ => ⟨fun _ => ?_, by omega⟩, d1⟩
    have hfin : fin32 x = (bitsV .and .i64 (x : Int) 2139095040 != 2139095040) := by
      cases h : fin32 x with
      | false => rw [fa.2 h]; rfl
      | true =>
        have : ¬ bitsV .and .i64 (x : Int) 2139095040 = 2139095040 := fun e => by rw [fa.1 e] at h; cases h
        simp [this]
    (first | refine callG_r ?_ | refine callD_r ?_); simp; (first | refine callN_flat (by with_reducible first | exact c_IsFinite x) rfl ?_ | refine callN_new (by with_reducible first | exact c_IsFinite x) ?_ | refine callM_flat (by with_reducible first | exact c_IsFinite x) rfl ?_ | refine callM_new (by with_reducible first | exact c_IsFinite x) ?_)
    simp [fb]
    refine ⟨hfin, fun _ => ?_⟩
    (first | refine callG_r ?_ | refine callD_r ?_); simp; (first | refine callN_flat (by with_reducible first | exact c_NextUp hx) rfl ?_ | refine callN_new (by with_reducible first | exact c_NextUp hx) ?_ | refine callM_flat (by with_reducible first | exact c_NextUp hx) rfl ?_ | refine callM_new (by with_reducible first | exact c_NextUp hx) ?_)
    simp
    (first | refine callG_r ?_ | refine callD_r ?_); simp; (first | refine callN_flat (by with_reducible first | exact c_NextDown hx) rfl ?_ | refine callN_new (by with_reducible first | exact c_NextDown hx) ?_ | refine callM_flat (by with_reducible first | exact c_NextDown hx) rfl ?_ | refine callM_new (by with_reducible first | exact c_NextDown hx) ?_)
    simp [f1]
    (first | refine callG_r ?_ | refine callD_r ?_); simp; (first | refine callN_flat (by with_reducible first | exact c_IsFinite x) rfl ?_ | refine callN_new (by with_reducible first | exact c_IsFinite x) ?_ | refine callM_flat (by with_reducible first | exact c_IsFinite x) rfl ?_ | refine callM_new (by with_reducible first | exact c_IsFinite x) ?_)
    cases hf : fin32 x with
    | true =>
      have hx1 : x ≠ 2139095040 := fun e => by rw [e] at hf; exact absurd hf (by decide)
      have hx2 : x ≠ 4286578688 := fun e => by rw [e] at hf; exact absurd hf (by decide)
      obtain ⟨u1, u2⟩ := nup_num hxl nx
      obtain ⟨v1, v2⟩ := ndn_num hxl nx
      have ku := nup_key hxl nx hx1
      have kv := ndn_key hxl nx hx2
      have c1 := gt32 u2 hxl u1 nx (by omega)
      have c2 := lt32 v2 hxl v1 nx (by omega)
      have hu1 : nup x ≠ 4286578688 := by
        intro e; rw [e] at ku
        have := num_le hxl nx
        unfold k32 at ku; split at ku <;> split at ku <;> omega
      have hv1 : ndn x ≠ 2139095040 := by
        intro e; rw [e] at kv
        have := num_le hxl nx
        unfold k32 at kv; split at kv <;> split at kv <;> omega
      have kd := ndn_key u2 u1 hu1
      have kw := nup_key v2 v1 hv1
      obtain ⟨w1, w2⟩ := ndn_num u2 u1
      obtain ⟨z1, z2⟩ := nup_num v2 v1
      have c3 := eq32 w2 hxl w1 nx (by omega)
      have c4 := eq32 z2 hxl z1 nx (by omega)
      have hu : CanF .f32 (nup x) := canF_num u2 u1
      have hv : CanF .f32 (ndn x) := canF_num v2 v1
      have ha : ford .f32 y x = some .gt → ¬ ford .f32 y (nup x) = some .lt := by
        intro e1 e2
        cases ny : nanB .f32 y with
        | true => rw [ford_nan_l ny] at e1; cases e1
        | false =>
          have g1 := gt_of hy.2 hxl ny nx e1
          have g2 := lt_of hy.2 u2 ny u1 e2
          omega
      have hb2 : ford .f32 y x = some .lt → ¬ ford .f32 y (ndn x) = some .gt := by
        intro e1 e2
        cases ny : nanB .f32 y with
        | true => rw [ford_nan_l ny] at e1; cases e1
        | false =>
          have g1 := lt_of hy.2 hxl ny nx e1
          have g2 := gt_of hy.2 v2 ny v1 e2
          omega
      simp [fb, hf, c1, c2]
      cases o : ford .f32 y x with
      | none =>
        simp
        (first | refine callG_r ?_ | refine callD_r ?_); simp; (first | refine callN_flat (by with_reducible first | exact c_NextDown hu) rfl ?_ | refine callN_new (by with_reducible first | exact c_NextDown hu) ?_ | refine callM_flat (by with_reducible first | exact c_NextDown hu) rfl ?_ | refine callM_new (by with_reducible first | exact c_NextDown hu) ?_)
        simp [c3]
        (first | refine callG_r ?_ | refine callD_r ?_); simp; (first | refine callN_flat (by with_reducible first | exact c_NextUp hv) rfl ?_ | refine callN_new (by with_reducible first | exact c_NextUp hv) ?_ | refine callM_flat (by with_reducible first | exact c_NextUp hv) rfl ?_ | refine callM_new (by with_reducible first | exact c_NextUp hv) ?_)
        simp [c4]
      | some r =>
        cases r with
        | lt =>
          have hc := hb2 o
          simp [hc]
          (first | refine callG_r ?_ | refine callD_r ?_); simp; (first | refine callN_flat (by with_reducible first | exact c_NextDown hu) rfl ?_ | refine callN_new (by with_reducible first | exact c_NextDown hu) ?_ | refine callM_flat (by with_reducible first | exact c_NextDown hu) rfl ?_ | refine callM_new (by with_reducible first | exact c_NextDown hu) ?_)
          simp [c3]
          (first | refine callG_r ?_ | refine callD_r ?_); simp; (first | refine callN_flat (by with_reducible first | exact c_NextUp hv) rfl ?_ | refine callN_new (by with_reducible first | exact c_NextUp hv) ?_ | refine callM_flat (by with_reducible first | exact c_NextUp hv) rfl ?_ | refine callM_new (by with_reducible first | exact c_NextUp hv) ?_)
          simp [c4]
        | eq =>
          simp
          (first | refine callG_r ?_ | refine callD_r ?_); simp; (first | refine callN_flat (by with_reducible first | exact c_NextDown hu) rfl ?_ | refine callN_new (by with_reducible first | exact c_NextDown hu) ?_ | refine callM_flat (by with_reducible first | exact c_NextDown hu) rfl ?_ | refine callM_new (by with_reducible first | exact c_NextDown hu) ?_)
          simp [c3]
          (first | refine callG_r ?_ | refine callD_r ?_); simp; (first | refine callN_flat (by with_reducible first | exact c_NextUp hv) rfl ?_ | refine callN_new (by with_reducible first | exact c_NextUp hv) ?_ | refine callM_flat (by with_reducible first | exact c_NextUp hv) rfl ?_ | refine callM_new (by with_reducible first | exact c_NextUp hv) ?_)
          simp [c4]
        | gt =>
          have hc := ha o
          simp [hc]
          (first | refine callG_r ?_ | refine callD_r ?_); simp; (first | refine callN_flat (by with_reducible first | exact c_NextDown hu) rfl ?_ | refine callN_new (by with_reducible first | exact c_NextDown hu) ?_ | refine callM_flat (by with_reducible first | exact c_NextDown hu) rfl ?_ | refine callM_new (by with_reducible first | exact c_NextDown hu) ?_)
          simp [c3]
          (first | refine callG_r ?_ | refine callD_r ?_); simp; (first | refine callN_flat (by with_reducible first | exact c_NextUp hv) rfl ?_ | refine callN_new (by with_reducible first | exact c_NextUp hv) ?_ | refine callM_flat (by with_reducible first | exact c_NextUp hv) rfl ?_ | refine callM_new (by with_reducible first | exact c_NextUp hv) ?_)
          simp [c4]
    | false =>
      have hx3 : x = 2139095040 ∨ x = 4286578688 := by
        have := of_decide_eq_false hf
        omega
      rcases hx3 with rfl | rfl
      · have c1 : ford .f32 2139095040 0 = some .gt := gt32 (by omega) (by omega) nx (num_of (by omega)) (by decide)
        have c2 : ford .f32 (ndn 2139095040) 2139095040 = some .lt := by
          obtain ⟨v1, v2⟩ := ndn_num hxl nx
          exact lt32 v2 hxl v1 nx (by rw [ndn_key hxl nx (by omega)]; omega)
        simp [fb, hf, c1, nup_inf, f1, c2]
      · have c1 : ford .f32 4286578688 0 = some .lt := lt32 (by omega) (by omega) nx (num_of (by omega)) (by decide)
        have c2 : ford .f32 (nup 4286578688) 4286578688 = some .gt := by
          obtain ⟨v1, v2⟩ := nup_num hxl nx
          exact gt32 v2 hxl v1 nx (by rw [nup_key hxl nx (by omega)]; omega)
        simp [fb, hf, c1, ndn_inf, f1, c2]
end Go.Proofs.Ytfngkhkghjgmkaa
namespace Go.Proofs.Ytfngkhkghjgmkaa
set_option linter.all false
open Go Go.Awp Ieee
set_option maxRecDepth 100000

theorem log2_at {m P : Nat} (h1 : 2 ^ P ≤ m) (h2 : m < 2 ^ (P + 1)) : m.log2 = P := by
  have hm : m ≠ 0 := by have := Nat.two_pow_pos P; omega
  exact (Nat.log2_eq_iff hm).2 ⟨h1, h2⟩
theorem rmag_big {f : Format} {r : Nat} (h : ¬ r < f.binade) : rmag f r = (f.binade + r % f.binade) * 2 ^ (r / f.binade - 1) := by unfold rmag; rw [if_neg h]
theorem rmag_low {f : Format} {r : Nat} (h : r < f.binade) : rmag f r = r := by unfold rmag; rw [if_pos h]
theorem near_rmag (f : Format) (neg : Bool) {r : Nat} (h : r ≤ f.infRung) : f.nearest neg (rmag f r) f.leastPlace = f.word neg r := by
  have hB : f.binade = 2 ^ f.fractionBits := rfl
  have hp : 0 < f.binade := Nat.two_pow_pos _
  by_cases h0 : r = 0
  · subst h0; rw [rmag_zero]; unfold Format.nearest; rw [if_pos rfl]
  · have hpos : rmag f r ≠ 0 := by have := rmag_lt f (r := 0) (s := r) (by omega); rw [rmag_zero] at this; omega
    unfold Format.nearest
    rw [if_neg hpos]
    dsimp only
    by_cases c : r < f.binade
    · have hl : r.log2 ≤ f.fractionBits := log2_of_lt (by rw [Nat.pow_succ]; omega)
      rw [rmag_low c, show max (f.leastPlace + (r.log2 : Int) - f.fractionBits) f.leastPlace = f.leastPlace by omega]
      rw [show (f.leastPlace - f.leastPlace).toNat = 0 by omega, Nat.shiftLeft_zero, cut_zero, Nat.zero_mul, Nat.zero_add, Nat.min_eq_left h]
    · have hdm := Nat.div_add_mod r f.binade
      have hlt := Nat.mod_lt r hp
      have hq : 1 ≤ r / f.binade := Nat.div_pos (by omega) hp
      rw [rmag_big c]
      generalize ht : r % f.binade = t at *
      generalize hqq : r / f.binade = q at *
      have hl : ((f.binade + t) * 2 ^ (q - 1)).log2 = f.fractionBits + (q - 1) := by
        rw [log2_mul_pow (by omega), log2_at (P := f.fractionBits) (by omega) (by rw [Nat.pow_succ]; omega)]
      rw [hl, show max (f.leastPlace + ((f.fractionBits + (q - 1) : Nat) : Int) - f.fractionBits) f.leastPlace = f.leastPlace + (q - 1 : Nat) by omega]
      rw [show (f.leastPlace - (f.leastPlace + (q - 1 : Nat))).toNat = 0 by omega, Nat.shiftLeft_zero, show (f.leastPlace + ((q - 1 : Nat) : Int) - f.leastPlace).toNat = q - 1 by omega]
      rw [cut_exact _ (by omega) (Nat.le_refl _), Nat.sub_self, Nat.pow_zero, Nat.mul_one]
      have e : (q - 1) * f.binade + (f.binade + t) = r := by
        rw [← hdm]
        obtain ⟨k, rfl⟩ : ∃ k, q = k + 1 := ⟨q - 1, by omega⟩
        rw [Nat.add_sub_cancel, Nat.mul_add, Nat.mul_comm k, Nat.mul_one]; omega
      rw [e, Nat.min_eq_left h]
def dlt (c r : Nat) : Nat := if c = 3 ∨ (c = 2 ∧ r % 2 = 1) then 1 else 0
theorem cut_two (neg : Bool) (m c : Nat) (h : c ≤ 3) : Toward.even.cut neg (4 * m + c) 2 = m + dlt c m := by
  unfold Toward.cut dlt
  dsimp only
  rw [show min 2 ((4 * m + c).log2 + 2) = 2 by omega, show (1 <<< 2 : Nat) = 4 from rfl, show (4 * m + c) / 4 = m by omega, show (4 * m + c) % 4 = c by omega]
  congr 1
  have hc : c = 0 ∨ c = 1 ∨ c = 2 ∨ c = 3 := by omega
  rcases hc with rfl | rfl | rfl | rfl
  · simp
  · simp
  · by_cases o : m % 2 = 1 <;> simp [o]
  · simp
/-- How far the next number is. -/
def gapR (f : Format) (r : Nat) : Nat := if r < f.binade then 1 else 2 ^ (r / f.binade - 1)
theorem near_quarter (f : Format) (neg : Bool) {r c : Nat} (hF : 1 ≤ f.fractionBits) (h : r < f.infRung) (hc : c ≤ 3) : f.nearest neg (4 * rmag f r + c * gapR f r) (f.leastPlace - 2) = f.word neg (r + dlt c r) := by
  have hB : f.binade = 2 ^ f.fractionBits := rfl
  have hp : 0 < f.binade := Nat.two_pow_pos _
  have hd : dlt c r ≤ 1 := by unfold dlt; split <;> omega
  by_cases c0 : r < f.binade
  · unfold gapR
    rw [rmag_low c0, if_pos c0, Nat.mul_one]
    by_cases h0 : 4 * r + c = 0
    · have e1 : r = 0 := by omega
      have e2 : c = 0 := by omega
      subst e1; subst e2
      unfold Format.nearest dlt; simp
    · unfold Format.nearest
      rw [if_neg h0]
      dsimp only
      have hl : (4 * r + c).log2 ≤ f.fractionBits + 1 := log2_of_lt (by rw [Nat.pow_succ, Nat.pow_succ]; omega)
      rw [show max (f.leastPlace - 2 + ((4 * r + c).log2 : Int) - f.fractionBits) f.leastPlace = f.leastPlace by omega]
      rw [show (f.leastPlace - 2 - f.leastPlace).toNat = 0 by omega, Nat.shiftLeft_zero, show (f.leastPlace - (f.leastPlace - 2)).toNat = 2 by omega, cut_two _ _ _ hc, show (f.leastPlace - f.leastPlace).toNat = 0 by omega, Nat.zero_mul, Nat.zero_add, Nat.min_eq_left (by omega)]
  · have hdm := Nat.div_add_mod r f.binade
    have hlt := Nat.mod_lt r hp
    have hq : 1 ≤ r / f.binade := Nat.div_pos (by omega) hp
    have hpar : dlt c (f.binade + r % f.binade) = dlt c r := by
      have h2 : f.binade = 2 * 2 ^ (f.fractionBits - 1) := by rw [← Nat.pow_succ', hB]; congr 1; omega
      have : (f.binade + r % f.binade) % 2 = r % 2 := by
        rw [Nat.add_mod, Nat.mod_mod_of_dvd r ⟨_, h2⟩, h2, Nat.mul_mod_right]; omega
      unfold dlt; rw [this]
    unfold gapR
    rw [rmag_big c0, if_neg c0]
    generalize ht : r % f.binade = t at *
    generalize hqq : r / f.binade = q at *
    rw [show 4 * ((f.binade + t) * 2 ^ (q - 1)) + c * 2 ^ (q - 1) = (4 * (f.binade + t) + c) * 2 ^ (q - 1) by rw [Nat.add_mul (4 * (f.binade + t)) c, Nat.mul_assoc], nearest_shift]
    unfold Format.nearest
    rw [if_neg (by omega)]
    dsimp only
    rw [log2_at (m := 4 * (f.binade + t) + c) (P := f.fractionBits + 2) (by rw [Nat.pow_add]; omega) (by rw [show f.fractionBits + 2 + 1 = f.fractionBits + 3 from rfl, Nat.pow_add]; omega)]
    rw [show max (f.leastPlace - 2 + ((q - 1 : Nat) : Int) + ((f.fractionBits + 2 : Nat) : Int) - f.fractionBits) f.leastPlace = f.leastPlace + (q - 1 : Nat) by omega]
    rw [show (f.leastPlace - 2 + ((q - 1 : Nat) : Int) - (f.leastPlace + (q - 1 : Nat))).toNat = 0 by omega, Nat.shiftLeft_zero, show (f.leastPlace + ((q - 1 : Nat) : Int) - (f.leastPlace - 2 + (q - 1 : Nat))).toNat = 2 by omega, cut_two _ _ _ hc, show (f.leastPlace + ((q - 1 : Nat) : Int) - f.leastPlace).toNat = q - 1 by omega, hpar]
    have e0 : (q - 1) * f.binade + (f.binade + t) = r := by
      rw [← hdm]
      obtain ⟨k, rfl⟩ : ∃ k, q = k + 1 := ⟨q - 1, by omega⟩
      rw [Nat.add_sub_cancel, Nat.mul_add, Nat.mul_comm k, Nat.mul_one]; omega
    have e : (q - 1) * f.binade + (f.binade + t + dlt c r) = r + dlt c r := by omega
    rw [e, Nat.min_eq_left (by omega)]
/-- Numbers of few digits are words. -/
theorem rep_rung {f : Format} {m a : Nat} (hm : m < 2 * f.binade) (ha : (a + 2) * f.binade ≤ f.infRung) : ∃ r, r < f.infRung ∧ rmag f r = m * 2 ^ a := by
  have hB : f.binade = 2 ^ f.fractionBits := rfl
  have hp : 0 < f.binade := Nat.two_pow_pos _
  have hb2 : 2 * f.binade ≤ (a + 2) * f.binade := Nat.mul_le_mul_right _ (by omega)
  by_cases h0 : m = 0
  · subst h0; exact ⟨0, by omega, by rw [rmag_zero, Nat.zero_mul]⟩
  · by_cases c : m * 2 ^ a < f.binade
    · exact ⟨_, by omega, rmag_low c⟩
    · -- the digits laid to the top
      have hj : m.log2 ≤ f.fractionBits := log2_of_lt (by rw [Nat.pow_succ]; omega)
      have hm1 := Nat.log2_self_le h0
      have hm2 := Nat.lt_log2_self (n := m)
      have hja : f.fractionBits ≤ m.log2 + a := by
        rcases Nat.lt_or_ge (m.log2 + a) f.fractionBits with g | g
        · exfalso; apply c
          rw [hB]
          calc m * 2 ^ a < 2 ^ (m.log2 + 1) * 2 ^ a := Nat.mul_lt_mul_of_pos_right hm2 (Nat.two_pow_pos _)
            _ = 2 ^ (m.log2 + 1 + a) := (Nat.pow_add _ _ _).symm
            _ ≤ 2 ^ f.fractionBits := Nat.pow_le_pow_right (by omega) (by omega)
        · exact g
      obtain ⟨d, hd⟩ : ∃ d, f.fractionBits = m.log2 + d := ⟨f.fractionBits - m.log2, by omega⟩
      obtain ⟨k, hk⟩ : ∃ k, a = k + d := ⟨a - d, by omega⟩
      have hM1 : f.binade ≤ m * 2 ^ d := by rw [hB, hd, Nat.pow_add]; exact Nat.mul_le_mul_right _ hm1
      have hM2 : m * 2 ^ d < 2 * f.binade := by
        rw [hB, hd, ← Nat.pow_succ', show (m.log2 + d).succ = m.log2 + 1 + d by omega, Nat.pow_add]
        exact Nat.mul_lt_mul_of_pos_right hm2 (Nat.two_pow_pos _)
      refine ⟨(k + 1) * f.binade + (m * 2 ^ d - f.binade), ?_, ?_⟩
      · have : (k + 2) * f.binade ≤ (a + 2) * f.binade := Nat.mul_le_mul_right _ (by omega)
        have e2 : (k + 2) * f.binade = (k + 1) * f.binade + f.binade := by rw [Nat.add_mul, Nat.add_mul]; omega
        omega
      · have e1 : ((k + 1) * f.binade + (m * 2 ^ d - f.binade)) / f.binade = k + 1 := by
          rw [Nat.mul_comm, Nat.mul_add_div hp, Nat.div_eq_of_lt (by omega), Nat.add_zero]
        have e2 : ((k + 1) * f.binade + (m * 2 ^ d - f.binade)) % f.binade = m * 2 ^ d - f.binade := by
          rw [Nat.mul_comm, Nat.mul_add_mod, Nat.mod_eq_of_lt (by omega)]
        have hge : ¬ (k + 1) * f.binade + (m * 2 ^ d - f.binade) < f.binade := by
          have : f.binade ≤ (k + 1) * f.binade := Nat.le_mul_of_pos_left _ (by omega)
          omega
        rw [rmag_big hge, e1, e2, show f.binade + (m * 2 ^ d - f.binade) = m * 2 ^ d by omega, Nat.add_sub_cancel, Nat.mul_assoc, ← Nat.pow_add, hk, Nat.add_comm d k]
end Go.Proofs.Ytfngkhkghjgmkaa
namespace Go.Proofs.Ytfngkhkghjgmkaa
set_option linter.all false
open Go Go.Awp Ieee
set_option maxRecDepth 100000

def E3 : Nat := 923
def E5 : Nat := 925
abbrev G : Format := FloatKind.f64.format
abbrev F : Format := FloatKind.f32.format
theorem gL : G.leastPlace = -1074 := by decide +kernel
theorem fL : F.leastPlace = -149 := by decide +kernel
theorem gB : G.binade = 4503599627370496 := by decide +kernel
theorem fB : F.binade = 8388608 := by decide +kernel
theorem gI : G.infRung = 2047 * 4503599627370496 := by decide +kernel
theorem fI : F.infRung = 2139095040 := by decide +kernel
theorem fS : F.signWeight = 2147483648 := by decide +kernel
theorem rmag_next {f : Format} (r : Nat) : rmag f (r + 1) = rmag f r + gapR f r := by
  have hb : 0 < f.binade := Nat.two_pow_pos _
  unfold rmag gapR
  have hdm := Nat.div_add_mod r f.binade
  have hlt := Nat.mod_lt r hb
  generalize hq : r / f.binade = q at *
  generalize ht : r % f.binade = t at *
  generalize f.binade = b at *
  by_cases c : t + 1 < b
  · have e1 : (r + 1) / b = q := by
      rw [← hdm, Nat.add_assoc, Nat.mul_add_div hb, Nat.div_eq_of_lt c]; omega
    have e2 : (r + 1) % b = t + 1 := by
      rw [← hdm, Nat.add_assoc, Nat.mul_add_mod, Nat.mod_eq_of_lt c]
    rw [e1, e2]
    by_cases hq0 : q = 0
    · subst hq0
      simp at hdm
      rw [if_pos (by omega), if_pos (by omega), if_pos (by omega)]
    · have : b ≤ b * q := Nat.le_mul_of_pos_right b (by omega)
      rw [if_neg (by omega), if_neg (by omega), if_neg (by omega), ← Nat.add_assoc, Nat.add_mul (b + t), Nat.one_mul]
  · have ht' : t + 1 = b := by omega
    have e1 : (r + 1) / b = q + 1 := by
      have : r + 1 = b * (q + 1) := by rw [Nat.mul_add, ← hdm]; omega
      rw [this, Nat.mul_div_cancel_left _ hb]
    have e2 : (r + 1) % b = 0 := by
      have : r + 1 = b * (q + 1) := by rw [Nat.mul_add, ← hdm]; omega
      rw [this, Nat.mul_mod_right]
    rw [e1, e2]
    by_cases hq0 : q = 0
    · subst hq0
      simp at hdm
      rw [if_neg (by omega), if_pos (by omega), if_pos (by omega)]; simp; omega
    · have : b ≤ b * q := Nat.le_mul_of_pos_right b (by omega)
      rw [if_neg (by omega), if_neg (by omega), if_neg (by omega)]
      have e3 : 2 ^ (q + 1 - 1) = 2 * 2 ^ (q - 1) := by rw [← Nat.pow_succ']; congr 1; omega
      rw [e3, Nat.add_zero, ← Nat.mul_assoc, ← Nat.add_one_mul]
      congr 1; omega
/-- A word of 64 bits stands for a number, told in the least place. -/
def Val (z : Nat) (s : Bool) (N : Nat) : Prop := ∃ (m : Nat) (e : Int), G.read z = .number s m e ∧ G.leastPlace ≤ e ∧ m * 2 ^ (e - G.leastPlace).toNat = N
def Rp (N : Nat) : Prop := ∃ r, r < G.infRung ∧ rmag G r = N
theorem val_word (s : Bool) {r : Nat} (h : r < G.infRung) : Val (G.word s r) s (rmag G r) := by
  have hs : r < G.signWeight := Nat.lt_trans h G.infRung_lt
  have hp : 0 < G.signWeight := Nat.two_pow_pos _
  have hm : G.word s r % G.signWeight = r := word_mod G s hs
  have hd : (G.word s r / G.signWeight % 2 == 1) = s := by
    unfold Format.word
    cases s with
    | false => simp [Nat.div_eq_of_lt hs]
    | true => simp [Nat.add_div_left _ hp, Nat.div_eq_of_lt hs]
  obtain ⟨m, e, h1, h2, h3⟩ := read_rmag G (w := G.word s r) (by rw [hm]; exact h)
  rw [hd] at h1
  rw [hm] at h3
  exact ⟨m, e, h1, h2, h3⟩
theorem near_at {f : Format} {s : Bool} {m N : Nat} {e p : Int} (h : p ≤ e) (hN : m * 2 ^ (e - p).toNat = N) : f.nearest s m e = f.nearest s N p := by
  rw [← hN, nearest_shift]; congr 1; omega
theorem val_near {s : Bool} {N : Nat} (h : Rp N) : Val (G.nearest s N G.leastPlace) s N := by
  obtain ⟨r, h1, rfl⟩ := h
  rw [near_rmag G s (Nat.le_of_lt h1)]
  exact val_word s h1
theorem rp_of {m a : Nat} (hm : m < 9007199254740992) (ha : a ≤ 2045) : Rp (m * 2 ^ a) := by
  refine rep_rung (f := G) (by rw [gB]; omega) ?_
  rw [gB, gI]; exact Nat.mul_le_mul_right _ (by omega)
theorem mul_pow_at {m a b N : Nat} {e p q : Int} (h1 : p ≤ q) (h2 : q ≤ e) (hN : m * 2 ^ (e - q).toNat = N) : m * 2 ^ (e - p).toNat = N * 2 ^ (q - p).toNat := by
  rw [← hN, Nat.mul_assoc, ← Nat.pow_add]; congr 2; omega
theorem val_wid {x : Nat} (hx : x < 4294967296) (n : nanB .f32 x = false) (hf : x % 2147483648 < 2139095040) : Val (wid x) (x / 2147483648 % 2 == 1) (rmag F (x % 2147483648) * 2 ^ E5) := by
  obtain ⟨m, e, h1, h2, h3⟩ := read_rmag F (w := x) (by rw [fS, fI]; exact hf)
  rw [fS] at h1 h3
  have hw := fcvt_wid x
  unfold fcvt at hw
  rw [if_neg (by rw [n]; simp)] at hw
  unfold floatToFloatBits at hw
  rw [if_neg (by decide)] at hw
  have hd : FloatKind.f32.decode x = .number (x / 2147483648 % 2 == 1) m e := h1
  rw [hd] at hw
  dsimp only at hw
  split at hw
  · cases hw
  · have hw : G.nearest (x / 2147483648 % 2 == 1) m e = wid x := Option.some.inj hw
    have hp := read_parts (binade_le_inf .f32) h1
    rw [show FloatKind.f32.format = F from rfl, fB, fI, fL, fS] at hp
    obtain ⟨p1, p2, p3, p4⟩ := hp
    have p5 : x % 2147483648 / 8388608 < 255 := Nat.div_lt_of_lt_mul (by omega)
    have hN := mul_pow_at (a := 0) (b := 0) (p := G.leastPlace) (q := F.leastPlace) (by rw [gL, fL]; decide) h2 h3
    rw [← hw, near_at (p := G.leastPlace) (by rw [gL]; omega) hN]
    have hr : Rp (rmag F (x % 2147483648) * 2 ^ (F.leastPlace - G.leastPlace).toNat) := by
      rw [← hN]
      exact rp_of (by omega) (by rw [gL]; omega)
    have := val_near (s := (x / 2147483648 % 2 == 1)) hr
    rw [show (F.leastPlace - G.leastPlace).toNat = E5 by rw [gL, fL]; rfl] at this ⊢
    exact this
theorem val_add {x y N1 N2 : Nat} {s t : Bool} (h1 : Val x s N1) (h2 : Val y t N2) (h : s = t ∨ N1 = 0 ∧ 0 < N2) (hr : Rp (N1 + N2)) : Val (fop .add .f64 x y) t (N1 + N2) := by
  obtain ⟨m, i, a1, a2, a3⟩ := h1
  obtain ⟨n, j, b1, b2, b3⟩ := h2
  have hA : m * 2 ^ (i - min i j).toNat * 2 ^ (min i j - G.leastPlace).toNat = N1 := by
    rw [← a3, Nat.mul_assoc, ← Nat.pow_add]; congr 2; omega
  have hB : n * 2 ^ (j - min i j).toNat * 2 ^ (min i j - G.leastPlace).toNat = N2 := by
    rw [← b3, Nat.mul_assoc, ← Nat.pow_add]; congr 2; omega
  generalize hA' : m * 2 ^ (i - min i j).toNat = A at hA
  generalize hB' : n * 2 ^ (j - min i j).toNat = B at hB
  have hsum : (Datum.number s m i).sum (.number t n j) = some (.number t (A + B) (min i j)) := by
    have e1 : Ieee.signed s m (i - min i j).toNat = if s then -(A : Int) else A := by unfold Ieee.signed; rw [Nat.shiftLeft_eq, hA']
    have e2 : Ieee.signed t n (j - min i j).toNat = if t then -(B : Int) else B := by unfold Ieee.signed; rw [Nat.shiftLeft_eq, hB']
    simp only [Datum.sum]
    rw [e1, e2]
    have hz : s = t ∨ A = 0 ∧ 0 < B := by
      rcases h with h | ⟨h, h'⟩
      · exact .inl h
      · right
        constructor
        · rw [← hA] at h
          rcases Nat.mul_eq_zero.1 h with h | h
          · exact h
          · have := Nat.two_pow_pos (min i j - G.leastPlace).toNat; omega
        · rw [← hB] at h'
          exact Nat.pos_of_mul_pos_right h'
    rcases hz with rfl | ⟨rfl, hb⟩
    · cases s with
      | false =>
        simp only [Bool.false_eq_true, if_false, Bool.and_self]
        congr 2
        · split
          · rfl
          · simp; omega
      | true =>
        simp only [if_true, Bool.and_self]
        congr 2
        · split
          · rfl
          · simp; omega
        · omega
    · cases s <;> cases t <;> simp <;> omega
  show Val ((G.add x y).getD _) t _
  unfold Format.add
  rw [a1, b1, hsum]
  show Val (G.nearest t (A + B) (min i j)) t _
  rw [near_at (p := G.leastPlace) (N := N1 + N2) (by omega) (by rw [Nat.add_mul, hA, hB])]
  exact val_near hr
end Go.Proofs.Ytfngkhkghjgmkaa
namespace Go.Proofs.Ytfngkhkghjgmkaa
set_option linter.all false
open Go Go.Awp Ieee
set_option maxRecDepth 100000

theorem fop_half64 (x : Nat) : fop .quo .f64 x 4611686018427387904 = fop .mul .f64 4602678819172646912 x := by
  have r2 : FloatKind.f64.format.read 4611686018427387904 = .number false 4503599627370496 (-51) := by decide +kernel
  have rh : FloatKind.f64.format.read 4602678819172646912 = .number false 4503599627370496 (-53) := by decide +kernel
  show (FloatKind.f64.format.div x 4611686018427387904).getD _ = (FloatKind.f64.format.mul 4602678819172646912 x).getD _
  congr 1
  unfold Format.div Format.mul
  rw [r2, rh]
  cases hx : FloatKind.f64.format.read x with
  | nan s t => rfl
  | infinity s => cases s <;> rfl
  | number s m i =>
    simp only [Datum.quotient, Datum.product, Option.map_some]
    rw [if_neg (by decide)]
    simp only [Option.map_some, Option.some.injEq]
    show FloatKind.f64.format.nearest _ _ _ = FloatKind.f64.format.nearest _ _ _
    have hlog : m.log2 ≤ 52 := by
      have hp := read_parts (binade_le_inf .f64) hx
      have hb : FloatKind.f64.format.binade = 4503599627370496 := by decide +kernel
      rw [hb] at hp
      exact log2_of_lt (by omega)
    have hl : (4503599627370496 : Nat).log2 = 52 := by decide +kernel
    have hd : FloatKind.f64.format.fractionBits = 52 := rfl
    rw [hl, hd]
    generalize hmore : 52 + 2 + 52 - m.log2 = more
    have hmr : 54 ≤ more := by omega
    rw [Nat.shiftLeft_eq]
    have e1 : m * 2 ^ more = 4503599627370496 * (m * 2 ^ (more - 52)) := by
      have : 2 ^ more = 2 ^ 52 * 2 ^ (more - 52) := by rw [← Nat.pow_add]; congr 1; omega
      rw [this, Nat.mul_left_comm]
    rw [e1, Nat.mul_div_cancel_left _ (by decide), Nat.mul_mod_right]
    have e2 : 2 * (m * 2 ^ (more - 52)) + ((0 : Nat) != 0).toNat = m * 2 ^ (more - 51) := by
      have : 2 ^ (more - 51) = 2 * 2 ^ (more - 52) := by rw [← Nat.pow_succ']; congr 1; omega
      rw [this]; simp [Nat.mul_left_comm]
    rw [e2, nearest_shift, show (4503599627370496 : Nat) * m = m * 2 ^ 52 by rw [Nat.mul_comm], nearest_shift]
    congr 1
    · simp
    · omega
theorem val_half {z N : Nat} {s : Bool} (h : Val z s (2 * N)) (hr : Rp N) : Val (fop .quo .f64 z 4611686018427387904) s N := by
  obtain ⟨m, e, a1, a2, a3⟩ := h
  rw [fop_half64]
  have rh : G.read 4602678819172646912 = .number false 4503599627370496 (-53) := by decide +kernel
  show Val ((G.mul 4602678819172646912 z).getD _) s _
  unfold Format.mul
  rw [rh, a1]
  show Val (G.nearest (false ^^ s) (4503599627370496 * m) (-53 + e)) s N
  have e0 : (false ^^ s) = s := by cases s <;> rfl
  rw [e0, show (4503599627370496 : Nat) * m = m * 2 ^ 52 by rw [Nat.mul_comm], nearest_shift, show (-53 + e + ((52 : Nat) : Int)) = e - 1 by omega]
  have key : G.nearest s m (e - 1) = G.nearest s N G.leastPlace := by
    by_cases c : G.leastPlace + 1 ≤ e
    · refine near_at (by omega) ?_
      have : 2 ^ (e - G.leastPlace).toNat = 2 * 2 ^ (e - 1 - G.leastPlace).toNat := by rw [← Nat.pow_succ']; congr 1; omega
      rw [this, Nat.mul_left_comm] at a3
      exact Nat.eq_of_mul_eq_mul_left (by decide) a3
    · have he : e = G.leastPlace := by omega
      rw [he, show (G.leastPlace - G.leastPlace).toNat = 0 by omega, Nat.pow_zero, Nat.mul_one] at a3
      rw [a3, he, show 2 * N = N * 2 ^ 1 by omega, nearest_shift, show G.leastPlace - 1 + ((1 : Nat) : Int) = G.leastPlace by omega]
  rw [key]
  exact val_near hr
/-- What is narrowed: four times a number of 32 bits and some quarters of the way to the next. -/
theorem val_narrow {z r c : Nat} {s : Bool} (h : Val z s ((4 * rmag F r + c * gapR F r) * 2 ^ E3)) (hc : c ≤ 3) (hr : r + dlt c r < F.infRung) : fcvt .f64 .f32 z = some (F.word s (r + dlt c r)) := by
  obtain ⟨m, e, a1, a2, a3⟩ := h
  have hd : dlt c r ≤ 1 := by unfold dlt; split <;> omega
  have hn : nanB .f64 z = false := by
    unfold nanB
    have : FloatKind.f64.decode z = .number s m e := a1
    rw [this]; rfl
  have hw : F.nearest s m e = F.word s (r + dlt c r) := by
    rw [near_at a2 a3, nearest_shift, show G.leastPlace + ((E3 : Nat) : Int) = F.leastPlace - 2 by rw [gL, fL]; rfl]
    exact near_quarter F s (by decide) (by omega) hc
  have hlt : r + dlt c r < F.infRung := hr
  have hin : (FloatKind.f32.decode (F.word s (r + dlt c r))).isInfinity = false := by
    have hs : r + dlt c r < F.signWeight := Nat.lt_trans hlt F.infRung_lt
    obtain ⟨m', e', h1, _, _⟩ := read_rmag F (w := F.word s (r + dlt c r)) (by rw [word_mod F s hs]; exact hlt)
    have : FloatKind.f32.decode (F.word s (r + dlt c r)) = .number (F.word s (r + dlt c r) / F.signWeight % 2 == 1) m' e' := h1
    rw [this]; rfl
  unfold fcvt
  rw [if_neg (by rw [hn]; simp)]
  unfold floatToFloatBits
  rw [if_neg (by decide)]
  have : FloatKind.f64.decode z = .number s m e := a1
  rw [this]
  dsimp only
  have he : FloatKind.f32.encode (.number s m e) = F.word s (r + dlt c r) := hw
  rw [he, hin]; rfl
theorem rp_form {r k1 k2 : Nat} (h1 : k1 ≤ 16) (h2 : k2 ≤ 16) (hr : r < F.infRung) : Rp ((k1 * rmag F r + k2 * gapR F r) * 2 ^ E3) := by
  rw [fI] at hr
  by_cases c : r < F.binade
  · unfold gapR
    rw [rmag_low c, if_pos c]
    rw [fB] at c
    have : k1 * r ≤ 16 * 8388608 := Nat.mul_le_mul h1 (by omega)
    exact rp_of (by omega) (by decide)
  · unfold gapR
    rw [rmag_big c, if_neg c, fB]
    have hq : r / 8388608 < 255 := Nat.div_lt_of_lt_mul (by omega)
    have hm := Nat.mod_lt r (show 0 < 8388608 by decide)
    generalize r % 8388608 = t at *
    generalize r / 8388608 = q at *
    have : k1 * (8388608 + t) ≤ 16 * 16777216 := Nat.mul_le_mul h1 (by omega)
    rw [show k1 * ((8388608 + t) * 2 ^ (q - 1)) + k2 * 2 ^ (q - 1) = (k1 * (8388608 + t) + k2) * 2 ^ (q - 1) by rw [Nat.add_mul (k1 * _) k2, Nat.mul_assoc], Nat.mul_assoc, ← Nat.pow_add]
    have hE : E3 = 923 := rfl
    exact rp_of (by omega) (by omega)
theorem lin (k1 k2 R g P : Nat) : (k1 * R + k2 * g) * P = k1 * (R * P) + k2 * (g * P) := by rw [Nat.add_mul, Nat.mul_assoc, Nat.mul_assoc]
theorem four_pow (R a : Nat) : R * 2 ^ (a + 2) = 4 * (R * 2 ^ a) := by rw [Nat.pow_add, ← Nat.mul_assoc, Nat.mul_comm]
theorem E5_eq : E5 = E3 + 2 := rfl
theorem four923 (R : Nat) : R * 2 ^ E5 = 4 * (R * 2 ^ E3) := by rw [E5_eq, four_pow]
theorem gap_pos (r : Nat) : 0 < gapR F r := by
  unfold gapR; split
  · omega
  · exact Nat.two_pow_pos _
section
variable {z0 z1 zm r : Nat} {s t : Bool} (hr : r + 1 < F.infRung)
include hr
/-- The halves of sums of what stands for told numbers of quarters. -/
theorem half_sum {a1 a2 b1 b2 c1 c2 : Nat} (h0 : Val z0 s ((a1 * rmag F r + a2 * gapR F r) * 2 ^ E3)) (h1 : Val z1 t ((b1 * rmag F r + b2 * gapR F r) * 2 ^ E3)) (hst : s = t ∨ (a2 = 0 ∧ r = 0) ∧ 0 < b2)
    (e1 : a1 + b1 = 2 * c1) (e2 : a2 + b2 = 2 * c2) (l1 : c1 ≤ 8) (l2 : c2 ≤ 8) : Val (fop .quo .f64 (fop .add .f64 z0 z1) 4611686018427387904) t ((c1 * rmag F r + c2 * gapR F r) * 2 ^ E3) := by
  have hs : (a1 * rmag F r + a2 * gapR F r) * 2 ^ E3 + (b1 * rmag F r + b2 * gapR F r) * 2 ^ E3 = ((2 * c1) * rmag F r + (2 * c2) * gapR F r) * 2 ^ E3 := by
    rw [← e1, ← e2, lin, lin, lin, Nat.add_mul, Nat.add_mul]; omega
  have hs2 : ((2 * c1) * rmag F r + (2 * c2) * gapR F r) * 2 ^ E3 = 2 * ((c1 * rmag F r + c2 * gapR F r) * 2 ^ E3) := by
    rw [lin, lin, Nat.mul_assoc, Nat.mul_assoc]; omega
  have ha := val_add h0 h1 (by
    rcases hst with h | ⟨⟨h, h'⟩, h''⟩
    · exact .inl h
    · right
      subst h; subst h'
      rw [rmag_zero]
      refine ⟨by simp, ?_⟩
      have := gap_pos 0
      exact Nat.mul_pos (Nat.add_pos_right _ (Nat.mul_pos h'' this)) (Nat.two_pow_pos _)) (by rw [hs]; exact rp_form (by omega) (by omega) (by omega))
  rw [hs, hs2] at ha
  exact val_half ha (rp_form (by omega) (by omega) (by omega))
end
theorem val_here {z r : Nat} {s : Bool} (h : Val z s (rmag F r * 2 ^ E5)) : Val z s ((4 * rmag F r + 0 * gapR F r) * 2 ^ E3) := by
  rw [lin, Nat.zero_mul, Nat.add_zero, ← four923]; exact h
theorem val_there {z r : Nat} {s : Bool} (h : Val z s (rmag F (r + 1) * 2 ^ E5)) : Val z s ((4 * rmag F r + 4 * gapR F r) * 2 ^ E3) := by
  rw [rmag_next, four923] at h
  rw [← Nat.mul_add, Nat.mul_assoc]; exact h
theorem rung_here {r : Nat} (hr : r < F.infRung) {z : Nat} {s : Bool} (h : Val z s (rmag F r * 2 ^ E5)) : fcvt .f64 .f32 z = some (F.word s r) := by
  have := val_narrow (c := 0) (val_here h) (by omega) (by simpa [dlt] using hr)
  simpa [dlt] using this
theorem word_f (r : Nat) : F.word false r = r := rfl
theorem word_t (r : Nat) : F.word true r = 2147483648 + r := by
  show F.signWeight + r = _
  rw [fS]
theorem wid_pos {x : Nat} (h : x < 2139095040) : Val (wid x) false (rmag F x * 2 ^ E5) := by
  have := val_wid (x := x) (by omega) (num_of (by omega)) (by omega)
  rw [show x % 2147483648 = x by omega, show x / 2147483648 = 0 by omega] at this
  exact this
theorem wid_neg {p : Nat} (h : p < 2139095040) : Val (wid (2147483648 + p)) true (rmag F p * 2 ^ E5) := by
  have := val_wid (x := 2147483648 + p) (by omega) (num_of (by omega)) (by omega)
  rw [show (2147483648 + p) % 2147483648 = p by omega, show (2147483648 + p) / 2147483648 = 1 by omega] at this
  exact this
theorem dlt_le (c r : Nat) : dlt c r ≤ 1 := by unfold dlt; split <;> omega
def midF (x y : Nat) : Nat := fop .quo .f64 (fop .add .f64 (wid x) (wid y)) 4611686018427387904
def lowF (x y : Nat) : Nat := fop .quo .f64 (fop .add .f64 (wid x) (midF x y)) 4611686018427387904
def highF (x y : Nat) : Nat := fop .quo .f64 (fop .add .f64 (wid y) (midF x y)) 4611686018427387904
theorem self32 {x : Nat} (h : x ≤ 2139095040 ∨ 2147483648 ≤ x ∧ x ≤ 4286578688) : ford .f32 x x = some .eq := ford_self (num_of h)
theorem narrow_facts {x : Nat} (hx : x < 4294967296) (hf : x % 2147483648 < 2139095040) (hfy : nup x % 2147483648 < 2139095040) : ∃ em lw hg, fcvt .f64 .f32 (midF x (nup x)) = some em ∧ fcvt .f64 .f32 (lowF x (nup x)) = some lw ∧ fcvt .f64 .f32 (highF x (nup x)) = some hg ∧
    ford .f32 em (if x % 2 = 1 then nup x else x) = some .eq ∧ ford .f32 lw x = some .eq ∧ ford .f32 hg (nup x) = some .eq := by
  have n : nanB .f32 x = false := num_of (by omega)
  by_cases c1 : x < 2147483648
  · have ey : nup x = x + 1 := by unfold nup; rw [n]; simp [show ¬ x = 2139095040 by omega, c1]
    rw [ey] at hfy ⊢
    have hr : x + 1 < F.infRung := by rw [fI]; omega
    have h0 := val_here (wid_pos (x := x) (by omega))
    have h1 := val_there (wid_pos (x := x + 1) (by omega))
    have hm := half_sum hr (c1 := 4) (c2 := 2) h0 h1 (.inl rfl) (by omega) (by omega) (by omega) (by omega)
    have hl := half_sum hr (c1 := 4) (c2 := 1) h0 hm (.inl rfl) (by omega) (by omega) (by omega) (by omega)
    have hh := half_sum hr (c1 := 4) (c2 := 3) h1 hm (.inl rfl) (by omega) (by omega) (by omega) (by omega)
    have d2 := dlt_le 2 x
    have nm := val_narrow hm (by omega) (by omega)
    have nl := val_narrow hl (by omega) (by have := dlt_le 1 x; omega)
    have nh := val_narrow hh (by omega) (by have := dlt_le 3 x; omega)
    refine ⟨_, _, _, nm, nl, nh, ?_, ?_, ?_⟩
    · rw [word_f]
      by_cases o : x % 2 = 1
      · rw [if_pos o, show dlt 2 x = 1 by simp [dlt, o]]; exact self32 (by omega)
      · rw [if_neg o, show dlt 2 x = 0 by simp [dlt, o]]; exact self32 (by omega)
    · rw [word_f, show dlt 1 x = 0 by simp [dlt]]; exact self32 (by omega)
    · rw [word_f, show dlt 3 x = 1 by simp [dlt]]; exact self32 (by omega)
  · by_cases c2 : x = 2147483648
    · subst c2
      have ey : nup 2147483648 = 1 := by unfold nup; rw [n]; simp
      rw [ey]
      have hr : 0 + 1 < F.infRung := by rw [fI]; omega
      have h0 := val_here (wid_neg (p := 0) (by omega))
      have h1 := val_there (wid_pos (x := 0 + 1) (by omega))
      have hm := half_sum hr (c1 := 4) (c2 := 2) h0 h1 (.inr ⟨⟨rfl, rfl⟩, by omega⟩) (by omega) (by omega) (by omega) (by omega)
      have hl := half_sum hr (c1 := 4) (c2 := 1) h0 hm (.inr ⟨⟨rfl, rfl⟩, by omega⟩) (by omega) (by omega) (by omega) (by omega)
      have hh := half_sum hr (c1 := 4) (c2 := 3) h1 hm (.inl rfl) (by omega) (by omega) (by omega) (by omega)
      have nm := val_narrow hm (by omega) (by rw [fI]; decide)
      have nl := val_narrow hl (by omega) (by rw [fI]; decide)
      have nh := val_narrow hh (by omega) (by rw [fI]; decide)
      refine ⟨_, _, _, nm, nl, nh, ?_, ?_, ?_⟩
      · exact eq32 (by decide) (by decide) (num_of (by decide)) (num_of (by decide)) (by decide)
      · exact eq32 (by decide) (by decide) (num_of (by decide)) (num_of (by decide)) (by decide)
      · exact eq32 (by decide) (by decide) (num_of (by decide)) (num_of (by decide)) (by decide)
    · obtain ⟨r, rfl⟩ : ∃ r, x = 2147483648 + (r + 1) := ⟨x - 2147483649, by omega⟩
      have ey : nup (2147483648 + (r + 1)) = 2147483648 + r := by
        unfold nup; rw [n]
        simp only [Bool.false_eq_true, if_false]
        rw [if_neg (by omega), if_neg (by omega), if_neg (by omega)]; omega
      rw [ey]
      have hr : r + 1 < F.infRung := by rw [fI]; omega
      have h0 := val_there (wid_neg (p := r + 1) (by omega))
      have h1 := val_here (wid_neg (p := r) (by omega))
      have hm := half_sum hr (c1 := 4) (c2 := 2) h0 h1 (.inl rfl) (by omega) (by omega) (by omega) (by omega)
      have hl := half_sum hr (c1 := 4) (c2 := 3) h0 hm (.inl rfl) (by omega) (by omega) (by omega) (by omega)
      have hh := half_sum hr (c1 := 4) (c2 := 1) h1 hm (.inl rfl) (by omega) (by omega) (by omega) (by omega)
      have d2 := dlt_le 2 r
      have nm := val_narrow hm (by omega) (by omega)
      have nl := val_narrow hl (by omega) (by have := dlt_le 3 r; omega)
      have nh := val_narrow hh (by omega) (by have := dlt_le 1 r; omega)
      refine ⟨_, _, _, nm, nl, nh, ?_, ?_, ?_⟩
      · rw [word_t]
        by_cases o : r % 2 = 1
        · rw [if_neg (by omega), show dlt 2 r = 1 by simp [dlt, o]]; exact self32 (by omega)
        · rw [if_pos (by omega), show dlt 2 r = 0 by simp [dlt, o]]; exact self32 (by omega)
      · rw [word_t, show dlt 3 r = 1 by simp [dlt]]; exact self32 (by omega)
      · rw [word_t, show dlt 1 r = 0 by simp [dlt]]; exact self32 (by omega)
/-- A number of 32 bits is itself when it is narrowed. -/
theorem narrow_self {x : Nat} (hx : CanF .f32 x) : fcvt .f64 .f32 (wid x) = some x := by
  have hl : x < 4294967296 := hx.2
  cases n : nanB .f32 x with
  | true =>
    have e : wid x = qnan .f64 := by unfold wid fcvt; rw [if_pos n]; rfl
    rw [e]
    unfold fcvt
    rw [if_pos (nanB_qnan .f64), ← cn_nan n, hx.1]
  | false =>
    have hn := num_le hl n
    by_cases c1 : x = 2139095040
    · subst c1; decide +kernel
    · by_cases c2 : x = 4286578688
      · subst c2; decide +kernel
      · by_cases c3 : x < 2147483648
        · have := rung_here (r := x) (by rw [fI]; omega) (wid_pos (x := x) (by omega))
          rw [this, word_f]
        · obtain ⟨p, rfl⟩ : ∃ p, x = 2147483648 + p := ⟨x - 2147483648, by omega⟩
          have := rung_here (r := p) (by rw [fI]; omega) (wid_neg (p := p) (by omega))
          rw [this, word_t]
end Go.Proofs.Ytfngkhkghjgmkaa
namespace Go.Proofs.Ytfngkhkghjgmkaa
set_option linter.all false
open Go Go.Awp
set_option maxRecDepth 100000
set_option maxHeartbeats 4000000
set_option pp.deepTerms true

theorem c_l01Bits {x : Nat} (hx : CanF .f32 x) : Fun Try.prog 50 [.flt .f32 x] [] (.int .i64 x) [] := by
  refine FnSpec.walkF dr_ok Try.func50 rfl (by kernel_rfl) rfl rfl rfl (by simp) ?_
  have hl : x < 4294967296 := hx.2
  cases nx : nanB .f32 x with
  | true =>
    have ex := canF_nan hx nx
    have f1 : ford .f32 x x = none := ford_nan_l nx
    simp [f1]
    omega
  | false =>
    have f1 : ford .f32 x x = some .eq := ford_self nx
    simp [f1]
    (first | refine callG_r ?_ | refine callD_r ?_); simp; (first | refine callN_flat (by with_reducible first | exact c_bits32 nx) rfl ?_ | refine callN_new (by with_reducible first | exact c_bits32 nx) ?_ | refine callM_flat (by with_reducible first | exact c_bits32 nx) rfl ?_ | refine callM_new (by with_reducible first | exact c_bits32 nx) ?_)
    simp
    rw [wrap64 (by omega) (by omega)]
theorem c_l01Same {x y : Nat} (hx : CanF .f32 x) (hy : CanF .f32 y) : Fun Try.prog 47 [.flt .f32 x, .flt .f32 y] [] (.bool (decide (x = y))) [] := by
  refine FnSpec.walkF dr_ok Try.func47 rfl (by kernel_rfl) rfl rfl rfl (by simp) ?_
  simp
  (first | refine callG_r ?_ | refine callD_r ?_); simp; (first | refine callN_flat (by with_reducible first | exact c_l01Bits hx) rfl ?_ | refine callN_new (by with_reducible first | exact c_l01Bits hx) ?_ | refine callM_flat (by with_reducible first | exact c_l01Bits hx) rfl ?_ | refine callM_new (by with_reducible first | exact c_l01Bits hx) ?_)
  simp
  (first | refine callG_r ?_ | refine callD_r ?_); simp; (first | refine callN_flat (by with_reducible first | exact c_l01Bits hy) rfl ?_ | refine callN_new (by with_reducible first | exact c_l01Bits hy) ?_ | refine callM_flat (by with_reducible first | exact c_l01Bits hy) rfl ?_ | refine callM_new (by with_reducible first | exact c_l01Bits hy) ?_)
  simp
  rw [Bool.eq_iff_iff]
  simp
  omega
theorem c_specSameNumber {x y : Nat} (hx : CanF .f32 x) (hy : CanF .f32 y) : Fun Try.prog 11 [.flt .f32 x, .flt .f32 y] [] (.bool (decide (x = y))) [] := by
  refine FnSpec.walkF dr_ok Try.func11 rfl (by kernel_rfl) rfl rfl rfl (by simp) ?_
  simp
  (first | refine callG_r ?_ | refine callD_r ?_); simp; (first | refine callN_flat (by with_reducible first | exact c_l01Same hx hy) rfl ?_ | refine callN_new (by with_reducible first | exact c_l01Same hx hy) ?_ | refine callM_flat (by with_reducible first | exact c_l01Same hx hy) rfl ?_ | refine callM_new (by with_reducible first | exact c_l01Same hx hy) ?_)
  simp
theorem c_specBitsOf {x : Nat} (hx : CanF .f32 x) : Fun Try.prog 15 [.flt .f32 x] [] (.int .i64 x) [] := by
  refine FnSpec.walkF dr_ok Try.func15 rfl (by kernel_rfl) rfl rfl rfl (by simp) ?_
  simp
  (first | refine callG_r ?_ | refine callD_r ?_); simp; (first | refine callN_flat (by with_reducible first | exact c_l01Bits hx) rfl ?_ | refine callN_new (by with_reducible first | exact c_l01Bits hx) ?_ | refine callM_flat (by with_reducible first | exact c_l01Bits hx) rfl ?_ | refine callM_new (by with_reducible first | exact c_l01Bits hx) ?_)
  simp
theorem c_specIsFinite (x : Nat) : Fun Try.prog 14 [.flt .f32 x] [] (.bool (ford .f32 (fop .sub .f32 x x) 0 == some .eq)) [] := by
  have h : Fun Try.prog 49 [.flt .f32 x] [] (.bool (ford .f32 (fop .sub .f32 x x) 0 == some .eq)) [] := by
    refine FnSpec.walkF dr_ok Try.func49 rfl (by kernel_rfl) rfl rfl rfl (by simp) ?_
    simp
  refine FnSpec.walkF dr_ok Try.func14 rfl (by kernel_rfl) rfl rfl rfl (by simp) ?_
  simp
  (first | refine callG_r ?_ | refine callD_r ?_); simp; (first | refine callN_flat (by with_reducible first | exact h) rfl ?_ | refine callN_new (by with_reducible first | exact h) ?_ | refine callM_flat (by with_reducible first | exact h) rfl ?_ | refine callM_new (by with_reducible first | exact h) ?_)
  simp
theorem c_Narrow {x y : Nat} (h : fcvt .f64 .f32 x = some y) : Fun Try.prog 12 [.flt .f64 x] [] (.flt .f32 y) [] := by
  refine FnSpec.walkF dr_ok Try.func12 rfl (by kernel_rfl) rfl rfl rfl (by simp) ?_
  simp [h]
theorem c_l01Next {x : Nat} (hx : CanF .f32 x) : Fun Try.prog 48 [.flt .f32 x] [] (.flt .f32 (nup x)) [] := by
  have hl : x < 4294967296 := hx.2
  refine FnSpec.walkF dr_ok Try.func48 rfl (by kernel_rfl) rfl rfl rfl (by simp) ?_
  simp
  (first | refine callG_r ?_ | refine callD_r ?_); simp; (first | refine callN_flat (by with_reducible first | exact c_l01Bits hx) rfl ?_ | refine callN_new (by with_reducible first | exact c_l01Bits hx) ?_ | refine callM_flat (by with_reducible first | exact c_l01Bits hx) rfl ?_ | refine callM_new (by with_reducible first | exact c_l01Bits hx) ?_)
  cases nx : nanB .f32 x with
  | true =>
    have f1 : ford .f32 x x = none := ford_nan_l nx
    simp [f1, nup_nan nx]
  | false =>
    have f1 : ford .f32 x x = some .eq := ford_self nx
    have hle := num_le hl nx
    have f3 := ford32 (y := 0) hl (by omega) nx (num_of (by omega))
    by_cases c1 : x = 2139095040
    · subst c1
      simp [f1, nup_inf]
    · have c1' : ¬ (x : Int) = 2139095040 := by omega
      by_cases c2 : k32 x = k32 0
      · rw [cmp_eq c2] at f3
        have e : nup x = 1 := by
          have c2' : x = 0 ∨ x = 2147483648 := by
            rw [show k32 0 = 0 from rfl] at c2
            unfold k32 at c2
            split at c2 <;> omega
          rcases c2' with rfl | rfl <;> (unfold nup; rw [nx]; rfl)
        simp [f1, f3, c1, c1']
        have h1 : Fun Try.prog 45 [.int .i64 1] [] (.flt .f32 (cn .f32 1)) [] := c_l01From (n := 1) (by omega)
        (first | refine callG_r ?_ | refine callD_r ?_); simp; (first | refine callN_flat (by with_reducible first | exact h1) rfl ?_ | refine callN_new (by with_reducible first | exact h1) ?_ | refine callM_flat (by with_reducible first | exact h1) rfl ?_ | refine callM_new (by with_reducible first | exact h1) ?_)
        simp
        rw [e]; decide +kernel
      · by_cases c3 : k32 0 < k32 x
        · rw [cmp_gt c3] at f3
          have c4 : x < 2139095040 := by
            unfold k32 at c3; simp at c3
            split at c3 <;> omega
          have hw : IntKind.i64.wrap ((x : Int) + 1) = ((x + 1 : Nat) : Int) := by rw [wrap64 (by omega) (by omega)]; simp
          have e : nup x = x + 1 := by unfold nup; rw [nx]; simp [c1]; omega
          have h1 := c_l01From (n := x + 1) (by omega)
          rw [show ((x + 1 : Nat) : Int) = (x : Int) + 1 by simp] at h1
          simp [f1, f3, c1, c1', hw]
          (first | refine callG_r ?_ | refine callD_r ?_); simp; (first | refine callN_flat (by with_reducible first | exact h1) rfl ?_ | refine callN_new (by with_reducible first | exact h1) ?_ | refine callM_flat (by with_reducible first | exact h1) rfl ?_ | refine callM_new (by with_reducible first | exact h1) ?_)
          simp
          rw [e, cn_num (num_of (by omega))]
        · rw [cmp_lt (by omega : k32 x < k32 0)] at f3
          have c4 : 2147483648 < x := by
            unfold k32 at c3 c2; simp at c3 c2
            split at c3 <;> omega
          have hw : IntKind.i64.wrap ((x : Int) - 1) = ((x - 1 : Nat) : Int) := by rw [wrap64 (by omega) (by omega)]; omega
          have e : nup x = x - 1 := by unfold nup; rw [nx]; simp [c1, show ¬ x < 2147483648 by omega, show ¬ x = 2147483648 by omega]
          simp [f1, f3, c1, c1', hw]
          (first | refine callG_r ?_ | refine callD_r ?_); simp; (first | refine callN_flat (by with_reducible first | exact c_l01From (n := x - 1) (by omega)) rfl ?_ | refine callN_new (by with_reducible first | exact c_l01From (n := x - 1) (by omega)) ?_ | refine callM_flat (by with_reducible first | exact c_l01From (n := x - 1) (by omega)) rfl ?_ | refine callM_new (by with_reducible first | exact c_l01From (n := x - 1) (by omega)) ?_)
          simp
          rw [e, cn_num (num_of (by omega))]
theorem c_specNextUp {x : Nat} (hx : CanF .f32 x) : Fun Try.prog 13 [.flt .f32 x] [] (.flt .f32 (nup x)) [] := by
  refine FnSpec.walkF dr_ok Try.func13 rfl (by kernel_rfl) rfl rfl rfl (by simp) ?_
  simp
  (first | refine callG_r ?_ | refine callD_r ?_); simp; (first | refine callN_flat (by with_reducible first | exact c_l01Next hx) rfl ?_ | refine callN_new (by with_reducible first | exact c_l01Next hx) ?_ | refine callM_flat (by with_reducible first | exact c_l01Next hx) rfl ?_ | refine callM_new (by with_reducible first | exact c_l01Next hx) ?_)
  simp
theorem law_FnNarrowed (l m : List Nat) (hb : ∀ b ∈ l, b < 256) (h1 : l.length ≤ maxLen) (h2 : m.length ≤ maxLen) : FnSpec Try.prog 3 [.view false (cBy l) l.length, .view false (cBy m) m.length] [] fun av _ => av = .bool true := by
  refine FnSpec.walkF dr_ok Try.func3 rfl (by kernel_rfl) rfl rfl rfl (by simp) ?_
  simp
  (first | refine callG_r ?_ | refine callD_r ?_); simp; (first | refine callN_flat (by with_reducible first | exact c_b10Long l m h1 h2) rfl ?_ | refine callN_new (by with_reducible first | exact c_b10Long l m h1 h2) ?_ | refine callM_flat (by with_reducible first | exact c_b10Long l m h1 h2) rfl ?_ | refine callM_new (by with_reducible first | exact c_b10Long l m h1 h2) ?_)
  simp
  intro q1 q2
  refine callG_r ?_
  simp
  refine callN_rel (c_B10Number l _ rfl (by omega) hb) ?_
  rintro _ ⟨x, hx, rfl⟩
  have hxl : x < 4294967296 := hx.2
  have hself := narrow_self hx
  simp
  (first | refine callG_r ?_ | refine callD_r ?_); simp; (first | refine callN_flat (by with_reducible first | exact c_Narrow hself) rfl ?_ | refine callN_new (by with_reducible first | exact c_Narrow hself) ?_ | refine callM_flat (by with_reducible first | exact c_Narrow hself) rfl ?_ | refine callM_new (by with_reducible first | exact c_Narrow hself) ?_)
  simp
  (first | refine callG_r ?_ | refine callD_r ?_); simp; (first | refine callN_flat (by with_reducible first | exact c_specSameNumber hx hx) rfl ?_ | refine callN_new (by with_reducible first | exact c_specSameNumber hx hx) ?_ | refine callM_flat (by with_reducible first | exact c_specSameNumber hx hx) rfl ?_ | refine callM_new (by with_reducible first | exact c_specSameNumber hx hx) ?_)
  simp
  (first | refine callG_r ?_ | refine callD_r ?_); simp; (first | refine callN_flat (by with_reducible first | exact c_specNextUp hx) rfl ?_ | refine callN_new (by with_reducible first | exact c_specNextUp hx) ?_ | refine callM_flat (by with_reducible first | exact c_specNextUp hx) rfl ?_ | refine callM_new (by with_reducible first | exact c_specNextUp hx) ?_)
  simp
  (first | refine callG_r ?_ | refine callD_r ?_); simp; (first | refine callN_flat (by with_reducible first | exact c_specIsFinite x) rfl ?_ | refine callN_new (by with_reducible first | exact c_specIsFinite x) ?_ | refine callM_flat (by with_reducible first | exact c_specIsFinite x) rfl ?_ | refine callM_new (by with_reducible first | exact c_specIsFinite x) ?_)
  cases nx : nanB .f32 x with
  | true =>
    have f2 : ford .f32 (fop .sub .f32 x x) 0 = none := by unfold fop; rw [floatBits_nan_l nx]; exact ford_nan_l (nanB_qnan .f32)
    simp [f2]
  | false =>
    obtain ⟨u1, u2⟩ := nup_num hxl nx
    have fb := finB_eq hxl nx
    have fby := finB_eq u2 u1
    cases hf : fin32 x with
    | false =>
      rw [hf] at fb
      simp [fb]
    | true =>
      rw [hf] at fb
      simp [fb]
      (first | refine callG_r ?_ | refine callD_r ?_); simp; (first | refine callN_flat (by with_reducible first | exact c_specIsFinite (nup x)) rfl ?_ | refine callN_new (by with_reducible first | exact c_specIsFinite (nup x)) ?_ | refine callM_flat (by with_reducible first | exact c_specIsFinite (nup x)) rfl ?_ | refine callM_new (by with_reducible first | exact c_specIsFinite (nup x)) ?_)
      cases hfy : fin32 (nup x) with
      | false =>
        rw [hfy] at fby
        simp [fby]
      | true =>
        rw [hfy] at fby
        obtain ⟨em, lw, hg, a1, a2, a3, b1, b2, b3⟩ := narrow_facts hxl (of_decide_eq_true hf) (of_decide_eq_true hfy)
        simp only [midF, lowF, highF] at a1 a2 a3
        have hr : (x : Int).tmod 2 = ((x % 2 : Nat) : Int) := rfl
        simp [fby]
        (first | refine callG_r ?_ | refine callD_r ?_); simp; (first | refine callN_flat (by with_reducible first | exact c_specBitsOf hx) rfl ?_ | refine callN_new (by with_reducible first | exact c_specBitsOf hx) ?_ | refine callM_flat (by with_reducible first | exact c_specBitsOf hx) rfl ?_ | refine callM_new (by with_reducible first | exact c_specBitsOf hx) ?_)
        by_cases o : x % 2 = 1
        · have o' : ((x % 2 : Nat) : Int) = 1 := by omega
          rw [if_pos o] at b1
          simp [hr, o', o]
          (first | refine callG_r ?_ | refine callD_r ?_); simp; (first | refine callN_flat (by with_reducible first | exact c_Narrow a1) rfl ?_ | refine callN_new (by with_reducible first | exact c_Narrow a1) ?_ | refine callM_flat (by with_reducible first | exact c_Narrow a1) rfl ?_ | refine callM_new (by with_reducible first | exact c_Narrow a1) ?_)
          simp [b1]
          (first | refine callG_r ?_ | refine callD_r ?_); simp; (first | refine callN_flat (by with_reducible first | exact c_Narrow a2) rfl ?_ | refine callN_new (by with_reducible first | exact c_Narrow a2) ?_ | refine callM_flat (by with_reducible first | exact c_Narrow a2) rfl ?_ | refine callM_new (by with_reducible first | exact c_Narrow a2) ?_)
          simp [b2]
          (first | refine callG_r ?_ | refine callD_r ?_); simp; (first | refine callN_flat (by with_reducible first | exact c_Narrow a3) rfl ?_ | refine callN_new (by with_reducible first | exact c_Narrow a3) ?_ | refine callM_flat (by with_reducible first | exact c_Narrow a3) rfl ?_ | refine callM_new (by with_reducible first | exact c_Narrow a3) ?_)
          simp [b3]
        · have o' : ((x % 2 : Nat) : Int) = 0 := by omega
          rw [if_neg o] at b1
          simp [hr, o', o]
          (first | refine callG_r ?_ | refine callD_r ?_); simp; (first | refine callN_flat (by with_reducible first | exact c_Narrow a1) rfl ?_ | refine callN_new (by with_reducible first | exact c_Narrow a1) ?_ | refine callM_flat (by with_reducible first | exact c_Narrow a1) rfl ?_ | refine callM_new (by with_reducible first | exact c_Narrow a1) ?_)
          simp [b1]
          (first | refine callG_r ?_ | refine callD_r ?_); simp; (first | refine callN_flat (by with_reducible first | exact c_Narrow a2) rfl ?_ | refine callN_new (by with_reducible first | exact c_Narrow a2) ?_ | refine callM_flat (by with_reducible first | exact c_Narrow a2) rfl ?_ | refine callM_new (by with_reducible first | exact c_Narrow a2) ?_)
          simp [b2]
          (first | refine callG_r ?_ | refine callD_r ?_); simp; (first | refine callN_flat (by with_reducible first | exact c_Narrow a3) rfl ?_ | refine callN_new (by with_reducible first | exact c_Narrow a3) ?_ | refine callM_flat (by with_reducible first | exact c_Narrow a3) rfl ?_ | refine callM_new (by with_reducible first | exact c_Narrow a3) ?_)
          simp [b3]
end Go.Proofs.Ytfngkhkghjgmkaa
