/- Floats up to the bits of a NaN: canonical words, what the machine's operations make of them.
Conditions: none. -/
import Derived.WalkKit
import Derived.WalkSpells
import Derived.WalkLawsBesides
namespace Go.Awp
set_option linter.all false
open Go

/-- The one word that stands for every NaN. -/
def qnan : FloatKind → Nat
  | .f32 => 2143289344
  | .f64 => 9221120237041090560

def nanB (k : FloatKind) (b : Nat) : Bool := (k.decode b).isNaN
/-- A word, or the one NaN. -/
def cn (k : FloatKind) (b : Nat) : Nat := if nanB k b then qnan k else b

theorem nanB_qnan (k : FloatKind) : nanB k (qnan k) = true := by cases k <;> decide +kernel
theorem cn_nan {k : FloatKind} {b : Nat} (h : nanB k b = true) : cn k b = qnan k := by simp [cn, h]
theorem cn_num {k : FloatKind} {b : Nat} (h : nanB k b = false) : cn k b = b := by simp [cn, h]
theorem nanB_cn (k : FloatKind) (b : Nat) : nanB k (cn k b) = nanB k b := by
  by_cases h : nanB k b = true
  · rw [cn_nan h, nanB_qnan, h]
  · rw [cn_num (b := b) (by simpa using h)]
theorem cn_cn (k : FloatKind) (b : Nat) : cn k (cn k b) = cn k b := by
  by_cases h : nanB k b = true
  · rw [cn_nan h, cn_nan (nanB_qnan k)]
  · rw [cn_num (b := b) (by simpa using h), cn_num (b := b) (by simpa using h)]

theorem read_nan {k : FloatKind} {b : Nat} (h : nanB k b = true) : ∃ s t, k.format.read b = .nan s t := by
  unfold nanB FloatKind.decode Ieee.Datum.isNaN at h
  split at h
  · exact ⟨_, _, ‹_›⟩
  · cases h
theorem read_num {k : FloatKind} {b : Nat} (h : nanB k b = false) : ∀ s t, k.format.read b ≠ .nan s t := by
  intro s t e
  unfold nanB FloatKind.decode Ieee.Datum.isNaN at h
  rw [e] at h
  cases h

/-- A word of a number or an infinity is no NaN. -/
theorem word_read (f : Ieee.Format) (neg : Bool) (r : Nat) (h : r ≤ f.infRung) : (f.read (f.word neg r)).isNaN = false := by
  have hlt : r < f.signWeight := Nat.lt_of_le_of_lt h f.infRung_lt
  have hm : f.word neg r % f.signWeight = r := by
    unfold Ieee.Format.word
    split
    · rw [Nat.add_mod_left]; exact Nat.mod_eq_of_lt hlt
    · exact Nat.mod_eq_of_lt hlt
  unfold Ieee.Format.read
  simp only [hm]
  split
  · rfl
  · split
    · rfl
    · split
      · rfl
      · omega

theorem write_num (f : Ieee.Format) (d : Ieee.Datum) (h : d.isNaN = false) : (f.read (f.write d)).isNaN = false := by
  cases d with
  | number s m e =>
    show (f.read (f.nearest s m e)).isNaN = false
    unfold Ieee.Format.nearest
    dsimp only
    split
    · exact word_read f s 0 (Nat.zero_le _)
    · exact word_read f s _ (Nat.min_le_right ..)
  | infinity s => exact word_read f s _ (Nat.le_refl _)
  | nan s t => cases h

theorem sum_num {d e r : Ieee.Datum} (h : d.sum e = some r) : r.isNaN = false := by
  unfold Ieee.Datum.sum at h
  split at h <;> first | (cases h; done) | (split at h <;> first | (cases h; done) | (cases h; rfl)) | (cases h; rfl)
theorem product_num {d e r : Ieee.Datum} (h : d.product e = some r) : r.isNaN = false := by
  unfold Ieee.Datum.product at h
  split at h <;> first | (cases h; done) | (split at h <;> first | (cases h; done) | (cases h; rfl)) | (cases h; rfl)
theorem quotient_num {q : Nat} {d e r : Ieee.Datum} (h : d.quotient q e = some r) : r.isNaN = false := by
  unfold Ieee.Datum.quotient at h
  split at h <;> first | (cases h; done) | (cases h; rfl) | skip
  split at h
  · split at h <;> first | (cases h; done) | (cases h; rfl)
  · cases h; rfl
theorem root_num {q : Nat} {d r : Ieee.Datum} (h : d.root q = some r) : r.isNaN = false := by
  unfold Ieee.Datum.root at h
  split at h
  · cases h
  · split at h <;> first | (cases h; done) | (cases h; rfl)
  · split at h
    · cases h; rfl
    · split at h
      · cases h
      · cases h; rfl

theorem map_write_num (f : Ieee.Format) {d : Option Ieee.Datum} {r : Nat} (hd : ∀ x, d = some x → x.isNaN = false) (h : d.map f.write = some r) : (f.read r).isNaN = false := by
  cases d with
  | none => cases h
  | some d => cases h; exact write_num f d (hd _ rfl)

/-- What an operation gives, a NaN where it is not valid. -/
def fop (op : BinOp) (k : FloatKind) (x y : Nat) : Nat := (floatBits op k x y).getD (qnan k)

theorem floatBits_num {op : BinOp} {k : FloatKind} {x y r : Nat} (h : floatBits op k x y = some r) : nanB k r = false := by
  unfold floatBits at h
  split at h
  · exact map_write_num k.format (fun _ h => sum_num h) h
  · exact map_write_num k.format (fun _ h => sum_num h) h
  · exact map_write_num k.format (fun _ h => product_num h) h
  · exact map_write_num k.format (fun _ h => quotient_num h) h
  · cases h

theorem sum_nan_l (s : Bool) (t : Nat) (d : Ieee.Datum) : (Ieee.Datum.nan s t).sum d = none := by cases d <;> rfl
theorem sum_nan_r (s : Bool) (t : Nat) (d : Ieee.Datum) : d.sum (Ieee.Datum.nan s t) = none := by cases d <;> rfl
theorem product_nan_l (s : Bool) (t : Nat) (d : Ieee.Datum) : (Ieee.Datum.nan s t).product d = none := by cases d <;> rfl
theorem product_nan_r (s : Bool) (t : Nat) (d : Ieee.Datum) : d.product (Ieee.Datum.nan s t) = none := by cases d <;> rfl
theorem quotient_nan_l (q : Nat) (s : Bool) (t : Nat) (d : Ieee.Datum) : (Ieee.Datum.nan s t).quotient q d = none := by cases d <;> rfl
theorem quotient_nan_r (q : Nat) (s : Bool) (t : Nat) (d : Ieee.Datum) : d.quotient q (Ieee.Datum.nan s t) = none := by cases d <;> rfl
theorem order_nan_l (s : Bool) (t : Nat) (d : Ieee.Datum) : (Ieee.Datum.nan s t).order d = none := by cases d <;> rfl
theorem order_nan_r (s : Bool) (t : Nat) (d : Ieee.Datum) : d.order (Ieee.Datum.nan s t) = none := by cases d <;> rfl

theorem floatBits_nan_l {op : BinOp} {k : FloatKind} {x y : Nat} (h : nanB k x = true) : floatBits op k x y = none := by
  obtain ⟨s, t, e⟩ := read_nan h
  unfold floatBits
  split
  · simp [Ieee.Format.add, e, sum_nan_l]
  · simp [Ieee.Format.sub, e, sum_nan_l]
  · simp [Ieee.Format.mul, e, product_nan_l]
  · simp [Ieee.Format.div, e, quotient_nan_l]
  · rfl
theorem floatBits_nan_r {op : BinOp} {k : FloatKind} {x y : Nat} (h : nanB k y = true) : floatBits op k x y = none := by
  obtain ⟨s, t, e⟩ := read_nan h
  unfold floatBits
  split
  · simp [Ieee.Format.add, e, sum_nan_r]
  · simp [Ieee.Format.sub, e, Ieee.Datum.opposite, sum_nan_r]
  · simp [Ieee.Format.mul, e, product_nan_r]
  · simp [Ieee.Format.div, e, quotient_nan_r]
  · rfl

theorem floatBits_cn (op : BinOp) (k : FloatKind) (x y : Nat) : floatBits op k (cn k x) (cn k y) = floatBits op k x y := by
  by_cases hx : nanB k x = true
  · rw [floatBits_nan_l hx, floatBits_nan_l (by rw [nanB_cn]; exact hx)]
  · by_cases hy : nanB k y = true
    · rw [floatBits_nan_r hy, floatBits_nan_r (by rw [nanB_cn]; exact hy)]
    · rw [cn_num (by simpa using hx), cn_num (by simpa using hy)]

theorem fop_cn (op : BinOp) (k : FloatKind) (x y : Nat) : fop op k (cn k x) (cn k y) = fop op k x y := by
  unfold fop; rw [floatBits_cn]

/-- How two words stand to each other. -/
def ford (k : FloatKind) (x y : Nat) : Option Ordering := k.format.order x y

theorem ford_nan_l {k : FloatKind} {x y : Nat} (h : nanB k x = true) : ford k x y = none := by
  obtain ⟨s, t, e⟩ := read_nan h
  simp [ford, Ieee.Format.order, e, order_nan_l]
theorem ford_nan_r {k : FloatKind} {x y : Nat} (h : nanB k y = true) : ford k x y = none := by
  obtain ⟨s, t, e⟩ := read_nan h
  simp [ford, Ieee.Format.order, e, order_nan_r]
theorem ford_cn (k : FloatKind) (x y : Nat) : ford k (cn k x) (cn k y) = ford k x y := by
  by_cases hx : nanB k x = true
  · rw [ford_nan_l hx, ford_nan_l (by rw [nanB_cn]; exact hx)]
  · by_cases hy : nanB k y = true
    · rw [ford_nan_r hy, ford_nan_r (by rw [nanB_cn]; exact hy)]
    · rw [cn_num (by simpa using hx), cn_num (by simpa using hy)]

/-- The six comparisons. -/
def fcmp (op : BinOp) (k : FloatKind) (x y : Nat) : Option Bool :=
  match op with
  | .eql => some (ford k x y == some .eq)
  | .neq => some (ford k x y != some .eq)
  | .lss => some (ford k x y == some .lt)
  | .leq => some (ford k x y == some .lt || ford k x y == some .eq)
  | .gtr => some (ford k x y == some .gt)
  | .geq => some (ford k x y == some .gt || ford k x y == some .eq)
  | _ => none

theorem fcmp_cn (op : BinOp) (k : FloatKind) (x y : Nat) : fcmp op k (cn k x) (cn k y) = fcmp op k x y := by
  cases op <;> simp [fcmp, ford_cn]

theorem run_fcmp {P : Program} {w : World} {op : BinOp} {t : TypeId} {k : FloatKind} {x y : Nat} {b : Bool} (h : fcmp op k x y = some b) :
    (binOp op t (.float k x) (.float k y)).run P w = .ok (.bool b) w := by
  unfold fcmp at h
  cases op <;> simp only [Option.some.injEq] at h <;> first | (cases h; done) | (subst h; simp [binOp, Op.floatCmp, ford])

/-- What the negation gives. -/
def fneg (k : FloatKind) (x : Nat) : Nat := cn k (Op.negFloat k x)

theorem pow_format (k : FloatKind) : 2 ^ (k.format.exponentBits + k.format.fractionBits) = k.format.signWeight := rfl

theorem xor_two_pow (n b : Nat) (h : b < 2 ^ (n + 1)) : b ^^^ 2 ^ n = if b < 2 ^ n then b + 2 ^ n else b - 2 ^ n := by
  by_cases hb : b < 2 ^ n
  · rw [if_pos hb]
    have : b ^^^ 2 ^ n = 2 ^ n + b := by
      rw [Nat.xor_comm]
      apply Nat.eq_of_testBit_eq
      intro i
      rw [Nat.testBit_xor, Nat.testBit_two_pow]
      by_cases hi : n = i
      · subst hi
        rw [Nat.testBit_two_pow_add_eq, Nat.testBit_lt_two_pow hb]; simp
      · simp only [hi, decide_false, Bool.false_xor]
        by_cases hlt : i < n
        · rw [Nat.testBit_two_pow_add_gt hlt]
        · have h1 : b.testBit i = false := Nat.testBit_lt_two_pow (Nat.lt_of_lt_of_le hb (Nat.pow_le_pow_right (by omega) (by omega)))
          have h2 : (2 ^ n + b).testBit i = false := Nat.testBit_lt_two_pow (by
            have : 2 ^ (n + 1) ≤ 2 ^ i := Nat.pow_le_pow_right (by omega) (by omega)
            rw [Nat.pow_succ] at this; omega)
          rw [h1, h2]
    omega
  · rw [if_neg hb]
    obtain ⟨c, hc⟩ : ∃ c, b = 2 ^ n + c := ⟨b - 2 ^ n, by omega⟩
    have hcl : c < 2 ^ n := by rw [Nat.pow_succ] at h; omega
    subst hc
    rw [Nat.add_sub_cancel_left]
    apply Nat.eq_of_testBit_eq
    intro i
    rw [Nat.testBit_xor, Nat.testBit_two_pow]
    by_cases hi : n = i
    · subst hi
      rw [Nat.testBit_two_pow_add_eq, Nat.testBit_lt_two_pow hcl]; simp
    · simp only [hi, decide_false, Bool.xor_false]
      by_cases hlt : i < n
      · rw [Nat.testBit_two_pow_add_gt hlt]
      · have h1 : c.testBit i = false := Nat.testBit_lt_two_pow (Nat.lt_of_lt_of_le hcl (Nat.pow_le_pow_right (by omega) (by omega)))
        have h2 : (2 ^ n + c).testBit i = false := Nat.testBit_lt_two_pow (by
          have : 2 ^ (n + 1) ≤ 2 ^ i := Nat.pow_le_pow_right (by omega) (by omega)
          rw [Nat.pow_succ] at this; omega)
        rw [h1, h2]

theorem width_eq (k : FloatKind) : 2 ^ k.format.width = 2 * k.format.signWeight := by cases k <;> decide +kernel

theorem negFloat_eq (k : FloatKind) (b : Nat) (h : b < 2 ^ k.format.width) : Op.negFloat k b = if b < k.format.signWeight then b + k.format.signWeight else b - k.format.signWeight := by
  unfold Op.negFloat
  rw [xor_two_pow _ b (by rw [Nat.pow_succ, pow_format, Nat.mul_comm, ← width_eq]; exact h), pow_format]

theorem negFloat_lt (k : FloatKind) (b : Nat) (h : b < 2 ^ k.format.width) : Op.negFloat k b < 2 ^ k.format.width := by
  have hw := width_eq k
  rw [negFloat_eq k b h]
  split <;> omega

theorem nanB_eq (k : FloatKind) (b : Nat) : nanB k b = decide (k.format.infRung < b % k.format.signWeight) := by
  have h0 : k.format.binade ≤ k.format.infRung := by cases k <;> decide +kernel
  unfold nanB FloatKind.decode Ieee.Format.read
  dsimp only
  by_cases h1 : b % k.format.signWeight < k.format.binade
  · rw [if_pos h1]
    show false = _; simp; omega
  · rw [if_neg h1]
    by_cases h2 : b % k.format.signWeight < k.format.infRung
    · rw [if_pos h2]
      show false = _; simp; omega
    · rw [if_neg h2]
      by_cases h3 : b % k.format.signWeight = k.format.infRung
      · rw [if_pos h3]
        show false = _; simp; omega
      · rw [if_neg h3]
        show true = _; simp; omega

theorem negFloat_mod (k : FloatKind) (b : Nat) (h : b < 2 ^ k.format.width) : Op.negFloat k b % k.format.signWeight = b % k.format.signWeight := by
  have hw := width_eq k
  have hp : 0 < k.format.signWeight := Nat.two_pow_pos _
  rw [negFloat_eq k b h]
  split
  · rw [Nat.add_mod_right]
  · rename_i hge
    rw [Nat.mod_eq_sub_mod (Nat.le_of_not_lt hge)]

theorem nanB_neg (k : FloatKind) (b : Nat) (h : b < 2 ^ k.format.width) : nanB k (Op.negFloat k b) = nanB k b := by
  rw [nanB_eq, nanB_eq, negFloat_mod k b h]

theorem qnan_lt (k : FloatKind) : qnan k < 2 ^ k.format.width := by cases k <;> decide +kernel
theorem cn_lt {k : FloatKind} {b : Nat} (h : b < 2 ^ k.format.width) : cn k b < 2 ^ k.format.width := by
  unfold cn; split
  · exact qnan_lt k
  · exact h

theorem fneg_cn (k : FloatKind) (b : Nat) (h : b < 2 ^ k.format.width) : fneg k (cn k b) = fneg k b := by
  by_cases hb : nanB k b = true
  · unfold fneg
    rw [cn_nan (b := Op.negFloat k (cn k b)) (by rw [nanB_neg _ _ (cn_lt h), nanB_cn]; exact hb), cn_nan (b := Op.negFloat k b) (by rw [nanB_neg _ _ h]; exact hb)]
  · rw [cn_num (b := b) (by simpa using hb)]

/-- A conversion between kinds of floats; 'none': a number too great for the narrower kind. -/
def fcvt (s k : FloatKind) (b : Nat) : Option Nat := if nanB s b then some (qnan k) else floatToFloatBits s b k

theorem fcvt_cn (s k : FloatKind) (b : Nat) : fcvt s k (cn s b) = fcvt s k b := by
  by_cases hb : nanB s b = true
  · unfold fcvt; rw [nanB_cn, if_pos hb, if_pos hb]
  · rw [cn_num (by simpa using hb)]

theorem floatToFloatBits_num {s k : FloatKind} {b r : Nat} (hb : nanB s b = false) (h : floatToFloatBits s b k = some r) : nanB k r = false := by
  unfold floatToFloatBits at h
  split at h
  · rename_i e; cases h; subst e; exact hb
  · split at h
    · cases h
    · cases h; exact write_num k.format _ rfl
    · split at h
      · cases h
      · cases h; exact write_num k.format _ rfl

/-- A NaN's bits as the tape gives them are a NaN's. -/
theorem nan_pat (k : FloatKind) (t : Nat) : nanB k ((t % 2) * 2 ^ (k.format.exponentBits + k.format.fractionBits) + k.format.infRung + 1 + (t / 2) % (2 ^ k.format.fractionBits - 1)) = true := by
  rw [nanB_eq, pow_format]
  have h1 : k.format.infRung + k.format.binade = k.format.signWeight := k.format.infRung_add_binade
  have h2 : 2 ^ k.format.fractionBits = k.format.binade := rfl
  have h3 : 2 ≤ k.format.binade := by cases k <;> decide +kernel
  rw [h2]
  have h4 : (t / 2) % (k.format.binade - 1) < k.format.binade - 1 := Nat.mod_lt _ (by omega)
  have h5 : (t % 2 * k.format.signWeight + k.format.infRung + 1 + t / 2 % (k.format.binade - 1)) % k.format.signWeight = k.format.infRung + 1 + t / 2 % (k.format.binade - 1) := by
    rw [Nat.add_assoc, Nat.add_assoc, Nat.mul_add_mod_self_right]
    rw [Nat.mod_eq_of_lt (by omega)]
    omega
  rw [h5]
  simp
  omega

theorem nan_pat_lt (k : FloatKind) (t : Nat) : (t % 2) * 2 ^ (k.format.exponentBits + k.format.fractionBits) + k.format.infRung + 1 + (t / 2) % (2 ^ k.format.fractionBits - 1) < 2 ^ k.format.width := by
  rw [pow_format, width_eq]
  have h1 : k.format.infRung + k.format.binade = k.format.signWeight := k.format.infRung_add_binade
  have h2 : 2 ^ k.format.fractionBits = k.format.binade := rfl
  have h3 : 2 ≤ k.format.binade := by cases k <;> decide +kernel
  rw [h2]
  have h4 : (t / 2) % (k.format.binade - 1) < k.format.binade - 1 := Nat.mod_lt _ (by omega)
  have h5 : t % 2 * k.format.signWeight ≤ 1 * k.format.signWeight := Nat.mul_le_mul_right _ (by omega)
  omega

theorem cut_nanBits (k : FloatKind) (x y t : Nat) : Question.cut (.nanBits k x y) t = (t % 2) * 2 ^ (k.format.exponentBits + k.format.fractionBits) + k.format.infRung + 1 + (t / 2) % (2 ^ k.format.fractionBits - 1) := by
  cases k <;> rfl
theorem cut_nanConv (k : FloatKind) (x t : Nat) : Question.cut (.nanConv k x) t = (t % 2) * 2 ^ (k.format.exponentBits + k.format.fractionBits) + k.format.infRung + 1 + (t / 2) % (2 ^ k.format.fractionBits - 1) := by
  cases k <;> rfl

section
variable {P : Program} (w : World)
/-- What an operation on floats comes to: some word that stands for 'fop'. -/
theorem run_fop (op : BinOp) (t : TypeId) (k : FloatKind) (x y : Nat) (ho : op = .add ∨ op = .sub ∨ op = .mul ∨ op = .quo) :
    ∃ r n, (binOp op t (.float k x) (.float k y)).run P w = .ok (.float k r) (w.drewN n) ∧ cn k r = fop op k x y ∧ r < 2 ^ k.format.width := by
  cases h : floatBits op k x y with
  | some r =>
    refine ⟨r, 0, ?_, ?_, ?_⟩
    · rw [run_float_arith w op t k x y r h]; rfl
    · rw [cn_num (floatBits_num h)]; simp [fop, h]
    · have := floatBits_wf h
      cases k
      · have h2 : Lit.wf (.float .f32 r) = decide (r < 2 ^ 32) := rfl
        rw [h2] at this; exact of_decide_eq_true this
      · have h2 : Lit.wf (.float .f64 r) = decide (r < 2 ^ 64) := rfl
        rw [h2] at this; exact of_decide_eq_true this
  | none =>
    refine ⟨Question.cut (.nanBits k x y) (w.tape w.drawn (.nanBits k x y)), 1, ?_, ?_, ?_⟩
    · rcases ho with rfl | rfl | rfl | rfl <;> simp only [floatBits] at h <;> simp [binOp, Op.floatArith, h, Question.forced, World.drewN]
    · rw [cut_nanBits, cn_nan (nan_pat k _)]; simp [fop, h]
    · rw [cut_nanBits]; exact nan_pat_lt k _

theorem run_fcvt (src dst : TypeId) (s k : FloatKind) (b c : Nat) (hs : (P.underlying src).isSome = true) (hd : P.underlying dst = some (.float k)) (hb : b < 2 ^ s.format.width) (h : fcvt s k b = some c) :
    ∃ r n, (convert src dst (.float s b)).run P w = .ok (.float k r) (w.drewN n) ∧ cn k r = c ∧ r < 2 ^ k.format.width := by
  by_cases hn : nanB s b = true
  · have hc : c = qnan k := by simp [fcvt, hn] at h; exact h.symm
    obtain ⟨u, hs'⟩ := Option.isSome_iff_exists.1 hs
    by_cases he : s = k
    · subst he
      refine ⟨b, 0, ?_, by rw [cn_nan hn, hc], hb⟩
      cases u <;> simp [convert, run_underlying hs', run_underlying hd, Conv.floatToFloat, World.drewN]
    · obtain ⟨sg, t, e⟩ := read_nan hn
      have e' : s.decode b = .nan sg t := e
      refine ⟨Question.cut (.nanConv k b) (w.tape w.drawn (.nanConv k b)), 1, ?_, ?_, ?_⟩
      · cases u <;> simp [convert, run_underlying hs', run_underlying hd, Conv.floatToFloat, he, e', Question.forced, World.drewN]
      · rw [cut_nanConv, cn_nan (nan_pat k _), hc]
      · rw [cut_nanConv]; exact nan_pat_lt k _
  · have hn' : nanB s b = false := by simpa using hn
    have h' : floatToFloatBits s b k = some c := by simpa [fcvt, hn'] using h
    refine ⟨c, 0, ?_, cn_num (floatToFloatBits_num hn' h'), ?_⟩
    · rw [run_convert_float_float w src dst s k b c hs hd h']; rfl
    · have hw : (Lit.float s b).wf = true := wf_of_lt s b hb
      have := floatToFloatBits_wf hw h'
      cases k
      · have h2 : Lit.wf (.float .f32 c) = decide (c < 2 ^ 32) := rfl
        rw [h2] at this; exact of_decide_eq_true this
      · have h2 : Lit.wf (.float .f64 c) = decide (c < 2 ^ 64) := rfl
        rw [h2] at this; exact of_decide_eq_true this
end

/-- The square root. -/
def fsqrt (x : Nat) : Nat := (FloatKind.f64.format.sqrt x).getD (qnan .f64)
theorem fsqrt_cn (x : Nat) : fsqrt (cn .f64 x) = fsqrt x := by
  by_cases h : nanB .f64 x = true
  · obtain ⟨s, t, e⟩ := read_nan h
    obtain ⟨s', t', e'⟩ := read_nan (k := .f64) (b := cn .f64 x) (by rw [nanB_cn]; exact h)
    simp [fsqrt, Ieee.Format.sqrt, e, e', Ieee.Datum.root]
  · rw [cn_num (by simpa using h)]

/-- A whole number as a float. -/
def fint (k : FloatKind) (n : Int) : Nat := k.nearest n
theorem fint_num (k : FloatKind) (n : Int) : nanB k (fint k n) = false := write_num k.format (.number (n < 0) n.natAbs 0) rfl
theorem fint_lt (k : FloatKind) (n : Int) : fint k n < 2 ^ k.format.width := k.format.write_lt (.number (n < 0) n.natAbs 0)

/-- A float cut to a whole number; 'none': no number, or out of the kind's range. -/
theorem floatToIntVal_cn (s : FloatKind) (b : Nat) (d : IntKind) : floatToIntVal s (cn s b) d = floatToIntVal s b d := by
  by_cases h : nanB s b = true
  · obtain ⟨x, t, e⟩ := read_nan h
    obtain ⟨x', t', e'⟩ := read_nan (k := s) (b := cn s b) (by rw [nanB_cn]; exact h)
    simp [floatToIntVal, FloatKind.decode, e, e', Ieee.Datum.toInt, Ieee.Datum.integral]
  · rw [cn_num (by simpa using h)]
end Go.Awp
