/- Contracts: threads that pull.
Conditions: none. -/
import Derived.Test.YtafbecgidhoekaaM4
import Derived.Test.YtafbecgidhoekaaNea
namespace Go.Proofs.Ytafbecgidhoekaa
set_option linter.all false
open Go Go.Awp
set_option maxRecDepth 100000
set_option maxHeartbeats 4000000
set_option pp.deepTerms true

def two : Nat := 1073741824
/-- A thread pulls its places. -/
def pullA (c : Clo) (t : Th) : V := c.pl.getD t.1.toNat v000
def pullB (c : Clo) (t : Th) : V := c.pl.getD t.2.1.toNat v000
def pullV (c : Clo) (t : Th) : V := vsub (pullB c t) (pullA c t)
def pullS (c : Clo) (t : Th) : Nat := fop .quo .f32 (fop .sub .f32 (vlong (pullV c t)) t.2.2) (vlong (pullV c t))
def pullQ (c : Clo) (t : Th) : Nat := if t.1 ∉ c.pin ∧ t.2.1 ∉ c.pin then fop .mul .f32 1056964608 (pullS c t) else pullS c t
def pull1 (c : Clo) (t : Th) : List V := if t.1 ∉ c.pin then c.pl.set t.1.toNat (vadd (pullA c t) (vscale (pullV c t) (pullQ c t))) else c.pl
def pull2 (c : Clo) (t : Th) : List V := if t.2.1 ∉ c.pin then (pull1 c t).set t.2.1.toNat (vsub (pullB c t) (vscale (pullV c t) (pullQ c t))) else pull1 c t
def pullC (c : Clo) (t : Th) : Clo := if ford .f32 (vlong (pullV c t)) 0 = some .eq ∨ finB (pullS c t) = false then c else { c with pl := pull2 c t }
theorem pullC_pl (c : Clo) (t : Th) : (pullC c t).pl.length = c.pl.length := by
  unfold pullC pull2 pull1
  split
  · rfl
  · dsimp only
    split <;> split <;> simp
theorem pullC_rest (c : Clo) (t : Th) : (pullC c t).ol = c.ol ∧ (pullC c t).th = c.th ∧ (pullC c t).pin = c.pin := by
  unfold pullC
  split <;> exact ⟨rfl, rfl, rfl⟩
/-- A thread of places. -/
def ThOk (n : Nat) (t : Th) : Prop := 0 ≤ t.1 ∧ t.1 < n ∧ 0 ≤ t.2.1 ∧ t.2.1 < n ∧ t.1 ≠ t.2.1
theorem vld_th {c : Clo} (h : vldC c = true) : ∀ t ∈ c.th, ThOk c.pl.length t := by
  intro t ht
  unfold vldC at h
  simp only [Bool.and_eq_true, List.all_eq_true] at h
  have := h.1.2 t ht
  simp [thrB, inB] at this
  unfold ThOk
  omega
theorem pullC_at {c : Clo} {a b lg : Nat} (b1 : a < c.pl.length) (b2 : b < c.pl.length) : pullA c (a, b, lg) = c.pl[a] ∧ pullB c (a, b, lg) = c.pl[b] ∧ pullV c (a, b, lg) = vsub c.pl[b] c.pl[a] ∧
    pullS c (a, b, lg) = fop .quo .f32 (fop .sub .f32 (vlong (vsub c.pl[b] c.pl[a])) lg) (vlong (vsub c.pl[b] c.pl[a])) := by
  have h1 : pullA c (a, b, lg) = c.pl[a] := by simp [pullA, b1]
  have h2 : pullB c (a, b, lg) = c.pl[b] := by simp [pullB, b2]
  have h3 : pullV c (a, b, lg) = vsub c.pl[b] c.pl[a] := by simp [pullV, h1, h2]
  exact ⟨h1, h2, h3, by simp [pullS, h3]⟩
theorem c_pull (c : Clo) (t : Th) (n m : Nat) (hs : c.Small) (hn : n = c.pl.length) (hm : m = c.pl.length) (ht : ThOk c.pl.length t) :
    Fun Try.prog 112 [.ptr 0 0, aT t, .view false (cBs (pinT m c.pin)) n] (c.at false) (.tup []) ((pullC c t).at false) := by
  subst hn; subst hm
  obtain ⟨q1, q2, q3, q4, q5⟩ := ht
  obtain ⟨A, B, lg⟩ := t
  simp only at q1 q2 q3 q4 q5
  obtain ⟨a, rfl⟩ := Int.eq_ofNat_of_zero_le q1
  obtain ⟨b, rfl⟩ := Int.eq_ofNat_of_zero_le q3
  have b1 : a < c.pl.length := by omega
  have b2 : b < c.pl.length := by omega
  have ne : a ≠ b := by omega
  obtain ⟨e1, e2, e3, e4⟩ := pullC_at (lg := lg) b1 b2
  refine FnSpec.walk dr_ok Try.func112 rfl (by kernel_rfl) rfl rfl rfl (by simp) ?_
  simp [b1, b2]
  (first | refine callG_r ?_ | refine callD_r ?_); simp; (first | refine callN_flat (by with_reducible first | exact c_less _ _ _ _ _ _) rfl ?_ | refine callN_new (by with_reducible first | exact c_less _ _ _ _ _ _) ?_ | refine callM_flat (by with_reducible first | exact c_less _ _ _ _ _ _) rfl ?_ | refine callM_new (by with_reducible first | exact c_less _ _ _ _ _ _) ?_)
  simp [b1, b2]
  (first | refine callG_r ?_ | refine callD_r ?_); simp; (first | refine callN_flat (by with_reducible first | exact c_long _ _ _) rfl ?_ | refine callN_new (by with_reducible first | exact c_long _ _ _) ?_ | refine callM_flat (by with_reducible first | exact c_long _ _ _) rfl ?_ | refine callM_new (by with_reducible first | exact c_long _ _ _) ?_)
  simp [b1, b2]
  refine ⟨fun z => ?_, fun z => ?_⟩
  · (first | refine callG_r ?_ | refine callD_r ?_); simp; (first | refine callN_flat (by with_reducible first | exact c_isFinite _) rfl ?_ | refine callN_new (by with_reducible first | exact c_isFinite _) ?_ | refine callM_flat (by with_reducible first | exact c_isFinite _) rfl ?_ | refine callM_new (by with_reducible first | exact c_isFinite _) ?_)
    rw [← e4, ← e3]
    rw [← e3] at z
    simp [b1, b2, pinT_get]
    by_cases hf : finB (pullS c (a, b, lg)) = true
    · have hC : pullC c (a, b, lg) = { c with pl := pull2 c (a, b, lg) } := by
        unfold pullC; rw [if_neg (by rw [hf]; simp [z])]
      rw [hC]
      by_cases p1 : (a : Int) ∈ c.pin
      · by_cases p2 : (b : Int) ∈ c.pin
        · have hp : pull2 c (a, b, lg) = c.pl := by simp [pull2, pull1, p1, p2]
          rw [hp]
          simp [hf, p1, p2, b1, b2, pinT_get]
          (refine endG_keepT [] ?_ ?_ ?_ ?_ ?_ ?_ ?_ ⟨rfl, rfl⟩ ?_ <;> simp)
        · have hp : pull2 c (a, b, lg) = c.pl.set b (vsub c.pl[b] (vscale (pullV c (a, b, lg)) (pullS c (a, b, lg)))) := by simp [pull2, pull1, pullQ, p1, p2, e2]
          rw [hp]
          simp [hf, p1, p2, b1, b2, pinT_get]
          (first | refine callG_r ?_ | refine callD_r ?_); simp; (first | refine callN_flat (by with_reducible first | exact c_scale _ _ _ _) rfl ?_ | refine callN_new (by with_reducible first | exact c_scale _ _ _ _) ?_ | refine callM_flat (by with_reducible first | exact c_scale _ _ _ _) rfl ?_ | refine callM_new (by with_reducible first | exact c_scale _ _ _ _) ?_)
          simp [b1, b2]
          (first | refine callG_r ?_ | refine callD_r ?_); simp; (first | refine callN_flat (by with_reducible first | exact c_less _ _ _ _ _ _) rfl ?_ | refine callN_new (by with_reducible first | exact c_less _ _ _ _ _ _) ?_ | refine callM_flat (by with_reducible first | exact c_less _ _ _ _ _ _) rfl ?_ | refine callM_new (by with_reducible first | exact c_less _ _ _ _ _ _) ?_)
          simp [b1, b2]
          refine ⟨by omega, ?_⟩
          (refine endG_keepT [] ?_ ?_ ?_ ?_ ?_ ?_ ?_ ⟨rfl, rfl⟩ ?_ <;> simp)
      · by_cases p2 : (b : Int) ∈ c.pin
        · have hp : pull2 c (a, b, lg) = c.pl.set a (vadd c.pl[a] (vscale (pullV c (a, b, lg)) (pullS c (a, b, lg)))) := by simp [pull2, pull1, pullQ, p1, p2, e1]
          rw [hp]
          simp [hf, p1, p2, b1, b2, pinT_get]
          (first | refine callG_r ?_ | refine callD_r ?_); simp; (first | refine callN_flat (by with_reducible first | exact c_scale _ _ _ _) rfl ?_ | refine callN_new (by with_reducible first | exact c_scale _ _ _ _) ?_ | refine callM_flat (by with_reducible first | exact c_scale _ _ _ _) rfl ?_ | refine callM_new (by with_reducible first | exact c_scale _ _ _ _) ?_)
          simp [b1, b2]
          (first | refine callG_r ?_ | refine callD_r ?_); simp; (first | refine callN_flat (by with_reducible first | exact c_add _ _ _ _ _ _) rfl ?_ | refine callN_new (by with_reducible first | exact c_add _ _ _ _ _ _) ?_ | refine callM_flat (by with_reducible first | exact c_add _ _ _ _ _ _) rfl ?_ | refine callM_new (by with_reducible first | exact c_add _ _ _ _ _ _) ?_)
          simp [b1, b2, p1, p2, pinT_get]
          refine ⟨by omega, ?_⟩
          (refine endG_keepT [] ?_ ?_ ?_ ?_ ?_ ?_ ?_ ⟨rfl, rfl⟩ ?_ <;> simp)
        · have hp : pull2 c (a, b, lg) = (c.pl.set a (vadd c.pl[a] (vscale (pullV c (a, b, lg)) (fop .mul .f32 1056964608 (pullS c (a, b, lg)))))).set b (vsub c.pl[b] (vscale (pullV c (a, b, lg)) (fop .mul .f32 1056964608 (pullS c (a, b, lg))))) := by simp [pull2, pull1, pullQ, p1, p2, e1, e2]
          rw [hp]
          simp [hf, p1, p2, b1, b2, pinT_get, fop_half]
          (first | refine callG_r ?_ | refine callD_r ?_); simp; (first | refine callN_flat (by with_reducible first | exact c_scale _ _ _ _) rfl ?_ | refine callN_new (by with_reducible first | exact c_scale _ _ _ _) ?_ | refine callM_flat (by with_reducible first | exact c_scale _ _ _ _) rfl ?_ | refine callM_new (by with_reducible first | exact c_scale _ _ _ _) ?_)
          simp [b1, b2]
          (first | refine callG_r ?_ | refine callD_r ?_); simp; (first | refine callN_flat (by with_reducible first | exact c_add _ _ _ _ _ _) rfl ?_ | refine callN_new (by with_reducible first | exact c_add _ _ _ _ _ _) ?_ | refine callM_flat (by with_reducible first | exact c_add _ _ _ _ _ _) rfl ?_ | refine callM_new (by with_reducible first | exact c_add _ _ _ _ _ _) ?_)
          simp [b1, b2, p1, p2, pinT_get]
          refine ⟨by omega, ?_⟩
          (first | refine callG_r ?_ | refine callD_r ?_); simp; (first | refine callN_flat (by with_reducible first | exact c_scale _ _ _ _) rfl ?_ | refine callN_new (by with_reducible first | exact c_scale _ _ _ _) ?_ | refine callM_flat (by with_reducible first | exact c_scale _ _ _ _) rfl ?_ | refine callM_new (by with_reducible first | exact c_scale _ _ _ _) ?_)
          simp [b1, b2]
          (first | refine callG_r ?_ | refine callD_r ?_); simp; (first | refine callN_flat (by with_reducible first | exact c_less _ _ _ _ _ _) rfl ?_ | refine callN_new (by with_reducible first | exact c_less _ _ _ _ _ _) ?_ | refine callM_flat (by with_reducible first | exact c_less _ _ _ _ _ _) rfl ?_ | refine callM_new (by with_reducible first | exact c_less _ _ _ _ _ _) ?_)
          simp [b1, b2]
          refine ⟨by omega, ?_⟩
          (refine endG_keepT [] ?_ ?_ ?_ ?_ ?_ ?_ ?_ ⟨rfl, rfl⟩ ?_ <;> simp [fop_half])
    · have hC : pullC c (a, b, lg) = c := by
        unfold pullC; rw [if_pos (.inr (by simpa using hf))]
      rw [hC]
      simp [hf]
      (refine endG_keepT [] ?_ ?_ ?_ ?_ ?_ ?_ ?_ ⟨rfl, rfl⟩ ?_ <;> simp)
  · have hC : pullC c (a, b, lg) = c := by
      unfold pullC; rw [if_pos (.inl (by rw [e3]; exact z))]
    rw [hC]
    (refine endG_keepT [] ?_ ?_ ?_ ?_ ?_ ?_ ?_ ⟨rfl, rfl⟩ ?_ <;> simp)
theorem c_l10Pull (c : Clo) (k : Nat) (hs : c.Small) (hk : k < c.th.length) (ht : ThOk c.pl.length c.th[k]) :
    Fun Try.prog 111 [.ptr 0 0, .int .i64 k] (c.at false) (.tup []) ((pullC c c.th[k]).at false) := by
  obtain ⟨q1, q2, q3, q4, q5⟩ := ht
  have hth : c.th[k] = (c.th[k].1, c.th[k].2.1, c.th[k].2.2) := rfl
  generalize hA : c.th[k].1 = A at *
  generalize hB : c.th[k].2.1 = B at *
  generalize hG : c.th[k].2.2 = lg at *
  obtain ⟨a, rfl⟩ := Int.eq_ofNat_of_zero_le q1
  obtain ⟨b, rfl⟩ := Int.eq_ofNat_of_zero_le q3
  have b1 : a < c.pl.length := by omega
  have b2 : b < c.pl.length := by omega
  have ne : a ≠ b := by omega
  obtain ⟨e1, e2, e3, e4⟩ := pullC_at (lg := lg) b1 b2
  refine FnSpec.walk dr_ok Try.func111 rfl (by kernel_rfl) rfl rfl rfl (by simp) ?_
  rw [hth]
  simp [hk, hA, hB, hG, b1, b2]
  (first | refine callG_r ?_ | refine callD_r ?_); simp; (first | refine callN_flat (by with_reducible first | exact c_l01Less _ _ _ _ _ _) rfl ?_ | refine callN_new (by with_reducible first | exact c_l01Less _ _ _ _ _ _) ?_ | refine callM_flat (by with_reducible first | exact c_l01Less _ _ _ _ _ _) rfl ?_ | refine callM_new (by with_reducible first | exact c_l01Less _ _ _ _ _ _) ?_)
  simp [b1, b2]
  (first | refine callG_r ?_ | refine callD_r ?_); simp; (first | refine callN_flat (by with_reducible first | exact c_l01Long _ _ _) rfl ?_ | refine callN_new (by with_reducible first | exact c_l01Long _ _ _) ?_ | refine callM_flat (by with_reducible first | exact c_l01Long _ _ _) rfl ?_ | refine callM_new (by with_reducible first | exact c_l01Long _ _ _) ?_)
  simp [b1, b2]
  refine ⟨fun z => ?_, fun z => ?_⟩
  · (first | refine callG_r ?_ | refine callD_r ?_); simp; (first | refine callN_flat (by with_reducible first | exact c_l01Finite _) rfl ?_ | refine callN_new (by with_reducible first | exact c_l01Finite _) ?_ | refine callM_flat (by with_reducible first | exact c_l01Finite _) rfl ?_ | refine callM_new (by with_reducible first | exact c_l01Finite _) ?_)
    rw [← e4, ← e3]
    rw [← e3] at z
    simp [b1, b2]
    by_cases hf : finB (pullS c (a, b, lg)) = true
    · have hC : pullC c (a, b, lg) = { c with pl := pull2 c (a, b, lg) } := by
        unfold pullC; rw [if_neg (by rw [hf]; simp [z])]
      rw [hC]
      simp [hf]
      (first | refine callG_r ?_ | refine callD_r ?_); simp; (first | refine callN_flat (by with_reducible first | exact c_l00Has _ _ hs.pin) rfl ?_ | refine callN_new (by with_reducible first | exact c_l00Has _ _ hs.pin) ?_ | refine callM_flat (by with_reducible first | exact c_l00Has _ _ hs.pin) rfl ?_ | refine callM_new (by with_reducible first | exact c_l00Has _ _ hs.pin) ?_)
      simp [b1, b2]
      (first | refine callG_r ?_ | refine callD_r ?_); simp; (first | refine callN_flat (by with_reducible first | exact c_l00Has _ _ hs.pin) rfl ?_ | refine callN_new (by with_reducible first | exact c_l00Has _ _ hs.pin) ?_ | refine callM_flat (by with_reducible first | exact c_l00Has _ _ hs.pin) rfl ?_ | refine callM_new (by with_reducible first | exact c_l00Has _ _ hs.pin) ?_)
      simp [b1, b2]
      by_cases p1 : (a : Int) ∈ c.pin
      · by_cases p2 : (b : Int) ∈ c.pin
        · have hp : pull2 c (a, b, lg) = c.pl := by simp [pull2, pull1, p1, p2]
          rw [hp]
          simp [hf, p1, p2, b1, b2]
          (refine endG_keepT [] ?_ ?_ ?_ ?_ ?_ ?_ ?_ ⟨rfl, rfl⟩ ?_ <;> simp)
        · have hp : pull2 c (a, b, lg) = c.pl.set b (vsub c.pl[b] (vscale (pullV c (a, b, lg)) (pullS c (a, b, lg)))) := by simp [pull2, pull1, pullQ, p1, p2, e2]
          rw [hp]
          simp [hf, p1, p2, b1, b2]
          (first | refine callG_r ?_ | refine callD_r ?_); simp; (first | refine callN_flat (by with_reducible first | exact c_l01Scale _ _ _ _) rfl ?_ | refine callN_new (by with_reducible first | exact c_l01Scale _ _ _ _) ?_ | refine callM_flat (by with_reducible first | exact c_l01Scale _ _ _ _) rfl ?_ | refine callM_new (by with_reducible first | exact c_l01Scale _ _ _ _) ?_)
          simp [b1, b2]
          (first | refine callG_r ?_ | refine callD_r ?_); simp; (first | refine callN_flat (by with_reducible first | exact c_l01Less _ _ _ _ _ _) rfl ?_ | refine callN_new (by with_reducible first | exact c_l01Less _ _ _ _ _ _) ?_ | refine callM_flat (by with_reducible first | exact c_l01Less _ _ _ _ _ _) rfl ?_ | refine callM_new (by with_reducible first | exact c_l01Less _ _ _ _ _ _) ?_)
          simp [b1, b2]
          refine ⟨by omega, ?_⟩
          (refine endG_keepT [] ?_ ?_ ?_ ?_ ?_ ?_ ?_ ⟨rfl, rfl⟩ ?_ <;> simp)
      · by_cases p2 : (b : Int) ∈ c.pin
        · have hp : pull2 c (a, b, lg) = c.pl.set a (vadd c.pl[a] (vscale (pullV c (a, b, lg)) (pullS c (a, b, lg)))) := by simp [pull2, pull1, pullQ, p1, p2, e1]
          rw [hp]
          simp [hf, p1, p2, b1, b2]
          (first | refine callG_r ?_ | refine callD_r ?_); simp; (first | refine callN_flat (by with_reducible first | exact c_l01Scale _ _ _ _) rfl ?_ | refine callN_new (by with_reducible first | exact c_l01Scale _ _ _ _) ?_ | refine callM_flat (by with_reducible first | exact c_l01Scale _ _ _ _) rfl ?_ | refine callM_new (by with_reducible first | exact c_l01Scale _ _ _ _) ?_)
          simp [b1, b2]
          (first | refine callG_r ?_ | refine callD_r ?_); simp; (first | refine callN_flat (by with_reducible first | exact c_l01Add _ _ _ _ _ _) rfl ?_ | refine callN_new (by with_reducible first | exact c_l01Add _ _ _ _ _ _) ?_ | refine callM_flat (by with_reducible first | exact c_l01Add _ _ _ _ _ _) rfl ?_ | refine callM_new (by with_reducible first | exact c_l01Add _ _ _ _ _ _) ?_)
          simp [b1, b2, p1, p2]
          refine ⟨by omega, ?_⟩
          (refine endG_keepT [] ?_ ?_ ?_ ?_ ?_ ?_ ?_ ⟨rfl, rfl⟩ ?_ <;> simp)
        · have hp : pull2 c (a, b, lg) = (c.pl.set a (vadd c.pl[a] (vscale (pullV c (a, b, lg)) (fop .mul .f32 1056964608 (pullS c (a, b, lg)))))).set b (vsub c.pl[b] (vscale (pullV c (a, b, lg)) (fop .mul .f32 1056964608 (pullS c (a, b, lg))))) := by simp [pull2, pull1, pullQ, p1, p2, e1, e2]
          rw [hp]
          simp [hf, p1, p2, b1, b2]
          (first | refine callG_r ?_ | refine callD_r ?_); simp; (first | refine callN_flat (by with_reducible first | exact c_l01Scale _ _ _ _) rfl ?_ | refine callN_new (by with_reducible first | exact c_l01Scale _ _ _ _) ?_ | refine callM_flat (by with_reducible first | exact c_l01Scale _ _ _ _) rfl ?_ | refine callM_new (by with_reducible first | exact c_l01Scale _ _ _ _) ?_)
          simp [b1, b2]
          (first | refine callG_r ?_ | refine callD_r ?_); simp; (first | refine callN_flat (by with_reducible first | exact c_l01Add _ _ _ _ _ _) rfl ?_ | refine callN_new (by with_reducible first | exact c_l01Add _ _ _ _ _ _) ?_ | refine callM_flat (by with_reducible first | exact c_l01Add _ _ _ _ _ _) rfl ?_ | refine callM_new (by with_reducible first | exact c_l01Add _ _ _ _ _ _) ?_)
          simp [b1, b2, p1, p2]
          refine ⟨by omega, ?_⟩
          (first | refine callG_r ?_ | refine callD_r ?_); simp; (first | refine callN_flat (by with_reducible first | exact c_l01Less _ _ _ _ _ _) rfl ?_ | refine callN_new (by with_reducible first | exact c_l01Less _ _ _ _ _ _) ?_ | refine callM_flat (by with_reducible first | exact c_l01Less _ _ _ _ _ _) rfl ?_ | refine callM_new (by with_reducible first | exact c_l01Less _ _ _ _ _ _) ?_)
          simp [b1, b2]
          refine ⟨by omega, ?_⟩
          (refine endG_keepT [] ?_ ?_ ?_ ?_ ?_ ?_ ?_ ⟨rfl, rfl⟩ ?_ <;> simp)
    · have hC : pullC c (a, b, lg) = c := by
        unfold pullC; rw [if_pos (.inr (by simpa using hf))]
      rw [hC]
      simp [hf]
      (refine endG_keepT [] ?_ ?_ ?_ ?_ ?_ ?_ ?_ ⟨rfl, rfl⟩ ?_ <;> simp)
  · have hC : pullC c (a, b, lg) = c := by
      unfold pullC; rw [if_pos (.inl (by rw [e3]; exact z))]
    rw [hC]
    (refine endG_keepT [] ?_ ?_ ?_ ?_ ?_ ?_ ?_ ⟨rfl, rfl⟩ ?_ <;> simp)
end Go.Proofs.Ytafbecgidhoekaa
