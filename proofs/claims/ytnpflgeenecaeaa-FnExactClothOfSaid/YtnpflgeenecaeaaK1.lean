/- Contracts: what a cloth must be.
Conditions: none. -/
import Derived.Test.YtnpflgeenecaeaaL2
namespace Go.Proofs.Ytnpflgeenecaeaa
set_option linter.all false
open Go Go.Awp
set_option maxRecDepth 100000
set_option maxHeartbeats 4000000
set_option pp.deepTerms false
set_option pp.deepTerms.threshold 8

def thrB (n : Int) (t : Th) : Bool := inB t.1 0 (n - 1) && inB t.2.1 0 (n - 1) && !decide (t.1 = t.2.1) && overB t.2.2
def pinsF (n : Int) : Int → List Int → Bool
  | _, [] => true
  | last, p :: l => inB p (last + 1) (n - 1) && pinsF n p l
def vldC (c : Clo) : Bool := decide (c.pl.length ≤ 64) && decide (c.ol.length = c.pl.length) && decide (c.th.length ≤ 256) && c.th.all (thrB c.pl.length) && pinsF c.pl.length (-1) c.pin

theorem c_ValidCloth (c : Clo) (hs : c.Small) : Fun Try.prog 36 [c.av] [] (.bool (vldC c)) [] := by
  obtain ⟨h1, h2, h3, h4⟩ := hs
  refine FnSpec.walkF dr_ok Try.func36 rfl (by kernel_rfl) rfl rfl rfl (by simp) ?_
  simp
  refine ⟨fun a1 => ⟨fun a2 => ⟨fun a3 => ?_, fun a3 => ?_⟩, fun a2 => ?_⟩, fun a1 => ?_⟩
  · unfold vldC
    rw [decide_eq_false (p := c.th.length ≤ 256) (by omega)]; simp
  · have hv : vldC c = (c.th.all (thrB c.pl.length) && pinsF c.pl.length (-1) c.pin) := by
      unfold vldC
      rw [decide_eq_true (p := c.pl.length ≤ 64) (by omega), decide_eq_true (p := c.ol.length = c.pl.length) (by omega), decide_eq_true (p := c.th.length ≤ 256) (by omega)]; simp
    refine loopG_of (α := Nat) (fun k => k ≤ c.th.length ∧ vldC c = ((c.th.drop k).all (thrB c.pl.length) && pinsF c.pl.length (-1) c.pin)) (fun k => c.th.length - k)
      (fun k => [(1, .ptr 0 0), (3, .int .i64 c.pl.length), (28, .view false (cTs c.th) c.th.length), (29, .int .i64 c.th.length), (30, .int .i64 k)])
      (fun k => [.blk true true 33 [.view false (cVs c.pl) c.pl.length, .view false (cVs c.ol) c.ol.length, .view false (cTs c.th) c.th.length, .view false (cIs c.pin) c.pin.length]]) 0 ⟨by omega, by simpa using hv⟩ (weak_UH rfl (by simp)) fun k ⟨hk, hi⟩ => ?_
    have hw := nat_wrap (k := k) (by omega)
    have hn : IntKind.i64.wrap ((c.pl.length : Int) - 1) = (c.pl.length : Int) - 1 := wrap64 (by omega) (by omega)
    by_cases b : k < c.th.length
    · rw [List.drop_eq_getElem_cons b, List.all_cons] at hi
      simp [b, hw, hn]
      (first | refine callG_r ?_ | refine callD_r ?_); simp; (first | refine callN_flat (by with_reducible first | exact c_within _ _ _) rfl ?_ | refine callN_new (by with_reducible first | exact c_within _ _ _) ?_ | refine callM_flat (by with_reducible first | exact c_within _ _ _) rfl ?_ | refine callM_new (by with_reducible first | exact c_within _ _ _) ?_)
      simp [hw, hn]
      refine ⟨fun e1 => ?_, fun e1 => by rw [hi]; simp [thrB, e1]⟩
      (first | refine callG_r ?_ | refine callD_r ?_); simp; (first | refine callN_flat (by with_reducible first | exact c_within _ _ _) rfl ?_ | refine callN_new (by with_reducible first | exact c_within _ _ _) ?_ | refine callM_flat (by with_reducible first | exact c_within _ _ _) rfl ?_ | refine callM_new (by with_reducible first | exact c_within _ _ _) ?_)
      simp [hw, hn]
      refine ⟨fun e2 => ⟨fun e3 => ?_, fun e3 => by rw [hi]; simp [thrB, e3]⟩, fun e2 => by rw [hi]; simp [thrB, e2]⟩
      (first | refine callG_r ?_ | refine callD_r ?_); simp; (first | refine callN_flat (by with_reducible first | exact c_isOver _) rfl ?_ | refine callN_new (by with_reducible first | exact c_isOver _) ?_ | refine callM_flat (by with_reducible first | exact c_isOver _) rfl ?_ | refine callM_new (by with_reducible first | exact c_isOver _) ?_)
      simp [hw, hn]
      refine ⟨fun e4 => by rw [hi]; simp [thrB, e4], fun e4 => ?_⟩
      refine loopK_next (k + 1) ?_ ?_ ?_
      · omega
      · refine ⟨by omega, ?_⟩
        rw [hi]; simp [thrB, e1, e2, e3, e4]
      · (refine weak_gc [(some 0, 0)] ?_ ?_ ?_ ?_ ?_ <;> simp)
    · obtain rfl : k = c.th.length := by omega
      simp
      refine loopG_of (α := Nat × Int) (fun x => x.1 ≤ c.pin.length ∧ -1 ≤ x.2 ∧ x.2 ≤ 64 ∧ vldC c = pinsF c.pl.length x.2 (c.pin.drop x.1)) (fun x => c.pin.length - x.1)
        (fun x => [(3, .int .i64 c.pl.length), (6, .int .i64 x.2), (63, .view false (cIs c.pin) c.pin.length), (64, .int .i64 c.pin.length), (65, .int .i64 x.1)])
        (fun x => []) (0, -1) ⟨by simp, by simp, by simp, by simpa using hi⟩ ?_ fun x ⟨hx, hx0, hx1, hx2⟩ => ?_
      · (refine weak_gc [] ?_ ?_ ?_ ?_ ?_ <;> simp)
      · obtain ⟨j, last⟩ := x
        simp only at hx hx0 hx1 hx2
        have hw := nat_wrap (k := j) (by omega)
        have hl : IntKind.i64.wrap (last + 1) = last + 1 := wrap64 (by omega) (by omega)
        by_cases b : j < c.pin.length
        · rw [List.drop_eq_getElem_cons b] at hx2
          simp [b, hw, hn, hl]
          (first | refine callG_r ?_ | refine callD_r ?_); simp; (first | refine callN_flat (by with_reducible first | exact c_within _ _ _) rfl ?_ | refine callN_new (by with_reducible first | exact c_within _ _ _) ?_ | refine callM_flat (by with_reducible first | exact c_within _ _ _) rfl ?_ | refine callM_new (by with_reducible first | exact c_within _ _ _) ?_)
          simp [hw, hn]
          refine ⟨fun e1 => by rw [hx2]; simp [pinsF, e1], fun e1 => ?_⟩
          have e2 := e1
          simp [inB] at e2
          refine loopK_next (j + 1, c.pin[j]) ?_ ?_ ?_
          · simp; omega
          · refine ⟨by simp; omega, by simp; omega, by simp; omega, ?_⟩
            rw [hx2]; simp [pinsF, e1]
          · (refine weak_gc [] ?_ ?_ ?_ ?_ ?_ <;> simp)
        · obtain rfl : j = c.pin.length := by omega
          simp
          rw [hx2]; simp [pinsF]
  · unfold vldC
    rw [decide_eq_false (p := c.ol.length = c.pl.length) (by omega)]; simp
  · unfold vldC
    rw [decide_eq_false (p := c.pl.length ≤ 64) (by omega)]; simp

theorem pinsF_last {n : Int} : ∀ {l : List Int} {a b : Int}, -1 ≤ a → pinsF n a l = true → b ≤ a → pinsF n b l = true
  | [], _, _, _, _, _ => rfl
  | p :: l, a, b, h0, h, hb => by
    simp [pinsF, inB] at h ⊢
    exact ⟨by omega, h.2⟩
theorem c_l00Rises (l : List Int) (n : Nat) (hn : n ≤ 64) (h : l.length ≤ 1048576) : Fun Try.prog 86 [.view false (cIs l) l.length, .int .i64 0, .int .i64 (n - 1)] [] (.bool (pinsF n (-1) l)) [] := by
  refine FnSpec.walkF dr_ok Try.func86 rfl (by kernel_rfl) rfl rfl rfl (by simp) ?_
  simp
  refine loopG_of (α := Nat × Int) (fun x => x.1 ≤ l.length ∧ -1 ≤ x.2 ∧ x.2 ≤ 64 ∧ pinsF n (-1) l = pinsF n x.2 (l.drop x.1) ∧ (x.1 = 0 → x.2 = -1) ∧ (∀ i, (hi : i + 1 = x.1) → (hl : i < l.length) → x.2 = l[i] ∧ 0 ≤ x.2)) (fun x => l.length - x.1)
    (fun x => [(0, .view false (cIs l) l.length), (1, .int .i64 0), (2, .int .i64 (n - 1)), (7, .int .i64 x.1)])
    (fun x => []) (0, -1) ⟨by simp, by simp, by simp, by simp, by simp, by simp⟩ (weak_UH rfl (by simp)) fun x ⟨hx, hx0, hx1, hx2, hx3, hx4⟩ => ?_
  obtain ⟨j, last⟩ := x
  simp only at hx hx0 hx1 hx2 hx3 hx4
  have hw := nat_wrap (k := j) (by omega)
  by_cases b : j < l.length
  · rw [List.drop_eq_getElem_cons b] at hx2
    simp [b, hw]
    (first | refine callG_r ?_ | refine callD_r ?_); simp; (first | refine callN_flat (by with_reducible first | exact c_l00In _ _ _) rfl ?_ | refine callN_new (by with_reducible first | exact c_l00In _ _ _) ?_ | refine callM_flat (by with_reducible first | exact c_l00In _ _ _) rfl ?_ | refine callM_new (by with_reducible first | exact c_l00In _ _ _) ?_)
    simp [hw]
    refine ⟨fun e1 => ?_, fun e1 => ?_⟩
    · have e2 := e1
      simp [inB] at e2
      have fin : last < l[j] → pinsF n (-1) l = pinsF n l[j] (l.drop (j + 1)) := fun h => by
        rw [hx2]; simp [pinsF, inB]; intro _; omega
      refine ⟨fun h0 => ?_, fun h0 => ?_⟩
      · have hs : IntKind.i64.wrap ((j : Int) - 1) = ((j - 1 : Nat) : Int) := by rw [wrap64 (by omega) (by omega)]; omega
        obtain ⟨g1, g2⟩ := hx4 (j - 1) (by omega) (by omega)
        have b2 : j - 1 < l.length := by omega
        simp [hs, b2, b, hw]
        refine ⟨fun e3 => ?_, fun e3 => ?_⟩
        · rw [hx2]; simp [pinsF, inB]; intro _; omega
        · refine loopK_next (j + 1, l[j]) ?_ ?_ ?_
          · simp; omega
          · refine ⟨by simp; omega, by simp; omega, by simp; omega, fin (by omega), by simp, fun i hi hl => ?_⟩
            simp at hi; subst hi; exact ⟨rfl, by simp; omega⟩
          · (refine weak_gc [] ?_ ?_ ?_ ?_ ?_ <;> simp)
      · subst h0
        simp [hw]
        refine loopK_next (0 + 1, l[0]) ?_ ?_ ?_
        · simp; omega
        · have := hx3 rfl
          refine ⟨by simp; omega, by simp; omega, by simp; omega, fin (by omega), by simp, fun i hi hl => ?_⟩
          simp at hi; subst hi; exact ⟨rfl, by simp; omega⟩
        · (refine weak_gc [] ?_ ?_ ?_ ?_ ?_ <;> simp)
    · rw [hx2]; simp [pinsF]; intro e2
      simp [inB] at e1 e2; omega
  · obtain rfl : j = l.length := by omega
    simp
    rw [hx2]; simp [pinsF]
end Go.Proofs.Ytnpflgeenecaeaa
