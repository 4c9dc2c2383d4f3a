/- What meshes, bodies, desks must be: the program's and the reference's word on it.
Conditions: none. -/
import Derived.Test.YtnpflgeenecaeaaQ3
import Derived.Test.YtnpflgeenecaeaaK1
namespace Go.Proofs.Ytnpflgeenecaeaa
set_option linter.all false
open Go Go.Awp
set_option maxRecDepth 100000
set_option maxHeartbeats 4000000
set_option pp.deepTerms true

def triB (n : Int) : List Int → Bool
  | [a, b, c] => !decide (a = b) && !decide (b = c) && !decide (a = c) && inB a 0 (n - 1) && inB b 0 (n - 1) && inB c 0 (n - 1)
  | _ => false
theorem tri_len {n : Int} {t : List Int} (h : triB n t = true) : t.length = 3 := by
  unfold triB at h
  split at h
  · rfl
  · cases h
theorem tri_cases (t : List Int) : t.length ≠ 3 ∧ (∀ n, triB n t = false) ∨ ∃ a b c, t = [a, b, c] := by
  match t with
  | [] => exact .inl ⟨by simp, fun _ => rfl⟩
  | [_] => exact .inl ⟨by simp, fun _ => rfl⟩
  | [_, _] => exact .inl ⟨by simp, fun _ => rfl⟩
  | [a, b, c] => exact .inr ⟨a, b, c, rfl⟩
  | _ :: _ :: _ :: _ :: t => exact .inl ⟨by simp, fun _ => rfl⟩
def vldM (m : Msh) : Bool := decide (m.pl.length ≤ 64) && decide (m.tr.length ≤ 128) && m.tr.all (triB m.pl.length)
def geB (x : Nat) : Bool := ford .f32 x 0 == some .gt || ford .f32 x 0 == some .eq
def sprB (n : Int) (s : Sp) : Bool := inB s.1 0 (n - 1) && inB s.2.1 0 (n - 1) && !decide (s.1 = s.2.1) && geB s.2.2.1
def vldB (b : Bod) : Bool := vldM b.me && decide (b.sp.length ≤ 200) && decide (b.w.length = b.me.pl.length) && b.sp.all (sprB b.me.pl.length)
def vldH (b : Bod) (held : List Int) : Bool := vldB b && pinsF b.me.pl.length (-1) held

/-- Of three numbers, whether all lie within. -/
def in3 (n : Int) (t : List Int) (j : Nat) : Bool := (t.drop j).all fun p => inB p 0 (n - 1)
theorem c_ValidMesh (m : Msh) (hs : m.Small) : Fun Try.prog 51 [m.av] [] (.bool (vldM m)) [] := by
  obtain ⟨h1, h2, h3⟩ := hs
  refine FnSpec.walkF dr_ok Try.func51 rfl (by kernel_rfl) rfl rfl rfl (by simp) ?_
  simp
  refine ⟨fun a1 => ⟨fun a2 => ?_, fun a2 => ?_⟩, fun a1 => ?_⟩
  · unfold vldM
    rw [decide_eq_false (p := m.tr.length ≤ 128) (by omega)]; simp
  · have hv : vldM m = m.tr.all (triB m.pl.length) := by
      unfold vldM
      rw [decide_eq_true (p := m.pl.length ≤ 64) (by omega), decide_eq_true (p := m.tr.length ≤ 128) (by omega)]; simp
    have hwn : IntKind.i64.wrap ((m.pl.length : Int) - 1) = (m.pl.length : Int) - 1 := wrap64 (by omega) (by omega)
    refine loopG_of (α := Nat) (fun k => k ≤ m.tr.length ∧ vldM m = (m.tr.drop k).all (triB m.pl.length)) (fun k => m.tr.length - k) (fun k => [(22, .int .i64 k), (21, .int .i64 m.tr.length), (20, .view false (cRs false m.tr) m.tr.length), (3, .int .i64 m.pl.length)]) (fun k => []) 0 ⟨by simp, by simpa using hv⟩ ?_ fun k ⟨hk, hi⟩ => ?_
    · (refine weak_gc [] ?_ ?_ ?_ ?_ ?_ <;> simp)
    have hw := nat_wrap (k := k) (by omega)
    by_cases b : k < m.tr.length
    · rw [List.drop_eq_getElem_cons b, List.all_cons] at hi
      have h4 := h3 _ (List.getElem_mem b)
      simp [b, hw]
      generalize m.tr[k] = t at *
      rcases tri_cases t with ⟨e1, e2⟩ | ⟨x, y, z, rfl⟩
      · have e3 : ¬ (t.length : Int) = 3 := by omega
        simp [e3]
        rw [hi, e2]; simp
      · by_cases g1 : x = y
        · subst g1; simp; rw [hi]; simp [triB]
        by_cases g2 : y = z
        · subst g2; simp [g1]; rw [hi]; simp [triB]
        by_cases g3 : x = z
        · subst g3; simp [g1, g2]; rw [hi]; simp [triB]
        simp [g1, g2, g3]
        have e4 : triB m.pl.length [x, y, z] = in3 m.pl.length [x, y, z] 0 := by simp [triB, in3, g1, g2, g3, Bool.and_assoc]
        rw [e4] at hi
        refine loopG_of (α := Nat) (fun j => j ≤ 3 ∧ vldM m = (in3 m.pl.length [x, y, z] j && (m.tr.drop (k + 1)).all (triB m.pl.length))) (fun j => 3 - j) (fun j => [(58, .int .i64 j), (57, .int .i64 3), (56, .view false (cIs [x, y, z]) 3), (22, .int .i64 k), (21, .int .i64 m.tr.length), (20, .view false (cRs false m.tr) m.tr.length), (3, .int .i64 m.pl.length)]) (fun j => []) 0 ⟨by simp, hi⟩ ?_ fun j ⟨hj, hi2⟩ => ?_
        · (refine weak_gc [] ?_ ?_ ?_ ?_ ?_ <;> simp)
        have hw2 := nat_wrap (k := j) (by omega)
        by_cases b2 : j < 3
        · have b3 : j < [x, y, z].length := b2
          have b4 : (j : Int) < 3 := by omega
          have e5 : in3 m.pl.length [x, y, z] j = (inB [x, y, z][j] 0 ((m.pl.length : Int) - 1) && in3 m.pl.length [x, y, z] (j + 1)) := by
            unfold in3
            rw [List.drop_eq_getElem_cons b3, List.all_cons]
          rw [e5] at hi2
          simp [b2, b3, b4, hw2, hwn]
          (first | refine callG_r ?_ | refine callD_r ?_); simp; (first | refine callN_flat (by with_reducible first | exact c_within _ _ _) rfl ?_ | refine callN_new (by with_reducible first | exact c_within _ _ _) ?_ | refine callM_flat (by with_reducible first | exact c_within _ _ _) rfl ?_ | refine callM_new (by with_reducible first | exact c_within _ _ _) ?_)
          generalize inB [x, y, z][j] 0 ((m.pl.length : Int) - 1) = q at *
          simp [hw2]
          refine ⟨fun g => ?_, fun g => ?_⟩
          · subst g; rw [hi2]; simp
          · subst g
            refine loopK_next (j + 1) (by omega) ⟨by omega, by simpa using hi2⟩ ?_
            (refine weak_gc [] ?_ ?_ ?_ ?_ ?_ <;> simp)
        · obtain rfl : j = 3 := by omega
          simp [hw]
          refine loopK_next (k + 1) (by omega) ⟨by omega, by simpa [in3] using hi2⟩ ?_
          (refine weak_gc [] ?_ ?_ ?_ ?_ ?_ <;> simp)
    · obtain rfl : k = m.tr.length := by omega
      simp
      rw [hi]; simp
  · unfold vldM
    rw [decide_eq_false (p := m.pl.length ≤ 64) (by omega)]; simp
theorem c_l02Triangle (t : List Int) (n : Nat) (h : t.length ≤ 1048576) (hn : n ≤ 64) : Fun Try.prog 91 [.view false (cIs t) t.length, .int .i64 n] [] (.bool (triB n t)) [] := by
  have hw : IntKind.i64.wrap ((n : Int) - 1) = (n : Int) - 1 := wrap64 (by omega) (by omega)
  refine FnSpec.walkF dr_ok Try.func91 rfl (by kernel_rfl) rfl rfl rfl (by simp) ?_
  rcases tri_cases t with ⟨e1, e2⟩ | ⟨x, y, z, rfl⟩
  · have e3 : ¬ (t.length : Int) = 3 := by omega
    simp [e3, e2]
  · by_cases g1 : x = y
    · subst g1; simp [triB]
    by_cases g2 : y = z
    · subst g2; simp [g1, triB]
    by_cases g3 : x = z
    · subst g3; simp [g1, g2, triB]
    simp [g1, g2, g3, hw]
    (first | refine callG_r ?_ | refine callD_r ?_); simp; (first | refine callN_flat (by with_reducible first | exact c_l00In _ _ _) rfl ?_ | refine callN_new (by with_reducible first | exact c_l00In _ _ _) ?_ | refine callM_flat (by with_reducible first | exact c_l00In _ _ _) rfl ?_ | refine callM_new (by with_reducible first | exact c_l00In _ _ _) ?_)
    simp [hw]
    refine ⟨fun e1 => ?_, fun e1 => by simp [triB, e1]⟩
    (first | refine callG_r ?_ | refine callD_r ?_); simp; (first | refine callN_flat (by with_reducible first | exact c_l00In _ _ _) rfl ?_ | refine callN_new (by with_reducible first | exact c_l00In _ _ _) ?_ | refine callM_flat (by with_reducible first | exact c_l00In _ _ _) rfl ?_ | refine callM_new (by with_reducible first | exact c_l00In _ _ _) ?_)
    simp [hw]
    refine ⟨fun e2 => ?_, fun e2 => by simp [triB, e2]⟩
    (first | refine callG_r ?_ | refine callD_r ?_); simp; (first | refine callN_flat (by with_reducible first | exact c_l00In _ _ _) rfl ?_ | refine callN_new (by with_reducible first | exact c_l00In _ _ _) ?_ | refine callM_flat (by with_reducible first | exact c_l00In _ _ _) rfl ?_ | refine callM_new (by with_reducible first | exact c_l00In _ _ _) ?_)
    simp [hw, triB, g1, g2, g3, e1, e2]
/-- Pointers to meshes and bodies that are only read, perhaps parts of what is greater. -/
abbrev Msh.vp (m : Msh) (rest : List AV) : AV := .vptr false (.view false (cVs m.pl) m.pl.length :: .view false (cRs false m.tr) m.tr.length :: rest)
abbrev Bod.vp (b : Bod) (rest : List AV) : AV := .vptr false (.view false (cVs b.me.pl) b.me.pl.length :: .view false (cRs false b.me.tr) b.me.tr.length :: .view false (cSs b.sp) b.sp.length :: .flt .f32 b.film :: .flt .f32 b.bend :: .view false (cFs b.w) b.w.length :: .flt .f32 b.fall.1 :: .flt .f32 b.fall.2.1 :: .flt .f32 b.fall.2.2 :: rest)
attribute [simp] Msh.vp Bod.vp
theorem c_l02Is (m : Msh) (rest : List AV) (hs : m.Small) : Fun Try.prog 77 [m.vp rest] [] (.bool (vldM m)) [] := by
  obtain ⟨h1, h2, h3⟩ := hs
  refine FnSpec.walkF dr_ok Try.func77 rfl (by kernel_rfl) rfl rfl rfl (by simp) ?_
  simp
  refine ⟨fun a1 => ⟨fun a2 => ?_, fun a2 => ?_⟩, fun a1 => ?_⟩
  · unfold vldM
    rw [decide_eq_false (p := m.tr.length ≤ 128) (by omega)]; simp
  · have hv : vldM m = m.tr.all (triB m.pl.length) := by
      unfold vldM
      rw [decide_eq_true (p := m.pl.length ≤ 64) (by omega), decide_eq_true (p := m.tr.length ≤ 128) (by omega)]; simp
    refine loopG_of (α := Nat) (fun k => k ≤ m.tr.length ∧ vldM m = (m.tr.drop k).all (triB m.pl.length)) (fun k => m.tr.length - k) (fun k => [(3, .int .i64 k), (0, m.vp rest)]) (fun k => []) 0 ⟨by simp, by simpa using hv⟩ ?_ fun k ⟨hk, hi⟩ => ?_
    · (refine weak_gc [] ?_ ?_ ?_ ?_ ?_ <;> simp)
    have hw := nat_wrap (k := k) (by omega)
    by_cases b : k < m.tr.length
    · rw [List.drop_eq_getElem_cons b, List.all_cons] at hi
      simp [b, hw]
      (first | refine callG_r ?_ | refine callD_r ?_); simp; (first | refine callN_flat (by with_reducible first | exact c_l02Triangle m.tr[k] m.pl.length (h3 _ (List.getElem_mem b)) (by omega)) rfl ?_ | refine callN_new (by with_reducible first | exact c_l02Triangle m.tr[k] m.pl.length (h3 _ (List.getElem_mem b)) (by omega)) ?_ | refine callM_flat (by with_reducible first | exact c_l02Triangle m.tr[k] m.pl.length (h3 _ (List.getElem_mem b)) (by omega)) rfl ?_ | refine callM_new (by with_reducible first | exact c_l02Triangle m.tr[k] m.pl.length (h3 _ (List.getElem_mem b)) (by omega)) ?_)
      simp [hw]
      refine ⟨fun g => by rw [hi, g]; simp, fun g => ?_⟩
      refine loopK_next (k + 1) (by omega) ⟨by omega, by rw [hi, g]; simp⟩ ?_
      (refine weak_gc [] ?_ ?_ ?_ ?_ ?_ <;> simp)
    · obtain rfl : k = m.tr.length := by omega
      simp
      rw [hi]; simp
  · unfold vldM
    rw [decide_eq_false (p := m.pl.length ≤ 64) (by omega)]; simp
theorem c_ValidBody (b : Bod) (hs : b.Small) : Fun Try.prog 73 [b.av] [] (.bool (vldB b)) [] := by
  obtain ⟨h1, h2, h3⟩ := hs
  have h0 := h1.pl
  refine FnSpec.walkF dr_ok Try.func73 rfl (by kernel_rfl) rfl rfl rfl (by simp) ?_
  simp
  (first | refine callG_r ?_ | refine callD_r ?_); simp; (first | refine callN_flat (by with_reducible first | exact c_ValidMesh b.me h1) rfl ?_ | refine callN_new (by with_reducible first | exact c_ValidMesh b.me h1) ?_ | refine callM_flat (by with_reducible first | exact c_ValidMesh b.me h1) rfl ?_ | refine callM_new (by with_reducible first | exact c_ValidMesh b.me h1) ?_)
  simp
  refine ⟨fun a1 => ⟨fun a2 => ⟨fun a3 => ?_, fun a3 => ?_⟩, fun a2 => ?_⟩, fun a1 => ?_⟩
  · unfold vldB
    rw [decide_eq_false (p := b.w.length = b.me.pl.length) (by omega)]; simp
  · have hpl : b.me.pl.length ≤ 64 := by
      unfold vldM at a1
      simp only [Bool.and_eq_true, decide_eq_true_eq] at a1
      exact a1.1.1
    have hv : vldB b = b.sp.all (sprB b.me.pl.length) := by
      unfold vldB
      rw [a1, decide_eq_true (p := b.w.length = b.me.pl.length) (by omega), decide_eq_true (p := b.sp.length ≤ 200) (by omega)]; simp
    have hwn : IntKind.i64.wrap ((b.me.pl.length : Int) - 1) = (b.me.pl.length : Int) - 1 := wrap64 (by omega) (by omega)
    refine loopG_of (α := Nat) (fun k => k ≤ b.sp.length ∧ vldB b = (b.sp.drop k).all (sprB b.me.pl.length)) (fun k => b.sp.length - k) (fun k => [(30, .int .i64 k), (29, .int .i64 b.sp.length), (28, .view false (cSs b.sp) b.sp.length), (3, .int .i64 b.me.pl.length)]) (fun k => []) 0 ⟨by simp, by simpa using hv⟩ ?_ fun k ⟨hk, hi⟩ => ?_
    · (refine weak_gc [] ?_ ?_ ?_ ?_ ?_ <;> simp)
    have hw := nat_wrap (k := k) (by omega)
    by_cases c : k < b.sp.length
    · rw [List.drop_eq_getElem_cons c, List.all_cons] at hi
      simp [c, hw, hwn]
      (first | refine callG_r ?_ | refine callD_r ?_); simp; (first | refine callN_flat (by with_reducible first | exact c_within _ _ _) rfl ?_ | refine callN_new (by with_reducible first | exact c_within _ _ _) ?_ | refine callM_flat (by with_reducible first | exact c_within _ _ _) rfl ?_ | refine callM_new (by with_reducible first | exact c_within _ _ _) ?_)
      simp [hw, hwn]
      refine ⟨fun e1 => ?_, fun e1 => by rw [hi]; simp [sprB, e1]⟩
      (first | refine callG_r ?_ | refine callD_r ?_); simp; (first | refine callN_flat (by with_reducible first | exact c_within _ _ _) rfl ?_ | refine callN_new (by with_reducible first | exact c_within _ _ _) ?_ | refine callM_flat (by with_reducible first | exact c_within _ _ _) rfl ?_ | refine callM_new (by with_reducible first | exact c_within _ _ _) ?_)
      simp [hw, hwn]
      refine ⟨fun e2 => ⟨fun e3 => ⟨fun e4 => ?_, fun e4 => ?_⟩, fun e3 => by rw [hi]; simp [sprB, e3]⟩, fun e2 => by rw [hi]; simp [sprB, e2]⟩
      · intro e5
        rw [hi]; simp [sprB, geB, e4, e5]
      · have e5 : geB b.sp[k].2.2.1 = true := by unfold geB; simp; by_cases g : ford .f32 b.sp[k].2.2.1 0 = some .gt <;> simp [g] ; exact e4 g
        refine loopK_next (k + 1) (by omega) ⟨by omega, by rw [hi]; simp [sprB, e1, e2, e3, e5]⟩ ?_
        (refine weak_gc [] ?_ ?_ ?_ ?_ ?_ <;> simp)
    · obtain rfl : k = b.sp.length := by omega
      simp
      rw [hi]; simp
  · unfold vldB
    rw [decide_eq_false (p := b.sp.length ≤ 200) (by omega)]; simp
  · unfold vldB
    rw [a1]; simp
theorem vldB_pl {b : Bod} (h : vldB b = true) : b.me.pl.length ≤ 64 := by
  unfold vldB vldM at h
  simp only [Bool.and_eq_true, decide_eq_true_eq] at h
  exact h.1.1.1.1.1
theorem c_IsHeld (b : Bod) (held : List Int) (hs : b.Small) (hh : held.length ≤ 1048576) : Fun Try.prog 44 [b.av, .view false (cIs held) held.length] [] (.bool (vldH b held)) [] := by
  refine FnSpec.walkF dr_ok Try.func44 rfl (by kernel_rfl) rfl rfl rfl (by simp) ?_
  simp
  (first | refine callG_r ?_ | refine callD_r ?_); simp; (first | refine callN_flat (by with_reducible first | exact c_ValidBody b hs) rfl ?_ | refine callN_new (by with_reducible first | exact c_ValidBody b hs) ?_ | refine callM_flat (by with_reducible first | exact c_ValidBody b hs) rfl ?_ | refine callM_new (by with_reducible first | exact c_ValidBody b hs) ?_)
  simp
  refine ⟨fun a1 => ?_, fun a1 => ?_⟩
  · unfold vldH; rw [a1]; rfl
  · have hpl := vldB_pl a1
    have hv : vldH b held = pinsF b.me.pl.length (-1) held := by unfold vldH; rw [a1]; rfl
    have hn : IntKind.i64.wrap ((b.me.pl.length : Int) - 1) = (b.me.pl.length : Int) - 1 := wrap64 (by omega) (by omega)
    refine loopG_of (α := Nat × Int) (fun x => x.1 ≤ held.length ∧ -1 ≤ x.2 ∧ x.2 ≤ 64 ∧ vldH b held = pinsF b.me.pl.length x.2 (held.drop x.1)) (fun x => held.length - x.1)
      (fun x => [(2, .ptr 0 0), (5, .int .i64 x.2), (11, .view false (cIs held) held.length), (12, .int .i64 held.length), (13, .int .i64 x.1)])
      (fun x => [.blk true true 59 b.cells]) (0, -1) ⟨by simp, by simp, by simp, by simpa using hv⟩ ?_ fun x ⟨hx, hx0, hx1, hx2⟩ => ?_
    · (refine weak_gc [(some 0, 0)] ?_ ?_ ?_ ?_ ?_ <;> simp)
    · obtain ⟨j, last⟩ := x
      simp only at hx hx0 hx1 hx2
      have hw := nat_wrap (k := j) (by omega)
      have hl : IntKind.i64.wrap (last + 1) = last + 1 := wrap64 (by omega) (by omega)
      by_cases c : j < held.length
      · rw [List.drop_eq_getElem_cons c] at hx2
        simp [c, hw, hn, hl]
        (first | refine callG_r ?_ | refine callD_r ?_); simp; (first | refine callN_flat (by with_reducible first | exact c_within _ _ _) rfl ?_ | refine callN_new (by with_reducible first | exact c_within _ _ _) ?_ | refine callM_flat (by with_reducible first | exact c_within _ _ _) rfl ?_ | refine callM_new (by with_reducible first | exact c_within _ _ _) ?_)
        simp [hw, hn]
        refine ⟨fun e1 => by rw [hx2]; simp [pinsF, e1], fun e1 => ?_⟩
        have e2 := e1
        simp [inB] at e2
        refine loopK_next (j + 1, held[j]) ?_ ?_ ?_
        · simp; omega
        · refine ⟨by simp; omega, by simp; omega, by simp; omega, ?_⟩
          rw [hx2]; simp [pinsF, e1]
        · (refine weak_gc [(some 0, 0)] ?_ ?_ ?_ ?_ ?_ <;> simp)
      · obtain rfl : j = held.length := by omega
        simp
        rw [hx2]; simp [pinsF]
theorem c_ValidDesk (d : Dsk) (hs : d.Small) : Fun Try.prog 18 [d.av] [] (.bool (vldH d.bo d.held)) [] := by
  obtain ⟨h1, h2⟩ := hs
  refine FnSpec.walkF dr_ok Try.func18 rfl (by kernel_rfl) rfl rfl rfl (by simp) ?_
  simp
  (first | refine callG_r ?_ | refine callD_r ?_); simp; (first | refine callN_flat (by with_reducible first | exact c_IsHeld d.bo d.held h1 h2) rfl ?_ | refine callN_new (by with_reducible first | exact c_IsHeld d.bo d.held h1 h2) ?_ | refine callM_flat (by with_reducible first | exact c_IsHeld d.bo d.held h1 h2) rfl ?_ | refine callM_new (by with_reducible first | exact c_IsHeld d.bo d.held h1 h2) ?_)
  simp

-- the reference
theorem c_l03Spring (s : Sp) (rest : List AV) (n : Nat) (hn : n ≤ 64) : Fun Try.prog 88 [.vptr false (.int .i64 s.1 :: .int .i64 s.2.1 :: .flt .f32 s.2.2.1 :: .flt .f32 s.2.2.2 :: rest), .int .i64 n] [] (.bool (sprB n s)) [] := by
  have hw : IntKind.i64.wrap ((n : Int) - 1) = (n : Int) - 1 := wrap64 (by omega) (by omega)
  refine FnSpec.walkF dr_ok Try.func88 rfl (by kernel_rfl) rfl rfl rfl (by simp) ?_
  simp [hw]
  (first | refine callG_r ?_ | refine callD_r ?_); simp; (first | refine callN_flat (by with_reducible first | exact c_l00In _ _ _) rfl ?_ | refine callN_new (by with_reducible first | exact c_l00In _ _ _) ?_ | refine callM_flat (by with_reducible first | exact c_l00In _ _ _) rfl ?_ | refine callM_new (by with_reducible first | exact c_l00In _ _ _) ?_)
  simp [hw]
  refine ⟨fun e1 => ?_, fun e1 => by simp [sprB, e1]⟩
  (first | refine callG_r ?_ | refine callD_r ?_); simp; (first | refine callN_flat (by with_reducible first | exact c_l00In _ _ _) rfl ?_ | refine callN_new (by with_reducible first | exact c_l00In _ _ _) ?_ | refine callM_flat (by with_reducible first | exact c_l00In _ _ _) rfl ?_ | refine callM_new (by with_reducible first | exact c_l00In _ _ _) ?_)
  simp [hw]
  refine ⟨fun e2 => ?_, fun e2 => by simp [sprB, e2]⟩
  by_cases e3 : s.1 = s.2.1
  · simp [e3, sprB]
  · simp [e3, sprB, e1, e2, geB]
theorem c_l03Is (b : Bod) (rest : List AV) (hs : b.Small) : Fun Try.prog 69 [b.vp rest] [] (.bool (vldB b)) [] := by
  obtain ⟨h1, h2, h3⟩ := hs
  have h0 := h1.pl
  refine FnSpec.walkF dr_ok Try.func69 rfl (by kernel_rfl) rfl rfl rfl (by simp) ?_
  simp
  (first | refine callG_r ?_ | refine callD_r ?_); simp; (first | refine callN_flat (by with_reducible first | exact c_l02Is b.me _ h1) rfl ?_ | refine callN_new (by with_reducible first | exact c_l02Is b.me _ h1) ?_ | refine callM_flat (by with_reducible first | exact c_l02Is b.me _ h1) rfl ?_ | refine callM_new (by with_reducible first | exact c_l02Is b.me _ h1) ?_)
  simp
  refine ⟨fun a1 => ⟨fun a2 => ⟨fun a3 => ?_, fun a3 => ?_⟩, fun a2 => ?_⟩, fun a1 => ?_⟩
  · unfold vldB
    rw [decide_eq_false (p := b.w.length = b.me.pl.length) (by omega)]; simp
  · have hpl : b.me.pl.length ≤ 64 := by
      unfold vldM at a1
      simp only [Bool.and_eq_true, decide_eq_true_eq] at a1
      exact a1.1.1
    have hv : vldB b = b.sp.all (sprB b.me.pl.length) := by
      unfold vldB
      rw [a1, decide_eq_true (p := b.w.length = b.me.pl.length) (by omega), decide_eq_true (p := b.sp.length ≤ 200) (by omega)]; simp
    refine loopG_of (α := Nat) (fun k => k ≤ b.sp.length ∧ vldB b = (b.sp.drop k).all (sprB b.me.pl.length)) (fun k => b.sp.length - k) (fun k => [(36, .int .i64 k), (35, .int .i64 b.sp.length), (0, b.vp rest)]) (fun k => []) 0 ⟨by simp, by simpa using hv⟩ ?_ fun k ⟨hk, hi⟩ => ?_
    · (refine weak_gc [] ?_ ?_ ?_ ?_ ?_ <;> simp)
    have hw := nat_wrap (k := k) (by omega)
    by_cases c : k < b.sp.length
    · rw [List.drop_eq_getElem_cons c, List.all_cons] at hi
      simp [c, hw]
      (first | refine callG_r ?_ | refine callD_r ?_); simp; (first | refine callN_flat (by with_reducible first | exact c_l03Spring b.sp[k] (cSs (b.sp.drop (k + 1))) b.me.pl.length hpl) rfl ?_ | refine callN_new (by with_reducible first | exact c_l03Spring b.sp[k] (cSs (b.sp.drop (k + 1))) b.me.pl.length hpl) ?_ | refine callM_flat (by with_reducible first | exact c_l03Spring b.sp[k] (cSs (b.sp.drop (k + 1))) b.me.pl.length hpl) rfl ?_ | refine callM_new (by with_reducible first | exact c_l03Spring b.sp[k] (cSs (b.sp.drop (k + 1))) b.me.pl.length hpl) ?_)
      simp [hw]
      refine ⟨fun e1 => by rw [hi, e1]; simp, fun e1 => ?_⟩
      refine loopK_next (k + 1) (by omega) ⟨by omega, by rw [hi, e1]; simp⟩ ?_
      (refine weak_gc [] ?_ ?_ ?_ ?_ ?_ <;> simp)
    · obtain rfl : k = b.sp.length := by omega
      simp
      rw [hi]; simp
  · unfold vldB
    rw [decide_eq_false (p := b.sp.length ≤ 200) (by omega)]; simp
  · unfold vldB
    rw [a1]; simp
theorem c_l05Held (b : Bod) (rest : List AV) (held : List Int) (hpl : b.me.pl.length ≤ 64) (hh : held.length ≤ 1048576) : Fun Try.prog 70 [b.vp rest, .view false (cIs held) held.length] [] (.bool (pinsF b.me.pl.length (-1) held)) [] := by
  have hw : IntKind.i64.wrap ((b.me.pl.length : Int) - 1) = (b.me.pl.length : Int) - 1 := wrap64 (by omega) (by omega)
  refine FnSpec.walkF dr_ok Try.func70 rfl (by kernel_rfl) rfl rfl rfl (by simp) ?_
  simp [hw]
  (first | refine callG_r ?_ | refine callD_r ?_); simp; (first | refine callN_flat (by with_reducible first | exact c_l00Rises held b.me.pl.length hpl hh) rfl ?_ | refine callN_new (by with_reducible first | exact c_l00Rises held b.me.pl.length hpl hh) ?_ | refine callM_flat (by with_reducible first | exact c_l00Rises held b.me.pl.length hpl hh) rfl ?_ | refine callM_new (by with_reducible first | exact c_l00Rises held b.me.pl.length hpl hh) ?_)
  simp
/-- A pointer to a desk that is only read. -/
abbrev Dsk.vp (d : Dsk) (rest : List AV) : AV := d.bo.vp (.view false (cIs d.held) d.held.length :: rest)
attribute [simp] Dsk.vp
theorem c_l11Is (d : Dsk) (rest : List AV) (hs : d.Small) : Fun Try.prog 42 [d.vp rest] [] (.bool (vldH d.bo d.held)) [] := by
  obtain ⟨h1, h2⟩ := hs
  refine FnSpec.walkF dr_ok Try.func42 rfl (by kernel_rfl) rfl rfl rfl (by simp) ?_
  simp
  (first | refine callG_r ?_ | refine callD_r ?_); simp; (first | refine callN_flat (by with_reducible first | exact c_l03Is d.bo _ h1) rfl ?_ | refine callN_new (by with_reducible first | exact c_l03Is d.bo _ h1) ?_ | refine callM_flat (by with_reducible first | exact c_l03Is d.bo _ h1) rfl ?_ | refine callM_new (by with_reducible first | exact c_l03Is d.bo _ h1) ?_)
  simp
  refine ⟨fun a1 => ?_, fun a1 => by simp [vldH, a1]⟩
  (first | refine callG_r ?_ | refine callD_r ?_); simp; (first | refine callN_flat (by with_reducible first | exact c_l05Held d.bo _ d.held (vldB_pl a1) h2) rfl ?_ | refine callN_new (by with_reducible first | exact c_l05Held d.bo _ d.held (vldB_pl a1) h2) ?_ | refine callM_flat (by with_reducible first | exact c_l05Held d.bo _ d.held (vldB_pl a1) h2) rfl ?_ | refine callM_new (by with_reducible first | exact c_l05Held d.bo _ d.held (vldB_pl a1) h2) ?_)
  simp [vldH, a1]
theorem c_specValidDesk (d : Dsk) (hs : d.Small) : Fun Try.prog 16 [d.av] [] (.bool (vldH d.bo d.held)) [] := by
  refine FnSpec.walkF dr_ok Try.func16 rfl (by kernel_rfl) rfl rfl rfl (by simp) ?_
  simp
  (first | refine callG_r ?_ | refine callD_r ?_); simp; (first | refine callN_flat (by with_reducible first | exact c_l11Is d [] hs) rfl ?_ | refine callN_new (by with_reducible first | exact c_l11Is d [] hs) ?_ | refine callM_flat (by with_reducible first | exact c_l11Is d [] hs) rfl ?_ | refine callM_new (by with_reducible first | exact c_l11Is d [] hs) ?_)
  simp
end Go.Proofs.Ytnpflgeenecaeaa
