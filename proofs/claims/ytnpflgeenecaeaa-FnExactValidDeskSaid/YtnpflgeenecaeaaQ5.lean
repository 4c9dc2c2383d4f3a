/- What meshes, bodies, desks the laws are given; the law of valid desks.
Conditions: none. -/
import Derived.Test.YtnpflgeenecaeaaQ4
import Derived.Test.YtnpflgeenecaeaaA1
namespace Go.Proofs.Ytnpflgeenecaeaa
set_option linter.all false
open Go Go.Awp
set_option maxRecDepth 100000
set_option maxHeartbeats 4000000
set_option pp.deepTerms true

theorem opens_S : Opens Try.prog 144 fun l => ∃ v : Sp, (CanF .f32 v.2.2.1 ∧ CanF .f32 v.2.2.2) ∧ l = eS v :=
  (opens_struct (Ss := [_, _, _, _]) Try.underlying144 (by kernel_rfl) ⟨opens_int Try.underlying2, opens_int Try.underlying2, opens_float Try.underlying44, opens_float Try.underlying44, trivial⟩).mono (by
    rintro l ⟨_, _, ⟨x, hx, rfl⟩, ⟨_, _, ⟨y, hy, rfl⟩, ⟨_, _, ⟨z, hz, rfl⟩, ⟨_, _, ⟨u, hu, rfl⟩, rfl, rfl⟩, rfl⟩, rfl⟩, rfl⟩
    exact ⟨(x, y, z, u), ⟨hz, hu⟩, rfl⟩)
theorem flat_flts (l : List Nat) : l.flatMap (fun n => [AV.flt .f32 n]) = cFs l := by
  induction l with
  | nil => rfl
  | cons a l ih => simp only [List.flatMap_cons, ih]; rfl
theorem flat_rows (l : List (List Int)) : l.flatMap (fun t => [AV.view false (cIs t) t.length]) = cRs false l := by
  induction l with
  | nil => rfl
  | cons a l ih => simp only [List.flatMap_cons, ih]; rfl
theorem opens_Ss : Opens Try.prog 43 fun l => ∃ vs : List Sp, ((∀ v ∈ vs, CanF .f32 v.2.2.1 ∧ CanF .f32 v.2.2.2) ∧ vs.length ≤ maxLen) ∧ l = [.view false (cSs vs) vs.length] :=
  opens_slice Try.underlying43 (by kernel_rfl) (by decide : 0 < 4) eS_length opens_S
theorem opens_Fs : Opens Try.prog 45 fun l => ∃ vs : List Nat, ((∀ v ∈ vs, CanF .f32 v) ∧ vs.length ≤ maxLen) ∧ l = [.view false (cFs vs) vs.length] :=
  (opens_slice (enc' := fun n : Nat => [AV.flt .f32 n]) Try.underlying45 (by kernel_rfl) (by decide : 0 < 1) (fun _ => rfl) (opens_float Try.underlying44)).mono (by
    rintro l ⟨vs, h, rfl⟩
    exact ⟨vs, h, by rw [flat_flts]⟩)
theorem opens_Rs : Opens Try.prog 40 fun l => ∃ T : List (List Int), ((∀ t ∈ T, (∀ v ∈ t, I64 v) ∧ t.length ≤ maxLen) ∧ T.length ≤ maxLen) ∧ l = [.view false (cRs false T) T.length] :=
  (opens_slice (enc' := fun t : List Int => [AV.view false (cIs t) t.length]) Try.underlying40 (by kernel_rfl) (by decide : 0 < 1) (fun _ => rfl) opens_Is).mono (by
    rintro l ⟨vs, h, rfl⟩
    exact ⟨vs, h, by rw [flat_rows]⟩)
structure Msh.Can (m : Msh) : Prop where
  pl : ∀ v ∈ m.pl, CanV v
  tr : ∀ t ∈ m.tr, ∀ v ∈ t, I64 v
structure Bod.Can (b : Bod) : Prop where
  me : b.me.Can
  sp : ∀ v ∈ b.sp, CanF .f32 v.2.2.1 ∧ CanF .f32 v.2.2.2
  film : CanF .f32 b.film
  bend : CanF .f32 b.bend
  w : ∀ v ∈ b.w, CanF .f32 v
  fall : CanV b.fall
theorem opens_M : Opens Try.prog 42 fun l => ∃ m : Msh, (m.Len ∧ m.Can) ∧ l = m.cells :=
  (opens_struct (Ss := [_, _]) Try.underlying42 (by kernel_rfl) ⟨opens_Vs, opens_Rs, trivial⟩).mono (by
    rintro l ⟨_, _, ⟨p, ⟨h1, h2⟩, rfl⟩, ⟨_, _, ⟨t, ⟨h3, h4⟩, rfl⟩, rfl, rfl⟩, rfl⟩
    exact ⟨⟨p, t⟩, ⟨⟨h2, h4, fun t ht => (h3 t ht).2⟩, ⟨h1, fun t ht => (h3 t ht).1⟩⟩, rfl⟩)
theorem opens_B : Opens Try.prog 49 fun l => ∃ b : Bod, (b.Len ∧ b.Can) ∧ l = b.cells :=
  (opens_struct (Ss := [_, _, _, _, _, _]) Try.underlying49 (by kernel_rfl) ⟨opens_M, opens_Ss, opens_float Try.underlying44, opens_float Try.underlying44, opens_Fs, opens_V, trivial⟩).mono (by
    rintro l ⟨_, _, ⟨m, ⟨h1, h2⟩, rfl⟩, ⟨_, _, ⟨s, ⟨h3, h4⟩, rfl⟩, ⟨_, _, ⟨f, hf, rfl⟩, ⟨_, _, ⟨g, hg, rfl⟩, ⟨_, _, ⟨w, ⟨h5, h6⟩, rfl⟩, ⟨_, _, ⟨v, hv, rfl⟩, rfl, rfl⟩, rfl⟩, rfl⟩, rfl⟩, rfl⟩, rfl⟩
    exact ⟨⟨m, s, f, g, w, v⟩, ⟨⟨h1, h4, h6⟩, ⟨h2, h3, hf, hg, h5, hv⟩⟩, rfl⟩)
theorem arg_M : ArgOk Try.prog 42 fun a => ∃ m : Msh, (m.Len ∧ m.Can) ∧ a = m.av := .mk fun hok h => by
  obtain ⟨a, ⟨l, ⟨m, hm, rfl⟩, rfl⟩, hr⟩ := (argOk_struct Try.underlying42 opens_M).op hok h
  exact ⟨_, ⟨m, hm, rfl⟩, hr⟩
theorem arg_B : ArgOk Try.prog 49 fun a => ∃ b : Bod, (b.Len ∧ b.Can) ∧ a = b.av := .mk fun hok h => by
  obtain ⟨a, ⟨l, ⟨m, hm, rfl⟩, rfl⟩, hr⟩ := (argOk_struct Try.underlying49 opens_B).op hok h
  exact ⟨_, ⟨m, hm, rfl⟩, hr⟩
theorem arg_D : ArgOk Try.prog 51 fun a => ∃ d : Dsk, (d.Len ∧ d.bo.Can) ∧ a = d.av := .mk fun hok h => by
  obtain ⟨a, ⟨l, hl, rfl⟩, hr⟩ := (argOk_struct Try.underlying51 (opens_struct (Ss := [_, _]) Try.underlying51 (by kernel_rfl) ⟨opens_B, opens_Is, trivial⟩)).op hok h
  obtain ⟨_, _, ⟨b, ⟨h1, h2⟩, rfl⟩, ⟨_, _, ⟨t, ⟨h3, h4⟩, rfl⟩, rfl, rfl⟩, rfl⟩ := hl
  exact ⟨_, ⟨⟨b, t⟩, ⟨⟨h1, h4⟩, h2⟩, rfl⟩, hr⟩
theorem law_ValidDesk (d : Dsk) (h : d.Len) : FnSpec Try.prog 4 [d.av] [] fun av _ => av = .bool true := by
  refine FnSpec.walkF dr_ok Try.func4 rfl (by kernel_rfl) rfl rfl rfl (by simp) ?_
  simp
  (first | refine callG_r ?_ | refine callD_r ?_); simp; (first | refine callN_flat (by with_reducible first | exact c_szDesk d h 1048576 (by omega) (by omega)) rfl ?_ | refine callN_new (by with_reducible first | exact c_szDesk d h 1048576 (by omega) (by omega)) ?_ | refine callM_flat (by with_reducible first | exact c_szDesk d h 1048576 (by omega) (by omega)) rfl ?_ | refine callM_new (by with_reducible first | exact c_szDesk d h 1048576 (by omega) (by omega)) ?_)
  simp
  intro h0
  have hs : d.Small := (szOk_D d (by omega) (by omega)).ok h0
  (first | refine callG_r ?_ | refine callD_r ?_); simp; (first | refine callN_flat (by with_reducible first | exact c_toDesk d hs) rfl ?_ | refine callN_new (by with_reducible first | exact c_toDesk d hs) ?_ | refine callM_flat (by with_reducible first | exact c_toDesk d hs) rfl ?_ | refine callM_new (by with_reducible first | exact c_toDesk d hs) ?_)
  simp
  (first | refine callG_r ?_ | refine callD_r ?_); simp; (first | refine callN_flat (by with_reducible first | exact c_specValidDesk d hs) rfl ?_ | refine callN_new (by with_reducible first | exact c_specValidDesk d hs) ?_ | refine callM_flat (by with_reducible first | exact c_specValidDesk d hs) rfl ?_ | refine callM_new (by with_reducible first | exact c_specValidDesk d hs) ?_)
  simp
  (first | refine callG_r ?_ | refine callD_r ?_); simp; (first | refine callN_flat (by with_reducible first | exact c_toDesk d hs) rfl ?_ | refine callN_new (by with_reducible first | exact c_toDesk d hs) ?_ | refine callM_flat (by with_reducible first | exact c_toDesk d hs) rfl ?_ | refine callM_new (by with_reducible first | exact c_toDesk d hs) ?_)
  simp
  (first | refine callG_r ?_ | refine callD_r ?_); simp; (first | refine callN_flat (by with_reducible first | exact c_ValidDesk d hs) rfl ?_ | refine callN_new (by with_reducible first | exact c_ValidDesk d hs) ?_ | refine callM_flat (by with_reducible first | exact c_ValidDesk d hs) rfl ?_ | refine callM_new (by with_reducible first | exact c_ValidDesk d hs) ?_)
  simp
  (first | refine callG_r ?_ | refine callD_r ?_); simp; (first | refine callN_flat (by with_reducible first | exact c_toDesk d hs) rfl ?_ | refine callN_new (by with_reducible first | exact c_toDesk d hs) ?_ | refine callM_flat (by with_reducible first | exact c_toDesk d hs) rfl ?_ | refine callM_new (by with_reducible first | exact c_toDesk d hs) ?_)
  simp
  (first | refine callG_r ?_ | refine callD_r ?_); simp; (first | refine callN_flat (by with_reducible first | exact c_eqDesk d hs) rfl ?_ | refine callN_new (by with_reducible first | exact c_eqDesk d hs) ?_ | refine callM_flat (by with_reducible first | exact c_eqDesk d hs) rfl ?_ | refine callM_new (by with_reducible first | exact c_eqDesk d hs) ?_)
  simp
end Go.Proofs.Ytnpflgeenecaeaa
