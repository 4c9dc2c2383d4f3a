/- Contracts: runs of cloths.
Conditions: none. -/
import Derived.Test.YtafbecgidhoekaaM9
namespace Go.Proofs.Ytafbecgidhoekaa
set_option linter.all false
open Go Go.Awp
set_option maxRecDepth 100000
set_option maxHeartbeats 4000000
set_option pp.deepTerms true

/-- What a run is told. -/
structure Rn where
  f : V
  q : Nat
  r : Nat
  o : V
  rad : Nat
def runC (c : Clo) (x : Rn) : Nat → Clo
  | 0 => c
  | k + 1 => drapeC (relC (fallC (runC c x k) x.f x.q) x.r) x.o x.rad
structure Like (d c : Clo) : Prop where
  pl : d.pl.length = c.pl.length
  ol : d.ol.length = c.ol.length
  th : d.th = c.th
  pin : d.pin = c.pin
theorem run_like (c : Clo) (x : Rn) : ∀ k, Like (runC c x k) c
  | 0 => ⟨rfl, rfl, rfl, rfl⟩
  | k + 1 => by
    obtain ⟨h1, h2, h3, h4⟩ := run_like c x k
    exact ⟨by rw [runC, drapeC_pl]; show (relL _ _).length = _; rw [relL_length, fallC_pl, h1], by rw [runC]; show (fallC (runC c x k) x.f x.q).ol.length = _; rw [fallC_ol, h2], h3, h4⟩
theorem Like.small {c d : Clo} (h : Like d c) (hs : c.Small) : d.Small := hs.of_len h.pl h.ol (by rw [h.th]) (by rw [h.pin])
theorem c_RunCloth (c : Clo) (f : V) (q : Nat) (r : Int) (o : V) (rad : Nat) (n : Int) (hs : c.Small) (hv : (vldC c && inB r 0 40 && overB rad && inB n 0 40) = true) :
    Fun Try.prog 59 [c.av, aV f, .flt .f32 q, .int .i64 r, aV o, .flt .f32 rad, .int .i64 n] [] (.tup [(runC c ⟨f, q, r.toNat, o, rad⟩ n.toNat).own 0, .bool true]) (runC c ⟨f, q, r.toNat, o, rad⟩ n.toNat).mem := by
  simp only [Bool.and_eq_true] at hv
  obtain ⟨⟨⟨hv, hr⟩, ho⟩, hn⟩ := hv
  have hvl := vld_len hv
  obtain ⟨r, rfl, hr40⟩ := inB_nat hr
  obtain ⟨n, rfl, hn40⟩ := inB_nat hn
  rw [Int.toNat_natCast, Int.toNat_natCast]
  refine FnSpec.walk dr_ok Try.func59 rfl (by kernel_rfl) rfl rfl rfl (by simp) ?_
  simp
  (first | refine callG_r ?_ | refine callD_r ?_); simp; (first | refine callN_flat (by with_reducible first | exact c_ValidCloth c hs) rfl ?_ | refine callN_new (by with_reducible first | exact c_ValidCloth c hs) ?_ | refine callM_flat (by with_reducible first | exact c_ValidCloth c hs) rfl ?_ | refine callM_new (by with_reducible first | exact c_ValidCloth c hs) ?_)
  simp [hv]
  (first | refine callG_r ?_ | refine callD_r ?_); simp; (first | refine callN_flat (by with_reducible first | exact c_within _ _ _) rfl ?_ | refine callN_new (by with_reducible first | exact c_within _ _ _) ?_ | refine callM_flat (by with_reducible first | exact c_within _ _ _) rfl ?_ | refine callM_new (by with_reducible first | exact c_within _ _ _) ?_)
  simp [hr]
  (first | refine callG_r ?_ | refine callD_r ?_); simp; (first | refine callN_flat (by with_reducible first | exact c_isOver _) rfl ?_ | refine callN_new (by with_reducible first | exact c_isOver _) ?_ | refine callM_flat (by with_reducible first | exact c_isOver _) rfl ?_ | refine callM_new (by with_reducible first | exact c_isOver _) ?_)
  simp [ho]
  (first | refine callG_r ?_ | refine callD_r ?_); simp; (first | refine callN_flat (by with_reducible first | exact c_within _ _ _) rfl ?_ | refine callN_new (by with_reducible first | exact c_within _ _ _) ?_ | refine callM_flat (by with_reducible first | exact c_within _ _ _) rfl ?_ | refine callM_new (by with_reducible first | exact c_within _ _ _) ?_)
  simp [hn]
  (first | refine callG_r ?_ | refine callD_r ?_); simp; (first | refine callN_flat (by with_reducible first | exact c_copyCloth c hs) rfl ?_ | refine callN_new (by with_reducible first | exact c_copyCloth c hs) ?_ | refine callM_flat (by with_reducible first | exact c_copyCloth c hs) rfl ?_ | refine callM_new (by with_reducible first | exact c_copyCloth c hs) ?_)
  simp
  generalize hx : (⟨f, q, r, o, rad⟩ : Rn) = x
  refine loopG_of (α := Nat) (fun k => k ≤ n) (fun k => n - k) (fun k => [(39, .int .i64 k), (38, .int .i64 n), (16, .ptr 8 0), (8, .ptr 1 0), (11, .ptr 2 0), (2, .flt .f32 q), (3, .int .i64 r), (5, .flt .f32 rad), (14, .ptr 3 0)])
    (fun k => [.gone, .blk true true 56 [.flt .f32 f.1, .flt .f32 f.2.1, .flt .f32 f.2.2], .blk true true 56 [.flt .f32 o.1, .flt .f32 o.2.1, .flt .f32 o.2.2], .blk true true 32 [.nils, .nils, .nils, .nils],
      .blk true false 56 (cVs (runC c x k).pl), .blk true false 56 (cVs (runC c x k).ol), .blk true false 80 (cTs (runC c x k).th), .blk true false 2 (cIs (runC c x k).pin),
      .blk true true 32 [.slc 4 0 (runC c x k).pl.length 3, .slc 5 0 (runC c x k).ol.length 3, .slc 6 0 (runC c x k).th.length 3, .slc 7 0 (runC c x k).pin.length 1]]) 0 (by simp) ?_ fun k hk => ?_
  · (refine weak_gc [(some 0, 0), (some 1, 0), (some 2, 0), (some 3, 0), (some 4, 0), (some 5, 0), (some 6, 0), (some 7, 0), (some 8, 0)] ?_ ?_ ?_ ?_ ?_ <;> simp [runC])
  have hw := nat_wrap (k := k) (by omega)
  by_cases b : k < n
  · have hD := run_like c x k
    have hDs := hD.small hs
    have hp : ∀ p ∈ (runC c x k).pin, 0 ≤ p ∧ p < (runC c x k).pl.length := by rw [hD.pin, hD.pl]; exact vld_pins hv
    have ht : ∀ t ∈ (runC c x k).th, ThOk (runC c x k).pl.length t := by rw [hD.th, hD.pl]; exact vld_th hv
    have hl : (runC c x k).pl.length ≤ 64 := by rw [hD.pl]; exact hvl.1
    have hol : (runC c x k).ol.length = (runC c x k).pl.length := by rw [hD.pl, hD.ol]; exact hvl.2.1
    have e : runC c x (k + 1) = drapeC (relC (fallC (runC c x k) f q) r) o rad := by rw [runC, ← hx]
    generalize runC c x k = d at *
    simp [b, hw]
    (first | refine callG_on true [8, 4, 5, 6, 7] ?_ | refine callD_on true [8, 4, 5, 6, 7] ?_); simp; (first | refine callN_fun (by with_reducible exact c_fall d f q hDs hl hol hp) (by simp) ?_ | refine callMD_fun (by with_reducible exact c_fall d f q hDs hl hol hp) (by simp) ?_)
    simp [b, hw]
    have f1 := fallC_pl d f q
    have f2 := fallC_ol d f q
    have hFs : (fallC d f q).Small := hDs.of_len f1 f2 rfl rfl
    have hFp : ∀ p ∈ (fallC d f q).pin, 0 ≤ p ∧ p < (fallC d f q).pl.length := by rw [f1]; exact hp
    have hFt : ∀ t ∈ (fallC d f q).th, ThOk (fallC d f q).pl.length t := by rw [f1]; exact ht
    have hFl : (fallC d f q).pl.length ≤ 64 := by rw [f1]; exact hl
    generalize fallC d f q = e1 at *
    (first | refine callG_on true [8, 4, 5, 6, 7] ?_ | refine callD_on true [8, 4, 5, 6, 7] ?_); simp; (first | refine callN_fun (by with_reducible exact c_relax e1 r hFs hFl hFp hFt (by omega)) (by simp) ?_ | refine callMD_fun (by with_reducible exact c_relax e1 r hFs hFl hFp hFt (by omega)) (by simp) ?_)
    simp [b, hw]
    have g1 : (relC e1 r).pl.length = e1.pl.length := relL_length _ _
    have hGs : (relC e1 r).Small := hFs.of_len g1 rfl rfl rfl
    have hGp : ∀ p ∈ (relC e1 r).pin, 0 ≤ p ∧ p < (relC e1 r).pl.length := by rw [g1]; exact hFp
    generalize relC e1 r = e2 at *
    (first | refine callG_on true [8, 4, 5, 6, 7] ?_ | refine callD_on true [8, 4, 5, 6, 7] ?_); simp; (first | refine callN_fun (by with_reducible exact c_drape e2 o rad hGs (by omega) hGp) (by simp) ?_ | refine callMD_fun (by with_reducible exact c_drape e2 o rad hGs (by omega) hGp) (by simp) ?_)
    simp [b, hw]
    refine loopK_next (k + 1) (by omega) (by omega) ?_
    rw [e]
    (refine weak_gc [(some 0, 0), (some 1, 0), (some 2, 0), (some 3, 0), (some 4, 0), (some 5, 0), (some 6, 0), (some 7, 0), (some 8, 0)] ?_ ?_ ?_ ?_ ?_ <;> simp)
  · obtain rfl : k = n := by omega
    simp
    (refine endG_keepT [(some 4, 0), (some 5, 0), (some 6, 0), (some 7, 0)] ?_ ?_ ?_ ?_ ?_ ?_ ?_ ⟨rfl, rfl⟩ ?_ <;> simp)
theorem c_specRunCloth (c : Clo) (f : V) (q : Nat) (r : Int) (o : V) (rad : Nat) (n : Int) (hs : c.Small) (hv : (vldC c && inB r 0 40 && overB rad && inB n 0 40) = true) :
    Fun Try.prog 58 [c.av, aV f, .flt .f32 q, .int .i64 r, aV o, .flt .f32 rad, .int .i64 n] [] (.tup [(runC c ⟨f, q, r.toNat, o, rad⟩ n.toNat).own 0, .bool true]) (runC c ⟨f, q, r.toNat, o, rad⟩ n.toNat).mem := by
  simp only [Bool.and_eq_true] at hv
  obtain ⟨⟨⟨hv, hr⟩, ho⟩, hn⟩ := hv
  have hvl := vld_len hv
  obtain ⟨r, rfl, hr40⟩ := inB_nat hr
  obtain ⟨n, rfl, hn40⟩ := inB_nat hn
  rw [Int.toNat_natCast, Int.toNat_natCast]
  refine FnSpec.walk dr_ok Try.func58 rfl (by kernel_rfl) rfl rfl rfl (by simp) ?_
  simp
  (first | refine callG_r ?_ | refine callD_r ?_); simp; (first | refine callN_flat (by with_reducible first | exact c_l10Is c hs) rfl ?_ | refine callN_new (by with_reducible first | exact c_l10Is c hs) ?_ | refine callM_flat (by with_reducible first | exact c_l10Is c hs) rfl ?_ | refine callM_new (by with_reducible first | exact c_l10Is c hs) ?_)
  simp [hv]
  (first | refine callG_r ?_ | refine callD_r ?_); simp; (first | refine callN_flat (by with_reducible first | exact c_l10Rounds _) rfl ?_ | refine callN_new (by with_reducible first | exact c_l10Rounds _) ?_ | refine callM_flat (by with_reducible first | exact c_l10Rounds _) rfl ?_ | refine callM_new (by with_reducible first | exact c_l10Rounds _) ?_)
  simp [hr]
  (first | refine callG_r ?_ | refine callD_r ?_); simp; (first | refine callN_flat (by with_reducible first | exact c_l02Size _) rfl ?_ | refine callN_new (by with_reducible first | exact c_l02Size _) ?_ | refine callM_flat (by with_reducible first | exact c_l02Size _) rfl ?_ | refine callM_new (by with_reducible first | exact c_l02Size _) ?_)
  simp [ho]
  (first | refine callG_r ?_ | refine callD_r ?_); simp; (first | refine callN_flat (by with_reducible first | exact c_l10Rounds _) rfl ?_ | refine callN_new (by with_reducible first | exact c_l10Rounds _) ?_ | refine callM_flat (by with_reducible first | exact c_l10Rounds _) rfl ?_ | refine callM_new (by with_reducible first | exact c_l10Rounds _) ?_)
  simp [hn]
  (first | refine callG_r ?_ | refine callD_r ?_); simp; (first | refine callN_flat (by with_reducible first | exact c_l10Own c hs) rfl ?_ | refine callN_new (by with_reducible first | exact c_l10Own c hs) ?_ | refine callM_flat (by with_reducible first | exact c_l10Own c hs) rfl ?_ | refine callM_new (by with_reducible first | exact c_l10Own c hs) ?_)
  simp
  generalize hx : (⟨f, q, r, o, rad⟩ : Rn) = x
  refine loopG_of (α := Nat) (fun k => k ≤ n) (fun k => n - k) (fun k => [(17, .int .i64 k), (6, .int .i64 n), (16, .ptr 8 0), (8, .ptr 1 0), (11, .ptr 2 0), (2, .flt .f32 q), (3, .int .i64 r), (5, .flt .f32 rad), (14, .ptr 3 0)])
    (fun k => [.gone, .blk true true 56 [.flt .f32 f.1, .flt .f32 f.2.1, .flt .f32 f.2.2], .blk true true 56 [.flt .f32 o.1, .flt .f32 o.2.1, .flt .f32 o.2.2], .blk true true 32 [.nils, .nils, .nils, .nils],
      .blk true false 56 (cVs (runC c x k).pl), .blk true false 56 (cVs (runC c x k).ol), .blk true false 80 (cTs (runC c x k).th), .blk true false 2 (cIs (runC c x k).pin),
      .blk true true 32 [.slc 4 0 (runC c x k).pl.length 3, .slc 5 0 (runC c x k).ol.length 3, .slc 6 0 (runC c x k).th.length 3, .slc 7 0 (runC c x k).pin.length 1]]) 0 (by simp) ?_ fun k hk => ?_
  · (refine weak_gc [(some 0, 0), (some 1, 0), (some 2, 0), (some 3, 0), (some 4, 0), (some 5, 0), (some 6, 0), (some 7, 0), (some 8, 0)] ?_ ?_ ?_ ?_ ?_ <;> simp [runC])
  have hw := nat_wrap (k := k) (by omega)
  by_cases b : k < n
  · have hD := run_like c x k
    have hDs := hD.small hs
    have ht : ∀ t ∈ (runC c x k).th, ThOk (runC c x k).pl.length t := by rw [hD.th, hD.pl]; exact vld_th hv
    have hl : (runC c x k).pl.length ≤ 64 := by rw [hD.pl]; exact hvl.1
    have hol : (runC c x k).ol.length = (runC c x k).pl.length := by rw [hD.pl, hD.ol]; exact hvl.2.1
    have e : runC c x (k + 1) = drapeC (relC (fallC (runC c x k) f q) r) o rad := by rw [runC, ← hx]
    generalize runC c x k = d at *
    simp [b, hw]
    (first | refine callG_on true [8, 4, 5, 6, 7] ?_ | refine callD_on true [8, 4, 5, 6, 7] ?_); simp; (first | refine callN_fun (by with_reducible exact c_l10Fall d f q hDs hl hol) (by simp) ?_ | refine callMD_fun (by with_reducible exact c_l10Fall d f q hDs hl hol) (by simp) ?_)
    simp [b, hw]
    have f1 := fallC_pl d f q
    have f2 := fallC_ol d f q
    have hFs : (fallC d f q).Small := hDs.of_len f1 f2 rfl rfl
    have hFt : ∀ t ∈ (fallC d f q).th, ThOk (fallC d f q).pl.length t := by rw [f1]; exact ht
    have hFl : (fallC d f q).pl.length ≤ 64 := by rw [f1]; exact hl
    generalize fallC d f q = e1 at *
    (first | refine callG_on true [8, 4, 5, 6, 7] ?_ | refine callD_on true [8, 4, 5, 6, 7] ?_); simp; (first | refine callN_fun (by with_reducible exact c_l10Relax e1 r hFs hFt (by omega)) (by simp) ?_ | refine callMD_fun (by with_reducible exact c_l10Relax e1 r hFs hFt (by omega)) (by simp) ?_)
    simp [b, hw]
    have g1 : (relC e1 r).pl.length = e1.pl.length := relL_length _ _
    have hGs : (relC e1 r).Small := hFs.of_len g1 rfl rfl rfl
    generalize relC e1 r = e2 at *
    (first | refine callG_on true [8, 4, 5, 6, 7] ?_ | refine callD_on true [8, 4, 5, 6, 7] ?_); simp; (first | refine callN_fun (by with_reducible exact c_l10Drape e2 o rad hGs (by omega)) (by simp) ?_ | refine callMD_fun (by with_reducible exact c_l10Drape e2 o rad hGs (by omega)) (by simp) ?_)
    simp [b, hw]
    refine loopK_next (k + 1) (by omega) (by omega) ?_
    rw [e]
    (refine weak_gc [(some 0, 0), (some 1, 0), (some 2, 0), (some 3, 0), (some 4, 0), (some 5, 0), (some 6, 0), (some 7, 0), (some 8, 0)] ?_ ?_ ?_ ?_ ?_ <;> simp)
  · obtain rfl : k = n := by omega
    simp
    (refine endG_keepT [(some 4, 0), (some 5, 0), (some 6, 0), (some 7, 0)] ?_ ?_ ?_ ?_ ?_ ?_ ?_ ⟨rfl, rfl⟩ ?_ <;> simp)
theorem c_RunCloth0 (c : Clo) (f : V) (q : Nat) (r : Int) (o : V) (rad : Nat) (n : Int) (hs : c.Small) (hv : (vldC c && inB r 0 40 && overB rad && inB n 0 40) = false) :
    Fun Try.prog 59 [c.av, aV f, .flt .f32 q, .int .i64 r, aV o, .flt .f32 rad, .int .i64 n] [] (.tup [noC, .bool false]) [] := by
  refine FnSpec.walk dr_ok Try.func59 rfl (by kernel_rfl) rfl rfl rfl (by simp) ?_
  simp
  (first | refine callG_r ?_ | refine callD_r ?_); simp; (first | refine callN_flat (by with_reducible first | exact c_ValidCloth c hs) rfl ?_ | refine callN_new (by with_reducible first | exact c_ValidCloth c hs) ?_ | refine callM_flat (by with_reducible first | exact c_ValidCloth c hs) rfl ?_ | refine callM_new (by with_reducible first | exact c_ValidCloth c hs) ?_)
  cases h1 : vldC c with
  | false => simp; (refine endG_keepT [] ?_ ?_ ?_ ?_ ?_ ?_ ?_ ⟨rfl, rfl⟩ ?_ <;> simp [noC])
  | true =>
    simp
    (first | refine callG_r ?_ | refine callD_r ?_); simp; (first | refine callN_flat (by with_reducible first | exact c_within _ _ _) rfl ?_ | refine callN_new (by with_reducible first | exact c_within _ _ _) ?_ | refine callM_flat (by with_reducible first | exact c_within _ _ _) rfl ?_ | refine callM_new (by with_reducible first | exact c_within _ _ _) ?_)
    cases h2 : inB r 0 40 with
    | false => simp; (refine endG_keepT [] ?_ ?_ ?_ ?_ ?_ ?_ ?_ ⟨rfl, rfl⟩ ?_ <;> simp [noC])
    | true =>
      simp
      (first | refine callG_r ?_ | refine callD_r ?_); simp; (first | refine callN_flat (by with_reducible first | exact c_isOver _) rfl ?_ | refine callN_new (by with_reducible first | exact c_isOver _) ?_ | refine callM_flat (by with_reducible first | exact c_isOver _) rfl ?_ | refine callM_new (by with_reducible first | exact c_isOver _) ?_)
      cases h3 : overB rad with
      | false => simp; (refine endG_keepT [] ?_ ?_ ?_ ?_ ?_ ?_ ?_ ⟨rfl, rfl⟩ ?_ <;> simp [noC])
      | true =>
        rw [h1, h2, h3] at hv
        simp at hv
        simp
        (first | refine callG_r ?_ | refine callD_r ?_); simp; (first | refine callN_flat (by with_reducible first | exact c_within _ _ _) rfl ?_ | refine callN_new (by with_reducible first | exact c_within _ _ _) ?_ | refine callM_flat (by with_reducible first | exact c_within _ _ _) rfl ?_ | refine callM_new (by with_reducible first | exact c_within _ _ _) ?_)
        simp [hv]
        (refine endG_keepT [] ?_ ?_ ?_ ?_ ?_ ?_ ?_ ⟨rfl, rfl⟩ ?_ <;> simp [noC])
theorem c_specRunCloth0 (c : Clo) (f : V) (q : Nat) (r : Int) (o : V) (rad : Nat) (n : Int) (hs : c.Small) (hv : (vldC c && inB r 0 40 && overB rad && inB n 0 40) = false) :
    Fun Try.prog 58 [c.av, aV f, .flt .f32 q, .int .i64 r, aV o, .flt .f32 rad, .int .i64 n] [] (.tup [noC, .bool false]) [] := by
  refine FnSpec.walk dr_ok Try.func58 rfl (by kernel_rfl) rfl rfl rfl (by simp) ?_
  simp
  (first | refine callG_r ?_ | refine callD_r ?_); simp; (first | refine callN_flat (by with_reducible first | exact c_l10Is c hs) rfl ?_ | refine callN_new (by with_reducible first | exact c_l10Is c hs) ?_ | refine callM_flat (by with_reducible first | exact c_l10Is c hs) rfl ?_ | refine callM_new (by with_reducible first | exact c_l10Is c hs) ?_)
  cases h1 : vldC c with
  | false => simp; (refine endG_keepT [] ?_ ?_ ?_ ?_ ?_ ?_ ?_ ⟨rfl, rfl⟩ ?_ <;> simp [noC])
  | true =>
    simp
    (first | refine callG_r ?_ | refine callD_r ?_); simp; (first | refine callN_flat (by with_reducible first | exact c_l10Rounds _) rfl ?_ | refine callN_new (by with_reducible first | exact c_l10Rounds _) ?_ | refine callM_flat (by with_reducible first | exact c_l10Rounds _) rfl ?_ | refine callM_new (by with_reducible first | exact c_l10Rounds _) ?_)
    cases h2 : inB r 0 40 with
    | false => simp; (refine endG_keepT [] ?_ ?_ ?_ ?_ ?_ ?_ ?_ ⟨rfl, rfl⟩ ?_ <;> simp [noC])
    | true =>
      simp
      (first | refine callG_r ?_ | refine callD_r ?_); simp; (first | refine callN_flat (by with_reducible first | exact c_l02Size _) rfl ?_ | refine callN_new (by with_reducible first | exact c_l02Size _) ?_ | refine callM_flat (by with_reducible first | exact c_l02Size _) rfl ?_ | refine callM_new (by with_reducible first | exact c_l02Size _) ?_)
      cases h3 : overB rad with
      | false => simp; (refine endG_keepT [] ?_ ?_ ?_ ?_ ?_ ?_ ?_ ⟨rfl, rfl⟩ ?_ <;> simp [noC])
      | true =>
        rw [h1, h2, h3] at hv
        simp at hv
        simp
        (first | refine callG_r ?_ | refine callD_r ?_); simp; (first | refine callN_flat (by with_reducible first | exact c_l10Rounds _) rfl ?_ | refine callN_new (by with_reducible first | exact c_l10Rounds _) ?_ | refine callM_flat (by with_reducible first | exact c_l10Rounds _) rfl ?_ | refine callM_new (by with_reducible first | exact c_l10Rounds _) ?_)
        simp [hv]
        (refine endG_keepT [] ?_ ?_ ?_ ?_ ?_ ?_ ?_ ⟨rfl, rfl⟩ ?_ <;> simp [noC])
theorem runC_small {c : Clo} {x : Rn} {k : Nat} (hs : c.Small) : (runC c x k).Small := (run_like c x k).small hs
-- one step
theorem step_cond {c : Clo} {r : Int} {rad : Nat} : (vldC c && inB r 0 40 && overB rad && inB 1 0 40) = (vldC c && inB r 0 40 && overB rad) := by
  have : inB 1 0 40 = true := rfl
  rw [this, Bool.and_true]
def stepC' (c : Clo) (f : V) (q : Nat) (r : Int) (o : V) (rad : Nat) : Clo := runC c ⟨f, q, r.toNat, o, rad⟩ 1
theorem stepC_small {c : Clo} {f : V} {q : Nat} {r : Int} {o : V} {rad : Nat} (hs : c.Small) : (stepC' c f q r o rad).Small := runC_small hs
theorem c_StepCloth (c : Clo) (f : V) (q : Nat) (r : Int) (o : V) (rad : Nat) (hs : c.Small) (hv : (vldC c && inB r 0 40 && overB rad) = true) :
    Fun Try.prog 61 [c.av, aV f, .flt .f32 q, .int .i64 r, aV o, .flt .f32 rad] [] (.tup [(stepC' c f q r o rad).own 0, .bool true]) (stepC' c f q r o rad).mem := by
  have h := c_RunCloth c f q r o rad 1 hs (by rw [step_cond]; exact hv)
  have e : runC c ⟨f, q, r.toNat, o, rad⟩ (1 : Int).toNat = stepC' c f q r o rad := rfl
  rw [e] at h
  refine FnSpec.walk dr_ok Try.func61 rfl (by kernel_rfl) rfl rfl rfl (by simp) ?_
  simp
  (first | refine callG_r ?_ | refine callD_r ?_); simp; (first | refine callN_flat (by with_reducible first | exact h) rfl ?_ | refine callN_new (by with_reducible first | exact h) ?_ | refine callM_flat (by with_reducible first | exact h) rfl ?_ | refine callM_new (by with_reducible first | exact h) ?_)
  simp
  (refine endG_keepT [(some 4, 0), (some 5, 0), (some 6, 0), (some 7, 0)] ?_ ?_ ?_ ?_ ?_ ?_ ?_ ⟨rfl, rfl⟩ ?_ <;> simp)
theorem c_specStepCloth (c : Clo) (f : V) (q : Nat) (r : Int) (o : V) (rad : Nat) (hs : c.Small) (hv : (vldC c && inB r 0 40 && overB rad) = true) :
    Fun Try.prog 60 [c.av, aV f, .flt .f32 q, .int .i64 r, aV o, .flt .f32 rad] [] (.tup [(stepC' c f q r o rad).own 0, .bool true]) (stepC' c f q r o rad).mem := by
  have h := c_specRunCloth c f q r o rad 1 hs (by rw [step_cond]; exact hv)
  have e : runC c ⟨f, q, r.toNat, o, rad⟩ (1 : Int).toNat = stepC' c f q r o rad := rfl
  rw [e] at h
  refine FnSpec.walk dr_ok Try.func60 rfl (by kernel_rfl) rfl rfl rfl (by simp) ?_
  simp
  (first | refine callG_r ?_ | refine callD_r ?_); simp; (first | refine callN_flat (by with_reducible first | exact h) rfl ?_ | refine callN_new (by with_reducible first | exact h) ?_ | refine callM_flat (by with_reducible first | exact h) rfl ?_ | refine callM_new (by with_reducible first | exact h) ?_)
  simp
  (refine endG_keepT [(some 4, 0), (some 5, 0), (some 6, 0), (some 7, 0)] ?_ ?_ ?_ ?_ ?_ ?_ ?_ ⟨rfl, rfl⟩ ?_ <;> simp)
theorem c_StepCloth0 (c : Clo) (f : V) (q : Nat) (r : Int) (o : V) (rad : Nat) (hs : c.Small) (hv : (vldC c && inB r 0 40 && overB rad) = false) :
    Fun Try.prog 61 [c.av, aV f, .flt .f32 q, .int .i64 r, aV o, .flt .f32 rad] [] (.tup [noC, .bool false]) [] := by
  have h := c_RunCloth0 c f q r o rad 1 hs (by rw [step_cond]; exact hv)
  refine FnSpec.walk dr_ok Try.func61 rfl (by kernel_rfl) rfl rfl rfl (by simp) ?_
  simp
  (first | refine callG_r ?_ | refine callD_r ?_); simp; (first | refine callN_flat (by with_reducible first | exact h) rfl ?_ | refine callN_new (by with_reducible first | exact h) ?_ | refine callM_flat (by with_reducible first | exact h) rfl ?_ | refine callM_new (by with_reducible first | exact h) ?_)
  simp [noC]
  (refine endG_keepT [] ?_ ?_ ?_ ?_ ?_ ?_ ?_ ⟨rfl, rfl⟩ ?_ <;> simp [noC])
theorem c_specStepCloth0 (c : Clo) (f : V) (q : Nat) (r : Int) (o : V) (rad : Nat) (hs : c.Small) (hv : (vldC c && inB r 0 40 && overB rad) = false) :
    Fun Try.prog 60 [c.av, aV f, .flt .f32 q, .int .i64 r, aV o, .flt .f32 rad] [] (.tup [noC, .bool false]) [] := by
  have h := c_specRunCloth0 c f q r o rad 1 hs (by rw [step_cond]; exact hv)
  refine FnSpec.walk dr_ok Try.func60 rfl (by kernel_rfl) rfl rfl rfl (by simp) ?_
  simp
  (first | refine callG_r ?_ | refine callD_r ?_); simp; (first | refine callN_flat (by with_reducible first | exact h) rfl ?_ | refine callN_new (by with_reducible first | exact h) ?_ | refine callM_flat (by with_reducible first | exact h) rfl ?_ | refine callM_new (by with_reducible first | exact h) ?_)
  simp [noC]
  (refine endG_keepT [] ?_ ?_ ?_ ?_ ?_ ?_ ?_ ⟨rfl, rfl⟩ ?_ <;> simp [noC])
end Go.Proofs.Ytafbecgidhoekaa
