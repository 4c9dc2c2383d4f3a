/- Contracts: the reader of choices. Contracts: cloths drawn.
Conditions: none. -/
import Derived.Test.YtbjfkhjckfodbaaTyp
import Derived.Test.YtbjfkhjckfodbaaEnt
import Derived.Test.YtbjfkhjckfodbaaSrc
import Derived.Test.YtbjfkhjckfodbaaS9
namespace Go.Proofs.Ytbjfkhjckfodbaa
set_option linter.all false
open Go Go.Awp
set_option maxRecDepth 100000
set_option maxHeartbeats 4000000
set_option pp.deepTerms true

/-- Bytes. -/
def cBy (l : List Nat) : List AV := l.map fun b => .int .u8 (b : Nat)
@[simp] theorem cBy_length (l : List Nat) : (cBy l).length = l.length := by simp [cBy]
@[simp] theorem cBy_drop {l : List Nat} {k : Nat} (h : k < l.length) : (cBy l).drop k = .int .u8 (l[k] : Nat) :: cBy (l.drop (k + 1)) := by
  unfold cBy; rw [List.drop_eq_getElem_cons (by simpa using h), List.getElem_map, List.map_drop]
@[simp] theorem cBy_get {l : List Nat} {k : Nat} (h : k < l.length) : (cBy l)[k]? = some (.int .u8 (l[k] : Nat)) := by simp [cBy, h]
@[simp] theorem cBy_num (l : List Nat) : (cBy l).all AV.num = true := by
  induction l with
  | nil => rfl
  | cons a l ih => simp only [cBy, List.map_cons, List.all_cons] at ih ⊢; rw [ih]; rfl
@[simp] theorem cBy_flat (l : List Nat) : (cBy l).all AV.flat = true := num_flat (cBy_num l)
@[simp] theorem cBy_pures (l : List Nat) : (∀ (x : AV), x ∈ cBy l → x.isPure = true) = True := eq_true (List.all_eq_true.1 (pure_flat (cBy_flat l)))
/-- The reader. -/
abbrev rd (nw : Bool) (l : List Nat) (at_ : Nat) (seed : Int) : Root := .blk nw true 127 [.view false (cBy l) l.length, .int .i64 at_, .int .u64 seed]
attribute [simp] rd
theorem c_l00From (l : List Nat) : FunV Try.prog 44 [.view false (cBy l) l.length] [] (.ptr 0 0) [rd true l 0 0] := by
  refine FnSpecV.walk dr_ok Try.func44 rfl (by kernel_rfl) rfl rfl rfl (by simp) ?_
  simp
  (refine endGV_keepT [(some 0, 0)] ?_ ?_ ?_ ?_ ?_ ?_ ⟨rfl, rfl⟩ ?_ <;> simp)
theorem and255 (y : Int) : ∃ x : Nat, x < 256 ∧ bitsV .and .u64 y 255 = (x : Int) := by
  refine ⟨(BitVec.ofInt 64 y &&& BitVec.ofInt 64 255).toNat, ?_, ?_⟩
  · rw [BitVec.toNat_and]
    exact Nat.lt_of_le_of_lt Nat.and_le_right (by decide)
  · have hlt : (BitVec.ofInt 64 y &&& BitVec.ofInt 64 255).toNat < 256 := by
      rw [BitVec.toNat_and]
      exact Nat.lt_of_le_of_lt Nat.and_le_right (by decide)
    show IntKind.u64.wrap ((BitVec.ofInt 64 y &&& BitVec.ofInt 64 255).toNat : Int) = _
    rw [IntKind.wrap_u64]; omega
section
variable {P : Program}
theorem callN_all {f : FuncId} {own : Bool} {σ : List Nat} {args : List AV} {Hin H : Heap} {K : AV → Heap → Prop} {R : AV → Heap → Prop} (hc : FnSpec P f args Hin R)
    (hk : ∀ av H', R av H' → (own = true → (H'.take σ.length).all Root.noView = true) ∧ K (av.ren (backN σ H.length)) (mergeH σ H H')) : @callN P f own σ args Hin H ⟨K⟩ trivial := ⟨R, hc, hk⟩
end
/-- What a reader leaves that was read at most inc times, and what it gave. -/
def RdR (l : List Nat) (k inc : Nat) (Q : AV → Prop) (av : AV) (H : Heap) : Prop := ∃ (k' : Nat) (seed : Int), k' ≤ k + inc ∧ H = [rd false l k' seed] ∧ Q av
def QI (n : Nat) (av : AV) : Prop := ∃ x : Nat, x < n ∧ av = .int .i64 x
def QB (av : AV) : Prop := ∃ b : Bool, av = .bool b
def QF (av : AV) : Prop := ∃ x : Nat, CanF .f32 x ∧ av = .flt .f32 x
theorem c_next (l : List Nat) (k : Nat) (seed : Int) (hl : l.length ≤ 1048576) (hb : ∀ b ∈ l, b < 256) (hk : k < 1000000000000) :
    FnSpec Try.prog 83 [.ptr 0 0] [rd false l k seed] (RdR l k 1 (QI 256)) := by
  have hw := nat_wrap (k := k) (by omega)
  by_cases b : k < l.length
  · have hx := hb _ (List.getElem_mem b)
    have hx2 : IntKind.i64.wrap ((l[k] : Nat) : Int) = ((l[k] : Nat) : Int) := wrap64 (by omega) (by omega)
    have h1 : (k : Int) + 1 ≤ l.length := by omega
    have h2 : k + 1 ≤ l.length := by omega
    refine FnSpec.walk dr_ok Try.func83 rfl (by kernel_rfl) rfl rfl rfl (by simp) ?_
    simp [b, hw, hx2, h1, h2]
    generalize IntKind.u64.wrap (_ + 1442695040888963407) = y
    refine endG_keepT (r := .int .i64 (l[k] : Nat)) (Hout := [rd false l (k + 1) y]) [] ?_ ?_ ?_ ?_ ?_ ?_ ?_ ⟨k + 1, y, by omega, rfl, l[k], hx, rfl⟩ ?_ <;> simp
  · have h1 : ¬ (k : Int) + 1 ≤ l.length := by omega
    have h2 : ¬ k + 1 ≤ l.length := by omega
    refine FnSpec.walk dr_ok Try.func83 rfl (by kernel_rfl) rfl rfl rfl (by simp) ?_
    simp [b, hw, h1, h2]
    generalize (IntKind.u64.wrap (IntKind.u64.wrap (IntKind.u64.wrap (seed * 6364136223846793005) + IntKind.u64.wrap 0) + 1442695040888963407)) = y
    obtain ⟨x, hx, e⟩ := and255 (y.fdiv (2 ^ min 40 IntKind.u64.bits))
    have e2 : IntKind.i64.wrap ((x : Nat) : Int) = x := wrap64 (by omega) (by omega)
    simp only [e, e2]
    refine endG_keepT (r := .int .i64 x) (Hout := [rd false l (k + 1) y]) [] ?_ ?_ ?_ ?_ ?_ ?_ ?_ ⟨k + 1, y, by omega, rfl, x, hx, rfl⟩ ?_ <;> simp
theorem c_pick (l : List Nat) (k n : Nat) (seed : Int) (hl : l.length ≤ 1048576) (hb : ∀ b ∈ l, b < 256) (hk : k + 2 < 1000000000000) (h1 : 1 < n) (h2 : n ≤ 65536) :
    FnSpec Try.prog 46 [.ptr 0 0, .int .i64 n] [rd false l k seed] (RdR l k 2 (QI n)) := by
  have h1' : ¬ (n : Int) ≤ 1 := by omega
  have hr : ∀ x : Nat, (x : Int).tmod n = ((x % n : Nat) : Int) := fun x => rfl
  refine FnSpec.walk dr_ok Try.func46 rfl (by kernel_rfl) rfl rfl rfl (by simp) ?_
  simp [h1']
  refine callG_on false [0] ?_; simp; refine callN_all (by with_reducible exact c_next l k seed hl hb (by omega)) ?_; rintro _ _ ⟨k1, s1, hk1, rfl, x, hx, rfl⟩; refine ⟨fun e => (by cases e), ?_⟩; simp
  by_cases c : 200 < n
  · have c' : (200 : Int) < n := by omega
    have c'' : ¬ (n : Int) ≤ 200 := by omega
    have hm : IntKind.i64.wrap ((x : Int) * 256) = ((x * 256 : Nat) : Int) := by rw [wrap64 (by omega) (by omega)]; simp
    simp [c', c'', hm]
    refine callG_on false [0] ?_; simp; refine callN_all (by with_reducible exact c_next l k1 s1 hl hb (by omega)) ?_; rintro _ _ ⟨k2, s2, hk2, rfl, y, hy, rfl⟩; refine ⟨fun e => (by cases e), ?_⟩; simp
    have ha : IntKind.i64.wrap ((x : Int) * 256 + (y : Int)) = ((x * 256 + y : Nat) : Int) := by rw [wrap64 (by omega) (by omega)]; simp
    have e : ((x : Int) * 256 + (y : Int)).tmod n = (((x * 256 + y) % n : Nat) : Int) := by rw [show ((x : Int) * 256 + (y : Int)) = ((x * 256 + y : Nat) : Int) by simp]; rfl
    simp [hm, ha, e]
    refine ⟨by omega, endG_src ?_⟩
    simp
    exact ⟨k2, s2, by omega, rfl, _, Nat.mod_lt _ (by omega), rfl⟩
  · have c' : ¬ (200 : Int) < n := by omega
    have c'' : (n : Int) ≤ 200 := by omega
    simp [c', c'', hr]
    refine ⟨by omega, endG_src ?_⟩
    simp
    exact ⟨k1, s1, by omega, rfl, _, Nat.mod_lt _ (by omega), rfl⟩
theorem c_one (l : List Nat) (k n : Nat) (seed : Int) (hl : l.length ≤ 1048576) (hb : ∀ b ∈ l, b < 256) (hk : k + 2 < 1000000000000) (h1 : 1 < n) (h2 : n ≤ 65536) :
    FnSpec Try.prog 48 [.ptr 0 0, .int .i64 n] [rd false l k seed] (RdR l k 2 QB) := by
  refine FnSpec.walk dr_ok Try.func48 rfl (by kernel_rfl) rfl rfl rfl (by simp) ?_
  simp
  refine callG_on false [0] ?_; simp; refine callN_all (by with_reducible exact c_pick l k n seed hl hb hk h1 h2) ?_; rintro _ _ ⟨k1, s1, hk1, rfl, x, hx, rfl⟩; refine ⟨fun e => (by cases e), ?_⟩; simp
  refine endG_src ?_
  simp
  exact ⟨k1, s1, by omega, rfl, _, rfl⟩
theorem c_pickL (l : List Nat) (k : Nat) (m : Int) (n : Nat) (seed : Int) (hm : m = n) (hl : l.length ≤ 1048576) (hb : ∀ b ∈ l, b < 256) (hk : k + 2 < 1000000000000) (h1 : 1 < n) (h2 : n ≤ 65536) :
    FnSpec Try.prog 46 [.ptr 0 0, .int .i64 m] [rd false l k seed] (RdR l k 2 (QI n)) := by subst hm; exact c_pick l k n seed hl hb hk h1 h2
theorem c_oneL (l : List Nat) (k : Nat) (m : Int) (n : Nat) (seed : Int) (hm : m = n) (hl : l.length ≤ 1048576) (hb : ∀ b ∈ l, b < 256) (hk : k + 2 < 1000000000000) (h1 : 1 < n) (h2 : n ≤ 65536) :
    FnSpec Try.prog 48 [.ptr 0 0, .int .i64 m] [rd false l k seed] (RdR l k 2 QB) := by subst hm; exact c_one l k n seed hl hb hk h1 h2
end Go.Proofs.Ytbjfkhjckfodbaa
namespace Go.Proofs.Ytbjfkhjckfodbaa
set_option linter.all false
open Go Go.Awp
set_option maxRecDepth 100000
set_option maxHeartbeats 8000000
set_option pp.deepTerms true

abbrev g22 : Clo := gridC 2 2 1065353216
def dX (u : Nat) : Nat := fop .quo .f32 (fint .f32 ((u : Int) - 2)) 1090519040
def dZ (w : Nat) : Nat := fop .quo .f32 (fint .f32 ((w : Int) - 4)) 1082130432
/-- A place of the drawn cloth. -/
def PlR (g p : V) : Prop := ∃ u v w : Nat, u < 5 ∧ v < 5 ∧ w < 9 ∧ p = vadd g (dX u, dX v, dZ w)
/-- The drawn cloth after some places. -/
structure R8n (k : Nat) (P : List V) (L : List Int) : Prop where
  len : P.length = g22.pl.length
  old : ∀ i (h : i < P.length) (h2 : i < g22.pl.length), i < k → PlR g22.pl[i] P[i]
  new : ∀ i (h : i < P.length) (h2 : i < g22.pl.length), k ≤ i → P[i] = g22.pl[i]
  pin : pinsF 9 (-1) L = true
  lt : ∀ p ∈ L, p < k
  few : L.length ≤ k
theorem g22_ok : GOk 2 2 1065353216 := ⟨by decide, by decide, by decide, by decide, by decide, by decide +kernel⟩
theorem pinsF_push {n k : Int} : ∀ {L : List Int} {last : Int}, pinsF n last L = true → (∀ p ∈ L, p < k) → last < k → k < n → pinsF n last (L ++ [k]) = true
  | [], last, _, _, h1, h2 => by simp [pinsF, inB]; omega
  | p :: L, last, h, hp, h1, h2 => by
    simp only [pinsF, List.cons_append, Bool.and_eq_true] at h ⊢
    exact ⟨h.1, pinsF_push h.2 (fun q hq => hp q (List.mem_cons_of_mem _ hq)) (hp p (List.mem_cons_self ..)) h2⟩
theorem r8_step {i : Nat} {P : List V} {L : List Int} {u v w : Nat} (h : R8n i P L) (hi : i < P.length) (hu : u < 5) (hv : v < 5) (hw : w < 9) :
    R8n (i + 1) (P.set i (vadd P[i] (dX u, dX v, dZ w))) L ∧ R8n (i + 1) (P.set i (vadd P[i] (dX u, dX v, dZ w))) (L ++ [(i : Int)]) := by
  have h9 : (gridC 2 2 1065353216).pl.length = 9 := by decide +kernel
  have hP : P.length = 9 := by rw [h.len]; exact h9
  have ho : ∀ j (hj : j < (P.set i (vadd P[i] (dX u, dX v, dZ w))).length) (h2 : j < g22.pl.length), j < i + 1 → PlR g22.pl[j] (P.set i (vadd P[i] (dX u, dX v, dZ w)))[j] := by
    intro j hj h2 hlt
    rw [List.getElem_set]
    split
    · rename_i e
      subst e
      rw [h.new i hi h2 (Nat.le_refl _)]
      exact ⟨u, v, w, hu, hv, hw, rfl⟩
    · exact h.old j (by simpa using hj) h2 (by omega)
  have hn : ∀ j (hj : j < (P.set i (vadd P[i] (dX u, dX v, dZ w))).length) (h2 : j < g22.pl.length), i + 1 ≤ j → (P.set i (vadd P[i] (dX u, dX v, dZ w)))[j] = g22.pl[j] := by
    intro j hj h2 hle
    rw [List.getElem_set, if_neg (by omega)]
    exact h.new j (by simpa using hj) h2 (by omega)
  refine ⟨⟨by rw [List.length_set]; exact h.len, ho, hn, h.pin, fun p hp => by have := h.lt p hp; omega, by have := h.few; omega⟩, ⟨by rw [List.length_set]; exact h.len, ho, hn, ?_, fun p hp => ?_, ?_⟩⟩
  · exact pinsF_push h.pin h.lt (by omega) (by omega)
  · rcases List.mem_append.1 hp with g | g
    · have := h.lt p g; omega
    · simp at g; omega
  · have := h.few
    simp; omega
theorem g22_len : (gridC 2 2 1065353216).pl.length = 9 := by decide +kernel
theorem g22_ol : (gridC 2 2 1065353216).ol.length = 9 := by decide +kernel
abbrev tHp (l : List Nat) (k : Nat) (s : Int) (P : List V) (L : List Int) : Heap := [.blk true true 28 [.nils, .nils, .nils, .nils], rd true l k s,
  .blk true false 38 (cVs P), .blk true false 38 (cVs g22.ol), .blk true false 33 (cTs g22.th), .blk true false 2 (cIs L),
  .blk true true 28 [.slc 2 0 P.length 3, .slc 3 0 g22.ol.length 3, .slc 4 0 g22.th.length 3, .slc 5 0 L.length 1]]
attribute [simp] tHp
theorem c_R8Cloth (l : List Nat) (n : Nat) (hn : n = l.length) (hl : l.length ≤ 1048576) (hb : ∀ b ∈ l, b < 256) :
    FnSpec Try.prog 9 [.view false (cBy l) n] [] fun av H => ∃ C : Clo, R8n 9 C.pl C.pin ∧ C.ol = g22.ol ∧ C.th = g22.th ∧ H = C.mem ∧ av = C.own 0 := by
  subst hn
  refine FnSpec.walk dr_ok Try.func9 rfl (by kernel_rfl) rfl rfl rfl (by simp) ?_
  simp
  refine callG_v ?_; simp; refine callNV_fun (by with_reducible exact c_l00From l) ?_
  simp
  have hg : Fun Try.prog 45 [.int .i64 2, .int .i64 2, .flt .f32 1065353216] [] (.tup [(gridC 2 2 1065353216).own 0, .bool true]) (gridC 2 2 1065353216).mem := c_specGridCloth 2 2 1065353216 g22_ok
  have hgl := g22_len
  have hgp : (gridC 2 2 1065353216).pin = [] := rfl
  (first | refine callG_r ?_ | refine callD_r ?_); simp; (first | refine callN_flat (by with_reducible first | exact hg) rfl ?_ | refine callN_new (by with_reducible first | exact hg) ?_ | refine callM_flat (by with_reducible first | exact hg) rfl ?_ | refine callM_new (by with_reducible first | exact hg) ?_)
  simp
  refine loopG_of (α := Nat × Nat × Int × List V × List Int) (fun x => x.1 ≤ 9 ∧ x.2.1 ≤ 20 * x.1 ∧ R8n x.1 x.2.2.2.1 x.2.2.2.2) (fun x => 9 - x.1) (fun x => [(6, .int .i64 x.1), (4, .ptr 6 0), (3, .ptr 1 0), (2, .ptr 0 0)])
    (fun x => tHp l x.2.1 x.2.2.1 x.2.2.2.1 x.2.2.2.2) (0, 0, 0, (gridC 2 2 1065353216).pl, []) ⟨by simp, by simp, ⟨rfl, fun i h h2 h3 => by omega, fun i h h2 h3 => rfl, rfl, by simp, by simp⟩⟩ ?_ fun y hy => ?_
  · (refine weak_gc [(some 0, 0), (some 1, 0), (some 2, 0), (some 3, 0), (some 4, 0), (some 5, 0), (some 6, 0)] ?_ ?_ ?_ ?_ ?_ <;> simp [hgp])
  obtain ⟨i, kk, ss, P, L⟩ := y
  obtain ⟨hi, hkk, hR⟩ := hy
  simp only at hi hkk hR
  have hP : P.length = 9 := by rw [hR.len]; exact g22_len
  have hwi := nat_wrap (k := i) (by omega)
  by_cases c : i < P.length
  · have c' : (i : Int) < P.length := by omega
    have c3 : i * 3 + 3 ≤ P.length * 3 := by omega
    simp [c, c', hwi]
    refine callG_on false [1] ?_; simp; refine callN_all (by with_reducible exact c_pickL l kk 5 5 ss rfl hl hb (by omega) (by omega) (by omega)) ?_; rintro _ _ ⟨ka, sa, hka, rfl, u, hu, rfl⟩; refine ⟨fun e => (by cases e), ?_⟩; simp
    refine callG_on false [1] ?_; simp; refine callN_all (by with_reducible exact c_pickL l ka 5 5 sa rfl hl hb (by omega) (by omega) (by omega)) ?_; rintro _ _ ⟨kb, sb, hkb, rfl, v, hv, rfl⟩; refine ⟨fun e => (by cases e), ?_⟩; simp
    refine callG_on false [1] ?_; simp; refine callN_all (by with_reducible exact c_pickL l kb 9 9 sb rfl hl hb (by omega) (by omega) (by omega)) ?_; rintro _ _ ⟨kc, sc, hkc, rfl, w, hw, rfl⟩; refine ⟨fun e => (by cases e), ?_⟩; simp
    have hwu : IntKind.i64.wrap ((u : Int) - 2) = (u : Int) - 2 := wrap64 (by omega) (by omega)
    have hwv : IntKind.i64.wrap ((v : Int) - 2) = (v : Int) - 2 := wrap64 (by omega) (by omega)
    have hww : IntKind.i64.wrap ((w : Int) - 4) = (w : Int) - 4 := wrap64 (by omega) (by omega)
    simp [c, c', c3, hwi, hwu, hwv, hww]
    (first | refine callG_r ?_ | refine callD_r ?_); simp; (first | refine callN_flat (by with_reducible first | exact c_l01Add _ _ _ _ _ _) rfl ?_ | refine callN_new (by with_reducible first | exact c_l01Add _ _ _ _ _ _) ?_ | refine callM_flat (by with_reducible first | exact c_l01Add _ _ _ _ _ _) rfl ?_ | refine callM_new (by with_reducible first | exact c_l01Add _ _ _ _ _ _) ?_)
    simp [c, c', c3, hwi, hwu, hwv, hww]
    refine callG_on false [1] ?_; simp; refine callN_all (by with_reducible exact c_oneL l kc 5 5 sc rfl hl hb (by omega) (by omega) (by omega)) ?_; rintro _ _ ⟨kd, sd, hkd, rfl, b, rfl⟩; refine ⟨fun e => (by cases e), ?_⟩; simp
    have hst := r8_step hR (by omega) hu hv hw
    refine ⟨fun e => ⟨?_, ?_, loopK_next (i + 1, kd, sd, P.set i (vadd P[i] (dX u, dX v, dZ w)), L ++ [(i : Int)]) (by simp only; omega) ⟨by simp only; omega, by simp only; omega, ?_⟩ ?_⟩, fun e => loopK_next (i + 1, kd, sd, P.set i (vadd P[i] (dX u, dX v, dZ w)), L) (by simp only; omega) ⟨by simp only; omega, by simp only; omega, hst.1⟩ ?_⟩
    · have := hR.few; omega
    · have := hR.few; omega
    · exact hst.2
    · rw [hwi]
      (refine weak_gc [(some 0, 0), (some 1, 0), (some 2, 0), (some 3, 0), (some 4, 0), (some 9, 0), (some 6, 0)] ?_ ?_ ?_ ?_ ?_ <;> simp [dX, dZ])
    · rw [hwi]
      (refine weak_gc [(some 0, 0), (some 1, 0), (some 2, 0), (some 3, 0), (some 4, 0), (some 5, 0), (some 6, 0)] ?_ ?_ ?_ ?_ ?_ <;> simp [dX, dZ])
  · have c2 : i = 9 := by omega
    subst c2
    simp [hP]
    refine endG_keepT (r := ({ g22 with pl := P, pin := L } : Clo).own 0) (Hout := ({ g22 with pl := P, pin := L } : Clo).mem) [(some 2, 0), (some 3, 0), (some 4, 0), (some 5, 0)] ?_ ?_ ?_ ?_ ?_ ?_ ?_ ⟨{ g22 with pl := P, pin := L }, hR, rfl, rfl, rfl, rfl⟩ ?_ <;> simp [hP]
end Go.Proofs.Ytbjfkhjckfodbaa
