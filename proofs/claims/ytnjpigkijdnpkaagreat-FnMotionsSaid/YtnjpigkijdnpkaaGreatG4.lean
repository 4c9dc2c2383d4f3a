/- Contracts: the reader of choices. Contracts: numbers drawn (for seats of meshes and bodies). Contracts: grids, for meshes of any kind. Contracts: vectors drawn, sines of turns. Contracts: rings, boxes, balls.
Conditions: none. -/
import Derived.Test.YtnjpigkijdnpkaaGreatTyp
import Derived.Test.YtnjpigkijdnpkaaGreatEnt
import Derived.Test.YtnjpigkijdnpkaaGreatSrc
import Derived.Test.YtnjpigkijdnpkaaGreatG1
import Derived.Test.YtnjpigkijdnpkaaGreatG0
namespace Go.Proofs.YtnjpigkijdnpkaaGreat
set_option linter.all false
open Go Go.Awp
set_option maxRecDepth 100000
set_option maxHeartbeats 4000000
set_option pp.deepTerms true

/-- Bytes. -/
def cBy (l : List Nat) : List AV := l.map fun b => .int .u8 (b : Nat)
@[simp] theorem cBy_length (l : List Nat) : (cBy l).length = l.length := by simp [cBy]
@[simp] theorem cBy_drop {l : List Nat} {k : Nat} (h : k < l.length) : (cBy l).drop k = .int .u8 (l[k] : Nat) :: cBy (l.drop (k + 1)) := by
  unfold cBy; rw [List.drop_eq_getElem_cons (by simpa using h), List.getElem_map, List.map_drop]
@[simp] theorem cBy_get {l : List Nat} {k : Nat} (h : k < l.length) : (cBy l)[k]? = some (.int .u8 (l[k] : Nat)) := by simp [cBy, h]
@[simp] theorem cBy_num (l : List Nat) : (cBy l).all AV.num = true := by
  induction l with
  | nil => rfl
  | cons a l ih => simp only [cBy, List.map_cons, List.all_cons] at ih ⊢; rw [ih]; rfl
@[simp] theorem cBy_flat (l : List Nat) : (cBy l).all AV.flat = true := num_flat (cBy_num l)
@[simp] theorem cBy_pures (l : List Nat) : (∀ (x : AV), x ∈ cBy l → x.isPure = true) = True := eq_true (List.all_eq_true.1 (pure_flat (cBy_flat l)))
/-- The reader. -/
abbrev rd (nw : Bool) (l : List Nat) (at_ : Nat) (seed : Int) : Root := .blk nw true 109 [.view false (cBy l) l.length, .int .i64 at_, .int .u64 seed]
attribute [simp] rd
theorem c_l00From (l : List Nat) : FunV Tryz.prog 36 [.view false (cBy l) l.length] [] (.ptr 0 0) [rd true l 0 0] := by
  refine FnSpecV.walk dr_ok Tryz.func36 rfl (by kernel_rfl) rfl rfl rfl (by simp) ?_
  simp
  (refine endGV_keepT [(some 0, 0)] ?_ ?_ ?_ ?_ ?_ ?_ ⟨rfl, rfl⟩ ?_ <;> simp)
theorem and255 (y : Int) : ∃ x : Nat, x < 256 ∧ bitsV .and .u64 y 255 = (x : Int) := by
  refine ⟨(BitVec.ofInt 64 y &&& BitVec.ofInt 64 255).toNat, ?_, ?_⟩
  · rw [BitVec.toNat_and]
    exact Nat.lt_of_le_of_lt Nat.and_le_right (by decide)
  · have hlt : (BitVec.ofInt 64 y &&& BitVec.ofInt 64 255).toNat < 256 := by
      rw [BitVec.toNat_and]
      exact Nat.lt_of_le_of_lt Nat.and_le_right (by decide)
    show IntKind.u64.wrap ((BitVec.ofInt 64 y &&& BitVec.ofInt 64 255).toNat : Int) = _
    rw [IntKind.wrap_u64]; omega
section
variable {P : Program}
theorem callN_all {f : FuncId} {own : Bool} {σ : List Nat} {args : List AV} {Hin H : Heap} {K : AV → Heap → Prop} {R : AV → Heap → Prop} (hc : FnSpec P f args Hin R)
    (hk : ∀ av H', R av H' → (own = true → (H'.take σ.length).all Root.noView = true) ∧ K (av.ren (backN σ H.length)) (mergeH σ H H')) : @callN P f own σ args Hin H ⟨K⟩ trivial := ⟨R, hc, hk⟩
end
/-- What a reader leaves that was read at most inc times, and what it gave. -/
def RdR (l : List Nat) (k inc : Nat) (Q : AV → Prop) (av : AV) (H : Heap) : Prop := ∃ (k' : Nat) (seed : Int), k' ≤ k + inc ∧ H = [rd false l k' seed] ∧ Q av
def QI (n : Nat) (av : AV) : Prop := ∃ x : Nat, x < n ∧ av = .int .i64 x
def QB (av : AV) : Prop := ∃ b : Bool, av = .bool b
def QF (av : AV) : Prop := ∃ x : Nat, CanF .f32 x ∧ av = .flt .f32 x
theorem c_next (l : List Nat) (k : Nat) (seed : Int) (hl : l.length ≤ 1048576) (hb : ∀ b ∈ l, b < 256) (hk : k < 1000000000000) :
    FnSpec Tryz.prog 74 [.ptr 0 0] [rd false l k seed] (RdR l k 1 (QI 256)) := by
  have hw := nat_wrap (k := k) (by omega)
  by_cases b : k < l.length
  · have hx := hb _ (List.getElem_mem b)
    have hx2 : IntKind.i64.wrap ((l[k] : Nat) : Int) = ((l[k] : Nat) : Int) := wrap64 (by omega) (by omega)
    have h1 : (k : Int) + 1 ≤ l.length := by omega
    have h2 : k + 1 ≤ l.length := by omega
    refine FnSpec.walk dr_ok Tryz.func74 rfl (by kernel_rfl) rfl rfl rfl (by simp) ?_
    simp [b, hw, hx2, h1, h2]
    generalize IntKind.u64.wrap (_ + 1442695040888963407) = y
    refine endG_keepT (r := .int .i64 (l[k] : Nat)) (Hout := [rd false l (k + 1) y]) [] ?_ ?_ ?_ ?_ ?_ ?_ ?_ ⟨k + 1, y, by omega, rfl, l[k], hx, rfl⟩ ?_ <;> simp
  · have h1 : ¬ (k : Int) + 1 ≤ l.length := by omega
    have h2 : ¬ k + 1 ≤ l.length := by omega
    refine FnSpec.walk dr_ok Tryz.func74 rfl (by kernel_rfl) rfl rfl rfl (by simp) ?_
    simp [b, hw, h1, h2]
    generalize (IntKind.u64.wrap (IntKind.u64.wrap (IntKind.u64.wrap (seed * 6364136223846793005) + IntKind.u64.wrap 0) + 1442695040888963407)) = y
    obtain ⟨x, hx, e⟩ := and255 (y.fdiv (2 ^ min 40 IntKind.u64.bits))
    have e2 : IntKind.i64.wrap ((x : Nat) : Int) = x := wrap64 (by omega) (by omega)
    simp only [e, e2]
    refine endG_keepT (r := .int .i64 x) (Hout := [rd false l (k + 1) y]) [] ?_ ?_ ?_ ?_ ?_ ?_ ?_ ⟨k + 1, y, by omega, rfl, x, hx, rfl⟩ ?_ <;> simp
theorem c_pick (l : List Nat) (k n : Nat) (seed : Int) (hl : l.length ≤ 1048576) (hb : ∀ b ∈ l, b < 256) (hk : k + 2 < 1000000000000) (h1 : 1 < n) (h2 : n ≤ 65536) :
    FnSpec Tryz.prog 38 [.ptr 0 0, .int .i64 n] [rd false l k seed] (RdR l k 2 (QI n)) := by
  have h1' : ¬ (n : Int) ≤ 1 := by omega
  have hr : ∀ x : Nat, (x : Int).tmod n = ((x % n : Nat) : Int) := fun x => rfl
  refine FnSpec.walk dr_ok Tryz.func38 rfl (by kernel_rfl) rfl rfl rfl (by simp) ?_
  simp [h1']
  refine callG_on false [0] ?_; simp; refine callN_all (by with_reducible exact c_next l k seed hl hb (by omega)) ?_; rintro _ _ ⟨k1, s1, hk1, rfl, x, hx, rfl⟩; refine ⟨fun e => (by cases e), ?_⟩; simp
  by_cases c : 200 < n
  · have c' : (200 : Int) < n := by omega
    have c'' : ¬ (n : Int) ≤ 200 := by omega
    have hm : IntKind.i64.wrap ((x : Int) * 256) = ((x * 256 : Nat) : Int) := by rw [wrap64 (by omega) (by omega)]; simp
    simp [c', c'', hm]
    refine callG_on false [0] ?_; simp; refine callN_all (by with_reducible exact c_next l k1 s1 hl hb (by omega)) ?_; rintro _ _ ⟨k2, s2, hk2, rfl, y, hy, rfl⟩; refine ⟨fun e => (by cases e), ?_⟩; simp
    have ha : IntKind.i64.wrap ((x : Int) * 256 + (y : Int)) = ((x * 256 + y : Nat) : Int) := by rw [wrap64 (by omega) (by omega)]; simp
    have e : ((x : Int) * 256 + (y : Int)).tmod n = (((x * 256 + y) % n : Nat) : Int) := by rw [show ((x : Int) * 256 + (y : Int)) = ((x * 256 + y : Nat) : Int) by simp]; rfl
    simp [hm, ha, e]
    refine ⟨by omega, endG_src ?_⟩
    simp
    exact ⟨k2, s2, by omega, rfl, _, Nat.mod_lt _ (by omega), rfl⟩
  · have c' : ¬ (200 : Int) < n := by omega
    have c'' : (n : Int) ≤ 200 := by omega
    simp [c', c'', hr]
    refine ⟨by omega, endG_src ?_⟩
    simp
    exact ⟨k1, s1, by omega, rfl, _, Nat.mod_lt _ (by omega), rfl⟩
theorem c_one (l : List Nat) (k n : Nat) (seed : Int) (hl : l.length ≤ 1048576) (hb : ∀ b ∈ l, b < 256) (hk : k + 2 < 1000000000000) (h1 : 1 < n) (h2 : n ≤ 65536) :
    FnSpec Tryz.prog 99 [.ptr 0 0, .int .i64 n] [rd false l k seed] (RdR l k 2 QB) := by
  refine FnSpec.walk dr_ok Tryz.func99 rfl (by kernel_rfl) rfl rfl rfl (by simp) ?_
  simp
  refine callG_on false [0] ?_; simp; refine callN_all (by with_reducible exact c_pick l k n seed hl hb hk h1 h2) ?_; rintro _ _ ⟨k1, s1, hk1, rfl, x, hx, rfl⟩; refine ⟨fun e => (by cases e), ?_⟩; simp
  refine endG_src ?_
  simp
  exact ⟨k1, s1, by omega, rfl, _, rfl⟩
theorem c_pickL (l : List Nat) (k : Nat) (m : Int) (n : Nat) (seed : Int) (hm : m = n) (hl : l.length ≤ 1048576) (hb : ∀ b ∈ l, b < 256) (hk : k + 2 < 1000000000000) (h1 : 1 < n) (h2 : n ≤ 65536) :
    FnSpec Tryz.prog 38 [.ptr 0 0, .int .i64 m] [rd false l k seed] (RdR l k 2 (QI n)) := by subst hm; exact c_pick l k n seed hl hb hk h1 h2
theorem c_oneL (l : List Nat) (k : Nat) (m : Int) (n : Nat) (seed : Int) (hm : m = n) (hl : l.length ≤ 1048576) (hb : ∀ b ∈ l, b < 256) (hk : k + 2 < 1000000000000) (h1 : 1 < n) (h2 : n ≤ 65536) :
    FnSpec Tryz.prog 99 [.ptr 0 0, .int .i64 m] [rd false l k seed] (RdR l k 2 QB) := by subst hm; exact c_one l k n seed hl hb hk h1 h2
end Go.Proofs.YtnjpigkijdnpkaaGreat
namespace Go.Proofs.YtnjpigkijdnpkaaGreat
set_option linter.all false
open Go Go.Awp
set_option maxRecDepth 100000
set_option maxHeartbeats 4000000
set_option pp.deepTerms true

theorem c_from32 {n : Nat} (h : n < 4294967296) : Fun Tryz.prog 164 [.int .u32 n] [] (.flt .f32 (cn .f32 n)) [] := by
  refine FnSpec.of_extern (e := Extern.MathFloatBits.float32frombits) Tryz.func164 rfl rfl (by kernel_rfl) (by kernel_rfl) fun w E vs hv => ?_
  obtain ⟨h1, h2⟩ := hv
  obtain ⟨vs⟩ := vs
  match vs, h1 with
  | [v], _ =>
    have hr := h2 0 _ v rfl rfl
    cases hr with
    | int _ _ => exact ⟨.float .f32 n, 0, .flt .f32 (cn .f32 n), rfl, .flt _ _ _ rfl h, rfl, rfl, rfl⟩
theorem canF_cn {n : Nat} (h : n < 4294967296) : CanF .f32 (cn .f32 n) := ⟨cn_cn _ _, cn_lt h⟩
theorem c_l01From {n : Nat} (h : n < 4294967296) : Fun Tryz.prog 154 [.int .i64 n] [] (.flt .f32 (cn .f32 n)) [] := by
  have hw : IntKind.u32.wrap (n : Int) = n := by rw [IntKind.wrap_u32]; omega
  refine FnSpec.walkF dr_ok Tryz.func154 rfl (by kernel_rfl) rfl rfl rfl (by simp) ?_
  simp [hw]
  (first | refine callG_r ?_ | refine callD_r ?_); simp; (first | refine callN_flat (by with_reducible first | exact c_from32 h) rfl ?_ | refine callN_new (by with_reducible first | exact c_from32 h) ?_ | refine callM_flat (by with_reducible first | exact c_from32 h) rfl ?_ | refine callM_new (by with_reducible first | exact c_from32 h) ?_)
  simp
theorem canF_num {x : Nat} (h : x < 4294967296) (n : nanB .f32 x = false) : CanF .f32 x := ⟨cn_num n, h⟩
theorem canF_fop (op : BinOp) (x y : Nat) : CanF .f32 (fop op .f32 x y) := by
  unfold fop
  cases h : floatBits op .f32 x y with
  | some r =>
    have hw := floatBits_wf h
    have hl : r < 4294967296 := by simpa [Lit.wf] using hw
    exact canF_num hl (floatBits_num h)
  | none => exact ⟨cn_nan (nanB_qnan .f32), qnan_lt .f32⟩
/-- One of some integers. -/
theorem c_among (l : List Nat) (k : Nat) (xs : List Int) (m : Nat) (seed : Int) (hl : l.length ≤ 1048576) (hb : ∀ b ∈ l, b < 256) (hk : k + 2 < 1000000000000) (hm : m = xs.length) (h1 : 1 < m) (h2 : m ≤ 65536) :
    FnSpec Tryz.prog 155 [.ptr 0 0, .slc 1 0 m 1] [rd false l k seed, .blk false false 2 (cIs xs)] fun av H => ∃ (k' : Nat) (seed' x : Int), k' ≤ k + 2 ∧ x ∈ xs ∧ H = [rd false l k' seed', .blk false false 2 (cIs xs)] ∧ av = .int .i64 x := by
  subst hm
  refine FnSpec.walk dr_ok Tryz.func155 rfl (by kernel_rfl) rfl rfl rfl (by simp) ?_
  simp
  refine callG_on false [0] ?_; simp; refine callN_all (by with_reducible exact c_pick l k xs.length seed hl hb hk h1 h2) ?_; rintro _ _ ⟨k1, s1, hk1, rfl, x, hx, rfl⟩; refine ⟨fun e => (by cases e), ?_⟩; simp
  simp [hx]
  refine endG_keepT (r := .int .i64 xs[x]) (Hout := [rd false l k1 s1, .blk false false 2 (cIs xs)]) [] ?_ ?_ ?_ ?_ ?_ ?_ ?_ ?_ ?_ <;> simp
  exact ⟨k1, by omega, rfl⟩
theorem c_DrawPlain (l : List Nat) (k : Nat) (seed : Int) (hl : l.length ≤ 1048576) (hb : ∀ b ∈ l, b < 256) (hk : k + 4 < 1000000000000) :
    FnSpec Tryz.prog 153 [.ptr 0 0] [rd false l k seed] (RdR l k 4 QF) := by
  refine FnSpec.walk dr_ok Tryz.func153 rfl (by kernel_rfl) rfl rfl rfl (by simp) ?_
  simp
  refine callG_on false [0] ?_; simp; refine callN_all (by with_reducible exact c_pickL l k 129 129 seed rfl hl hb (by omega) (by omega) (by omega)) ?_; rintro _ _ ⟨k1, s1, hk1, rfl, x, hx, rfl⟩; refine ⟨fun e => (by cases e), ?_⟩; simp
  refine callG_on false [0] ?_; simp; refine callN_all (by with_reducible exact c_oneL l k1 4 4 s1 rfl hl hb (by omega) (by omega) (by omega)) ?_; rintro _ _ ⟨k2, s2, hk2, rfl, b, rfl⟩; refine ⟨fun e => (by cases e), ?_⟩; simp
  refine ⟨fun e => endG_src ?_, fun e => endG_src ?_⟩
  all_goals
    simp
    exact ⟨k2, s2, by omega, rfl, _, canF_fop _ _ _, rfl⟩
theorem c_DrawFloat (l : List Nat) (k : Nat) (seed : Int) (hl : l.length ≤ 1048576) (hb : ∀ b ∈ l, b < 256) (hk : k + 20 < 1000000000000) :
    FnSpec Tryz.prog 134 [.ptr 0 0] [rd false l k seed] (RdR l k 12 QF) := by
  refine FnSpec.walk dr_ok Tryz.func134 rfl (by kernel_rfl) rfl rfl rfl (by simp) ?_
  simp
  refine callG_on false [0] ?_; simp; refine callN_all (by with_reducible exact c_oneL l k 12 12 seed rfl hl hb (by omega) (by omega) (by omega)) ?_; rintro _ _ ⟨k1, s1, hk1, rfl, b, rfl⟩; refine ⟨fun e => (by cases e), ?_⟩; simp
  refine ⟨fun e => ?_, fun e => ?_⟩
  · refine callG_on false [0] ?_; simp; refine callN_all (by with_reducible exact c_DrawPlain l k1 s1 hl hb (by omega)) ?_; rintro _ _ ⟨k2, s2, hk2, rfl, y, hy, rfl⟩; refine ⟨fun e => (by cases e), ?_⟩; simp
    refine endG_src ?_
    simp
    exact ⟨k2, s2, by omega, rfl, y, hy, rfl⟩
  · refine callG_on false [0] ?_; simp; refine callN_all (by with_reducible exact c_pickL l k1 4 4 s1 rfl hl hb (by omega) (by omega) (by omega)) ?_; rintro _ _ ⟨k2, s2, hk2, rfl, x, hx, rfl⟩; refine ⟨fun e => (by cases e), ?_⟩; simp
    have hx4 : x = 0 ∨ x = 1 ∨ x = 2 ∨ x = 3 := by omega
    rcases hx4 with rfl | rfl | rfl | rfl
    · simp
      refine callG_on false [0, 1] ?_; simp; refine callN_all (by with_reducible exact c_among l k2 [0, 2147483648, 2139095040, 4286578688, 2143289344, 1, 2139095039, 8388608, 8388607, 2147483649] 10 s2 hl hb (by omega) rfl (by omega) (by omega)) ?_; rintro _ _ ⟨k3, s3, x, hk3, hx, rfl, rfl⟩; refine ⟨fun e => (by cases e), ?_⟩; simp
      have hall : ∀ y ∈ [(0 : Int), 2147483648, 2139095040, 4286578688, 2143289344, 1, 2139095039, 8388608, 8388607, 2147483649], 0 ≤ y ∧ y < 4294967296 := by decide
      obtain ⟨h1, h2⟩ := hall x hx
      obtain ⟨n, rfl⟩ := Int.eq_ofNat_of_zero_le h1
      have hn : n < 4294967296 := by omega
      (first | refine callG_r ?_ | refine callD_r ?_); simp; (first | refine callN_flat (by with_reducible first | exact c_l01From hn) rfl ?_ | refine callN_new (by with_reducible first | exact c_l01From hn) ?_ | refine callM_flat (by with_reducible first | exact c_l01From hn) rfl ?_ | refine callM_new (by with_reducible first | exact c_l01From hn) ?_)
      refine endG_keepT (r := .flt .f32 (cn .f32 n)) (Hout := [rd false l k3 s3]) [] ?_ ?_ ?_ ?_ ?_ ?_ ?_ ⟨k3, s3, by omega, rfl, _, canF_cn hn, rfl⟩ ?_ <;> simp
    · simp
      refine callG_on false [0] ?_; simp; refine callN_all (by with_reducible exact c_pickL l k2 65536 65536 s2 rfl hl hb (by omega) (by omega) (by omega)) ?_; rintro _ _ ⟨k3, s3, hk3, rfl, x, hx, rfl⟩; refine ⟨fun e => (by cases e), ?_⟩; simp
      have hm : IntKind.i64.wrap ((x : Int) * 65536) = ((x * 65536 : Nat) : Int) := by rw [wrap64 (by omega) (by omega)]; simp
      refine callG_on false [0] ?_; simp; refine callN_all (by with_reducible exact c_pickL l k3 65536 65536 s3 rfl hl hb (by omega) (by omega) (by omega)) ?_; rintro _ _ ⟨k4, s4, hk4, rfl, y, hy, rfl⟩; refine ⟨fun e => (by cases e), ?_⟩; simp
      have ha : IntKind.i64.wrap ((x : Int) * 65536 + (y : Int)) = ((x * 65536 + y : Nat) : Int) := by rw [wrap64 (by omega) (by omega)]; simp
      have hn : x * 65536 + y < 4294967296 := by omega
      have hc := c_l01From hn
      rw [show ((x * 65536 + y : Nat) : Int) = (x : Int) * 65536 + (y : Int) by simp] at hc
      simp [hm, ha]
      (first | refine callG_r ?_ | refine callD_r ?_); simp; (first | refine callN_flat (by with_reducible first | exact hc) rfl ?_ | refine callN_new (by with_reducible first | exact hc) ?_ | refine callM_flat (by with_reducible first | exact hc) rfl ?_ | refine callM_new (by with_reducible first | exact hc) ?_)
      refine endG_src ?_
      simp
      exact ⟨k4, s4, by omega, rfl, _, canF_cn hn, rfl⟩
    · simp
      refine callG_on false [0] ?_; simp; refine callN_all (by with_reducible exact c_pickL l k2 65536 65536 s2 rfl hl hb (by omega) (by omega) (by omega)) ?_; rintro _ _ ⟨k3, s3, hk3, rfl, x, hx, rfl⟩; refine ⟨fun e => (by cases e), ?_⟩; simp
      have hm : IntKind.i64.wrap ((x : Int) * 65536) = ((x * 65536 : Nat) : Int) := by rw [wrap64 (by omega) (by omega)]; simp
      have hn : x * 65536 < 4294967296 := by omega
      have hc := c_l01From hn
      rw [show ((x * 65536 : Nat) : Int) = (x : Int) * 65536 by simp] at hc
      simp [hm]
      (first | refine callG_r ?_ | refine callD_r ?_); simp; (first | refine callN_flat (by with_reducible first | exact hc) rfl ?_ | refine callN_new (by with_reducible first | exact hc) ?_ | refine callM_flat (by with_reducible first | exact hc) rfl ?_ | refine callM_new (by with_reducible first | exact hc) ?_)
      refine endG_src ?_
      simp
      exact ⟨k3, s3, by omega, rfl, _, canF_cn hn, rfl⟩
    · simp
      refine callG_on false [0] ?_; simp; refine callN_all (by with_reducible exact c_DrawPlain l k2 s2 hl hb (by omega)) ?_; rintro _ _ ⟨k3, s3, hk3, rfl, z, hz, rfl⟩; refine ⟨fun e => (by cases e), ?_⟩; simp
      refine callG_on false [0, 1] ?_; simp; refine callN_all (by with_reducible exact c_among l k3 [8388608, 2130706432, 1610612736, 536870912] 4 s3 hl hb (by omega) rfl (by omega) (by omega)) ?_; rintro _ _ ⟨k4, s4, x, hk4, hx, rfl, rfl⟩; refine ⟨fun e => (by cases e), ?_⟩; simp
      have hall : ∀ y ∈ [(8388608 : Int), 2130706432, 1610612736, 536870912], 0 ≤ y ∧ y < 4294967296 := by decide
      obtain ⟨h1, h2⟩ := hall x hx
      obtain ⟨n, rfl⟩ := Int.eq_ofNat_of_zero_le h1
      have hn : n < 4294967296 := by omega
      (first | refine callG_r ?_ | refine callD_r ?_); simp; (first | refine callN_flat (by with_reducible first | exact c_l01From hn) rfl ?_ | refine callN_new (by with_reducible first | exact c_l01From hn) ?_ | refine callM_flat (by with_reducible first | exact c_l01From hn) rfl ?_ | refine callM_new (by with_reducible first | exact c_l01From hn) ?_)
      simp
      refine endG_keepT (r := .flt .f32 (fop .mul .f32 z (cn .f32 n))) (Hout := [rd false l k4 s4]) [] ?_ ?_ ?_ ?_ ?_ ?_ ?_ ⟨k4, s4, by omega, rfl, _, canF_fop _ _ _, rfl⟩ ?_ <;> simp
end Go.Proofs.YtnjpigkijdnpkaaGreat
namespace Go.Proofs.YtnjpigkijdnpkaaGreat
set_option linter.all false
open Go Go.Awp
set_option maxRecDepth 100000
set_option maxHeartbeats 4000000
set_option pp.deepTerms true

/-- What a walk over a grid gathers, y rows and x of the next. -/
def gr {α : Type} (f : Nat → Nat → List α) (w y x : Nat) : List α := (List.range y).flatMap (fun j => (List.range w).flatMap (f j)) ++ (List.range x).flatMap (f y)
theorem gr_zero {α : Type} {f : Nat → Nat → List α} {w : Nat} : gr f w 0 0 = [] := by simp [gr]
theorem gr_step {α : Type} (f : Nat → Nat → List α) (w y x : Nat) : gr f w y (x + 1) = gr f w y x ++ f y x := by
  simp [gr, List.range_succ, List.flatMap_append]
theorem gr_row {α : Type} (f : Nat → Nat → List α) (w y : Nat) : gr f w (y + 1) 0 = gr f w y w := by
  simp [gr, List.range_succ, List.flatMap_append]
theorem fm_len {α β : Type} {f : α → List β} {c : Nat} : ∀ (l : List α), (∀ x ∈ l, (f x).length = c) → (l.flatMap f).length = l.length * c
  | [], _ => by simp
  | a :: l, h => by
    rw [List.flatMap_cons, List.length_append, fm_len l fun x hx => h x (List.mem_cons_of_mem _ hx), h a List.mem_cons_self, List.length_cons, Nat.add_mul, Nat.one_mul, Nat.add_comm]
theorem fm_le {α β : Type} {f : α → List β} {c : Nat} : ∀ (l : List α), (∀ x ∈ l, (f x).length ≤ c) → (l.flatMap f).length ≤ l.length * c
  | [], _ => by simp
  | a :: l, h => by
    have h1 := fm_le l fun x hx => h x (List.mem_cons_of_mem _ hx)
    have h2 := h a List.mem_cons_self
    rw [List.flatMap_cons, List.length_append, List.length_cons, Nat.add_mul, Nat.one_mul]; omega
theorem gr_len {α : Type} {f : Nat → Nat → List α} {c : Nat} (w y x : Nat) (h : ∀ j i, (f j i).length = c) : (gr f w y x).length = y * (w * c) + x * c := by
  unfold gr
  rw [List.length_append, fm_len (c := w * c) _ fun j _ => by rw [fm_len (c := c) _ fun i _ => h j i, List.length_range], fm_len (c := c) _ fun i _ => h y i, List.length_range, List.length_range]
theorem gr_le {α : Type} {f : Nat → Nat → List α} {c : Nat} (w y x : Nat) (h : ∀ j i, (f j i).length ≤ c) : (gr f w y x).length ≤ y * (w * c) + x * c := by
  unfold gr
  have h1 := fm_le (c := w * c) (List.range y) fun j _ => (by simpa using fm_le (c := c) (List.range w) fun i _ => h j i : ((List.range w).flatMap (f j)).length ≤ w * c)
  have h2 := fm_le (c := c) (List.range x) fun i _ => h y i
  rw [List.length_range] at h1 h2
  rw [List.length_append]; omega
theorem gr_mem {α : Type} {f : Nat → Nat → List α} {w y : Nat} {t : α} (h : t ∈ gr f w y 0) : ∃ j i, j < y ∧ i < w ∧ t ∈ f j i := by
  simp only [gr, List.range_zero, List.flatMap_nil, List.append_nil, List.mem_flatMap, List.mem_range] at h
  obtain ⟨j, hj, i, hi, ht⟩ := h
  exact ⟨j, i, hj, hi, ht⟩
/-- A place of a grid. -/
def plF (s y x : Nat) : List V := [(fop .mul .f32 (fint .f32 x) s, fop .mul .f32 (fint .f32 y) s, 0)]
def ixF (w y x : Nat) : Int := (x : Int) + ((w : Int) + 1) * (y : Int)
def trF (w y x : Nat) : List (List Int) := [[ixF w y x, ixF w y x + 1, ixF w y x + w + 1 + 1], [ixF w y x, ixF w y x + w + 1 + 1, ixF w y x + w + 1]]
abbrev gPl (w h s : Nat) : List V := gr (plF s) (w + 1) (h + 1) 0
abbrev gTr (w h : Nat) : List (List Int) := gr (trF w) w h 0
structure GOk (w h s : Nat) : Prop where
  w1 : 1 ≤ w
  w2 : w ≤ 64
  h1 : 1 ≤ h
  h2 : h ≤ 64
  m : (w + 1) * (h + 1) ≤ 64
theorem gPl_length (w h s : Nat) : (gPl w h s).length = (h + 1) * (w + 1) := by
  rw [gPl, gr_len (c := 1) _ _ _ fun _ _ => rfl]; simp
theorem gPl_le {w h s : Nat} (g : GOk w h s) : (gPl w h s).length ≤ 64 := by
  rw [gPl_length, Nat.mul_comm]; exact g.m
theorem gTr_le {w h s : Nat} (g : GOk w h s) : (gTr w h).length ≤ 128 := by
  rw [gTr, gr_len (c := 2) _ _ _ fun _ _ => rfl]
  have := g.m
  have h1 : h * (w * 2) = 2 * (w * h) := by rw [Nat.mul_comm w 2, ← Nat.mul_assoc, Nat.mul_comm h 2, Nat.mul_assoc, Nat.mul_comm h w]
  have h2 : (w + 1) * (h + 1) = w * h + w + h + 1 := by rw [Nat.add_mul, Nat.mul_add, Nat.mul_one, Nat.one_mul]; omega
  omega
theorem ixF_nat (w y x : Nat) : ixF w y x = ((x + (w + 1) * y : Nat) : Int) := by unfold ixF; simp
theorem ix_lt {w h y x : Nat} (hy : y < h) (hx : x ≤ w) : x + (w + 1) * y + w + 1 < (h + 1) * (w + 1) := by
  have h1 : (w + 1) * (y + 2) ≤ (w + 1) * (h + 1) := Nat.mul_le_mul_left _ (by omega)
  rw [Nat.mul_comm (h + 1)]
  have h2 : (w + 1) * (y + 2) = (w + 1) * y + (w + 1) * 2 := Nat.mul_add _ _ _
  omega
theorem inB_nat {a n : Nat} (h : a < n) : inB a 0 ((n : Int) - 1) = true := by
  unfold inB; simp; omega
theorem tri_ok {n a b c : Nat} (h1 : a ≠ b) (h2 : b ≠ c) (h3 : a ≠ c) (ha : a < n) (hb : b < n) (hc : c < n) : triB n [(a : Int), (b : Int), (c : Int)] = true := by
  have g1 : ¬ ((a : Int) = b) := by omega
  have g2 : ¬ ((b : Int) = c) := by omega
  have g3 : ¬ ((a : Int) = c) := by omega
  simp [triB, g1, g2, g3, inB_nat ha, inB_nat hb, inB_nat hc]
theorem gTr_ok {w h s : Nat} : ∀ t ∈ gTr w h, triB (gPl w h s).length t = true := by
  intro t ht
  obtain ⟨j, i, hj, hi, hm⟩ := gr_mem ht
  rw [gPl_length]
  have h1 := ix_lt (w := w) hj (show i + 1 ≤ w by omega)
  simp only [trF, ixF_nat, List.mem_cons, List.not_mem_nil, or_false] at hm
  rcases hm with rfl | rfl
  · exact tri_ok (a := i + (w + 1) * j) (b := i + (w + 1) * j + 1) (c := i + (w + 1) * j + w + 1 + 1) (by omega) (by omega) (by omega) (by omega) (by omega) (by omega)
  · exact tri_ok (a := i + (w + 1) * j) (b := i + (w + 1) * j + w + 1 + 1) (c := i + (w + 1) * j + w + 1) (by omega) (by omega) (by omega) (by omega) (by omega) (by omega)
theorem mul_small {w y : Nat} (hw : w ≤ 64) (hy : y ≤ 64) : (w + 1) * y ≤ 4160 := Nat.le_trans (Nat.mul_le_mul (Nat.add_le_add_right hw 1) hy) (by decide)
theorem one_spliceV (x y z : Nat) : splice (cVs [(0, 0, 0)]) 0 [.flt .f32 x, .flt .f32 y, .flt .f32 z] = cVs [(x, y, z)] := rfl
theorem one_takeV (t : V) : (cVs [t]).take 3 = cVs [t] := rfl
abbrev gHeap (L : List V) : Heap := [.blk true true 27 [.nils, .nils], .blk true true 27 [.slc 2 0 L.length 3, .nils], .blk true false 32 (cVs L)]
attribute [simp] gHeap
abbrev tHeap (L : List V) (T : List (List Int)) : Heap := [.blk true true 27 [.nils, .nils], .blk true true 27 [.slc 2 0 L.length 3, .slc 3 0 T.length 1], .blk true false 32 (cVs L), .blk true false 36 (cRs true T)]
attribute [simp] tHeap
theorem make_nils : makeL 2 [AV.nils] = [.nils, .nils] := rfl
theorem make0_nils : makeL 0 [AV.nils] = [] := rfl
theorem splA (a b x : AV) : splice [a, b] 0 [x] = [x, b] := rfl
theorem splB (a b x : AV) : splice [a, b] 1 [x] = [a, x] := rfl
theorem c_l02Grid (w h s : Nat) (g : GOk w h s) : Fun Tryz.prog 57 [.int .i64 w, .int .i64 h, .flt .f32 s] [] (.agg [.slc 0 0 (gPl w h s).length 3, .slc 1 0 (gTr w h).length 1]) [.blk true false 32 (cVs (gPl w h s)), .blk true false 36 (cRs true (gTr w h))] := by
  obtain ⟨w1, w2, h1, h2, hm⟩ := g
  have hww := nat_wrap (k := w) (by omega)
  have hwh := nat_wrap (k := h) (by omega)
  refine FnSpec.walk dr_ok Tryz.func57 rfl (by kernel_rfl) rfl rfl rfl (by simp) ?_
  simp [make0_nils]
  refine loopG_of (α := Nat) (fun y => y ≤ h + 1) (fun y => h + 1 - y) (fun y => [(8, .int .i64 y), (7, .ptr 1 0), (6, .ptr 0 0), (0, .int .i64 w), (1, .int .i64 h), (2, .flt .f32 s)])
    (fun y => gHeap (gr (plF s) (w + 1) y 0)) 0 (by simp) ?_ fun y hy => ?_
  · (refine weak_gc [(some 0, 0), (some 1, 0), (none, 32)] ?_ ?_ ?_ ?_ ?_ <;> simp [gr_zero])
  have hwy := nat_wrap (k := y) (by omega)
  by_cases b : y < h + 1
  · have b' : (y : Int) ≤ h := by omega
    have b'' : y ≤ h := by omega
    simp [b', b'', hwy, hww]
    refine loopG_of (α := Nat) (fun x => x ≤ w + 1) (fun x => w + 1 - x) (fun x => [(9, .int .i64 x), (8, .int .i64 y), (7, .ptr 1 0), (6, .ptr 0 0), (0, .int .i64 w), (1, .int .i64 h), (2, .flt .f32 s)])
      (fun x => gHeap (gr (plF s) (w + 1) y x)) 0 (by simp) ?_ fun x hx => ?_
    · (refine weak_gc [(some 0, 0), (some 1, 0), (some 2, 0)] ?_ ?_ ?_ ?_ ?_ <;> simp)
    have hwx := nat_wrap (k := x) (by omega)
    by_cases b2 : x < w + 1
    · have b2' : (x : Int) ≤ w := by omega
      have b2'' : x ≤ w := by omega
      have hl : (gr (plF s) (w + 1) y x).length = y * ((w + 1) * 1) + x * 1 := gr_len (c := 1) _ _ _ fun _ _ => rfl
      have hl2 : y * ((w + 1) * 1) ≤ 4225 := Nat.le_trans (Nat.mul_le_mul (show y ≤ 65 by omega) (show (w + 1) * 1 ≤ 65 by omega)) (by decide)
      have hst := gr_step (plF s) (w + 1) y x
      simp [b2', b2'', hwx, one_spliceV, one_takeV]
      refine ⟨by omega, by omega, loopK_next (x + 1) (by omega) (by omega) ?_⟩
      rw [hst, plF]
      (refine weak_gc [(some 0, 0), (some 1, 0), (some 4, 0)] ?_ ?_ ?_ ?_ ?_ <;> simp)
    · obtain rfl : x = w + 1 := by omega
      have b2' : ¬ ((w : Int) + 1 ≤ w) := by omega
      simp [hwy, b2']
      refine loopK_next (y + 1) (by omega) (by omega) ?_
      rw [gr_row]
      (refine weak_gc [(some 0, 0), (some 1, 0), (some 2, 0)] ?_ ?_ ?_ ?_ ?_ <;> simp)
  · obtain rfl : y = h + 1 := by omega
    have b' : ¬ ((h : Int) + 1 ≤ h) := by omega
    simp [b']
    refine loopG_of (α := Nat) (fun y => y ≤ h) (fun y => h - y) (fun y => [(10, .int .i64 y), (7, .ptr 1 0), (6, .ptr 0 0), (0, .int .i64 w), (1, .int .i64 h), (2, .flt .f32 s)])
      (fun y => tHeap (gPl w h s) (gr (trF w) w y 0)) 0 (by simp) ?_ fun y hy => ?_
    · (refine weak_gc [(some 0, 0), (some 1, 0), (some 2, 0), (none, 36)] ?_ ?_ ?_ ?_ ?_ <;> simp [gr_zero])
    have hwy := nat_wrap (k := y) (by omega)
    by_cases b : y < h
    · have b' : (y : Int) < h := by omega
      simp [b', b, hwy]
      refine loopG_of (α := Nat) (fun x => x ≤ w) (fun x => w - x) (fun x => [(11, .int .i64 x), (10, .int .i64 y), (7, .ptr 1 0), (6, .ptr 0 0), (0, .int .i64 w), (1, .int .i64 h), (2, .flt .f32 s)])
        (fun x => tHeap (gPl w h s) (gr (trF w) w y x)) 0 (by simp) ?_ fun x hx => ?_
      · (refine weak_gc [(some 0, 0), (some 1, 0), (some 2, 0), (some 3, 0)] ?_ ?_ ?_ ?_ ?_ <;> simp)
      have hwx := nat_wrap (k := x) (by omega)
      by_cases b2 : x < w
      · have b2' : (x : Int) < w := by omega
        have hl : (gr (trF w) w y x).length = y * (w * 2) + x * 2 := gr_len (c := 2) _ _ _ fun _ _ => rfl
        have hl2 : y * (w * 2) ≤ 8192 := Nat.le_trans (Nat.mul_le_mul (show y ≤ 64 by omega) (show w * 2 ≤ 128 by omega)) (by decide)
        have hst := gr_step (trF w) w y x
        have hP := mul_small (w := w) (y := y) w2 (by omega)
        have hp : ((w : Int) + 1) * (y : Int) = (((w + 1) * y : Nat) : Int) := by simp
        have hA : IntKind.i64.wrap (((w : Int) + 1) * (y : Int)) = ((w : Int) + 1) * (y : Int) := by rw [hp]; exact wrap64 (by omega) (by omega)
        have hB : IntKind.i64.wrap ((x : Int) + ((w : Int) + 1) * (y : Int)) = ixF w y x := by unfold ixF; rw [hp]; exact wrap64 (by omega) (by omega)
        have hix : ixF w y x = ((x + (w + 1) * y : Nat) : Int) := ixF_nat _ _ _
        have hC : IntKind.i64.wrap (ixF w y x + w) = ixF w y x + w := by rw [hix]; exact wrap64 (by omega) (by omega)
        have hD : IntKind.i64.wrap (ixF w y x + w + 1) = ixF w y x + w + 1 := by rw [hix]; exact wrap64 (by omega) (by omega)
        have hE : IntKind.i64.wrap (ixF w y x + 1) = ixF w y x + 1 := by rw [hix]; exact wrap64 (by omega) (by omega)
        have hF : IntKind.i64.wrap (ixF w y x + w + 1 + 1) = ixF w y x + w + 1 + 1 := by rw [hix]; exact wrap64 (by omega) (by omega)
        simp [b2', b2, hwx, hww, hA, hB, hC, hD, hE, hF, make_nils, splA, splB]
        have hcl : cRs true (gr (trF w) w y (x + 1)) = cRs true (gr (trF w) w y x) ++ [.view true (cIs [ixF w y x, ixF w y x + 1, ixF w y x + w + 1 + 1]) 3, .view true (cIs [ixF w y x, ixF w y x + w + 1 + 1, ixF w y x + w + 1]) 3] := by rw [hst, ← cRs_append]; rfl
        have hll : (gr (trF w) w y (x + 1)).length = (gr (trF w) w y x).length + 2 := by rw [hst, List.length_append]; rfl
        refine ⟨by omega, by omega, loopK_next (x + 1) (by omega) (by omega) ?_⟩
        (refine weak_gc [(some 0, 0), (some 1, 0), (some 2, 0), (some 7, 0)] ?_ ?_ ?_ ?_ ?_ <;> simp [hcl, hll])
      · obtain rfl : x = w := by omega
        simp [hwy]
        refine loopK_next (y + 1) (by omega) (by omega) ?_
        rw [gr_row]
        (refine weak_gc [(some 0, 0), (some 1, 0), (some 2, 0), (some 3, 0)] ?_ ?_ ?_ ?_ ?_ <;> simp)
    · obtain rfl : y = h := by omega
      simp
      (refine endG_keepT [(some 2, 0), (some 3, 0)] ?_ ?_ ?_ ?_ ?_ ?_ ?_ ⟨rfl, rfl⟩ ?_ <;> simp)
end Go.Proofs.YtnjpigkijdnpkaaGreat
namespace Go.Proofs.YtnjpigkijdnpkaaGreat
set_option linter.all false
open Go Go.Awp
set_option maxRecDepth 100000
set_option maxHeartbeats 4000000
set_option pp.deepTerms true

/-- A vector, whichever. -/
def QV (av : AV) : Prop := ∃ v : V, av = aV v
theorem c_DrawSmall (l : List Nat) (k : Nat) (seed : Int) (hl : l.length ≤ 1048576) (hb : ∀ b ∈ l, b < 256) (hk : k + 2 < 1000000000000) :
    FnSpec Tryz.prog 133 [.ptr 0 0] [rd false l k seed] (RdR l k 2 QF) := by
  refine FnSpec.walk dr_ok Tryz.func133 rfl (by kernel_rfl) rfl rfl rfl (by simp) ?_
  simp
  refine callG_on false [0] ?_; simp; refine callN_all (by with_reducible exact c_pickL l k 33 33 seed rfl hl hb (by omega) (by omega) (by omega)) ?_; rintro _ _ ⟨k1, s1, hk1, rfl, x, hx, rfl⟩; refine ⟨fun e => (by cases e), ?_⟩; simp
  refine endG_src ?_
  simp
  exact ⟨k1, s1, by omega, rfl, _, canF_fop _ _ _, rfl⟩
theorem c_DrawVector (l : List Nat) (k : Nat) (seed : Int) (hl : l.length ≤ 1048576) (hb : ∀ b ∈ l, b < 256) (hk : k + 40 < 1000000000000) :
    FnSpec Tryz.prog 98 [.ptr 0 0] [rd false l k seed] (RdR l k 20 QV) := by
  refine FnSpec.walk dr_ok Tryz.func98 rfl (by kernel_rfl) rfl rfl rfl (by simp) ?_
  simp
  refine callG_on false [0] ?_; simp; refine callN_all (by with_reducible exact c_DrawSmall l k seed hl hb (by omega)) ?_; rintro _ _ ⟨k1, s1, hk1, rfl, x, hx, rfl⟩; refine ⟨fun e => (by cases e), ?_⟩; simp
  refine callG_on false [0] ?_; simp; refine callN_all (by with_reducible exact c_DrawSmall l k1 s1 hl hb (by omega)) ?_; rintro _ _ ⟨k2, s2, hk2, rfl, y, hy, rfl⟩; refine ⟨fun e => (by cases e), ?_⟩; simp
  refine callG_on false [0] ?_; simp; refine callN_all (by with_reducible exact c_DrawSmall l k2 s2 hl hb (by omega)) ?_; rintro _ _ ⟨k3, s3, hk3, rfl, z, hz, rfl⟩; refine ⟨fun e => (by cases e), ?_⟩; simp
  refine callG_on false [0] ?_; simp; refine callN_all (by with_reducible exact c_oneL l k3 30 30 s3 rfl hl hb (by omega) (by omega) (by omega)) ?_; rintro _ _ ⟨k4, s4, hk4, rfl, b, rfl⟩; refine ⟨fun e => (by cases e), ?_⟩; simp
  refine ⟨fun e => ?_, fun e => ?_⟩
  · refine callG_on false [0] ?_; simp; refine callN_all (by with_reducible exact c_DrawFloat l k4 s4 hl hb (by omega)) ?_; rintro _ _ ⟨k5, s5, hk5, rfl, u, hu, rfl⟩; refine ⟨fun e => (by cases e), ?_⟩; simp
    refine endG_keepT (r := aV (x, u, z)) (Hout := [rd false l k5 s5]) [] ?_ ?_ ?_ ?_ ?_ ?_ ?_ ⟨k5, s5, by omega, rfl, _, rfl⟩ ?_ <;> simp
  · refine endG_keepT (r := aV (x, y, z)) (Hout := [rd false l k4 s4]) [] ?_ ?_ ?_ ?_ ?_ ?_ ?_ ⟨k4, s4, by omega, rfl, _, rfl⟩ ?_ <;> simp
/-- The sine of turns, as the reference reckons it. -/
def sinPol (u : Nat) : Nat → Nat
  | 0 => 4607182418800017408
  | j + 1 => fop .sub .f64 4607182418800017408 (fop .quo .f64 (fop .mul .f64 u (sinPol u j)) (fint .f64 (2 * (8 - (j : Int)) * (2 * (8 - (j : Int)) + 1))))
def ge64 (x y : Nat) : Bool := ford .f64 x y == some .gt || ford .f64 x y == some .eq
def sin1 (f : Nat) : Nat := if ge64 f 4602678819172646912 then fop .sub .f64 f 4602678819172646912 else f
def sin2 (f : Nat) : Nat := if ford .f64 f 4598175219545276416 = some .gt then fop .sub .f64 4602678819172646912 f else f
def sin3 (z : Nat) : Nat := fop .mul .f64 z (sinPol (fop .mul .f64 z z) 8)
def sinG (f : Nat) : Nat := if ge64 f 4602678819172646912 then fneg .f64 (sin3 (fop .mul .f64 (sin2 (sin1 f)) 4618760256179416344)) else sin3 (fop .mul .f64 (sin2 (sin1 f)) 4618760256179416344)
def sinF (y : Nat) : Nat := sinG (fop .sub .f64 y (fint .f64 ((floatToIntVal .f64 y .i64).getD 0)))
def sinB (y : Nat) : Bool := ford .f64 (fop .sub .f64 y y) 0 == some .eq && ford .f64 y 4841369599423283200 == some .lt && ford .f64 y 14064741636278059008 == some .gt && (floatToIntVal .f64 y .i64).isSome && !(ford .f64 (fop .sub .f64 y (fint .f64 ((floatToIntVal .f64 y .i64).getD 0))) 0 == some .lt)
theorem c_sineWide (y : Nat) (h : sinB y = true) : Fun Tryz.prog 149 [.flt .f64 y] [] (.flt .f64 (sinF y)) [] := by
  unfold sinB at h
  simp only [Bool.and_eq_true, beq_iff_eq, Bool.not_eq_true', beq_eq_false_iff_ne] at h
  obtain ⟨⟨⟨⟨h1, h2⟩, h3⟩, h4⟩, h5⟩ := h
  obtain ⟨n, hn⟩ := Option.isSome_iff_exists.1 h4
  unfold sinF
  rw [hn] at h5 ⊢
  simp only [Option.getD_some] at h5 ⊢
  generalize hf : fop .sub .f64 y (fint .f64 n) = f at *
  refine FnSpec.walkF dr_ok Tryz.func149 rfl (by kernel_rfl) rfl rfl rfl (by simp) ?_
  have cases3 : ford .f64 f 4602678819172646912 = some .gt ∨ ford .f64 f 4602678819172646912 = some .eq ∨ (¬ ford .f64 f 4602678819172646912 = some .gt ∧ ¬ ford .f64 f 4602678819172646912 = some .eq) := by
    by_cases a : ford .f64 f 4602678819172646912 = some .gt
    · exact .inl a
    · by_cases b : ford .f64 f 4602678819172646912 = some .eq
      · exact .inr (.inl b)
      · exact .inr (.inr ⟨a, b⟩)
  rcases cases3 with c1 | c1 | ⟨c1, c1b⟩
  · by_cases c2 : ford .f64 (fop .sub .f64 f 4602678819172646912) 4598175219545276416 = some .gt
    · simp [h1, h2, h3, hn, hf, h5, c1, c2]
      refine loopG_of (α := Nat) (fun j => j ≤ 8) (fun j => 8 - j) (fun j => [(8, .int .i64 (8 - (j : Int))), (7, .flt .f64 (sinPol (fop .mul .f64 (fop .mul .f64 (fop .sub .f64 4602678819172646912 (fop .sub .f64 f 4602678819172646912)) 4618760256179416344) (fop .mul .f64 (fop .sub .f64 4602678819172646912 (fop .sub .f64 f 4602678819172646912)) 4618760256179416344)) j)), (6, .flt .f64 (fop .mul .f64 (fop .mul .f64 (fop .sub .f64 4602678819172646912 (fop .sub .f64 f 4602678819172646912)) 4618760256179416344) (fop .mul .f64 (fop .sub .f64 4602678819172646912 (fop .sub .f64 f 4602678819172646912)) 4618760256179416344))), (5, .flt .f64 (fop .mul .f64 (fop .sub .f64 4602678819172646912 (fop .sub .f64 f 4602678819172646912)) 4618760256179416344)), (4, .bool (ford .f64 f 4602678819172646912 == some .gt || ford .f64 f 4602678819172646912 == some .eq))]) (fun _ => []) 0 (by simp) ?_ fun j hj => ?_
      · refine weak_UH rfl ?_
        simp [sinPol, c1, c2]
      by_cases g : j < 8
      · obtain ⟨t, ht, ht8, ht1⟩ : ∃ t : Nat, 8 - (j : Int) = t ∧ t ≤ 8 ∧ 1 ≤ t := ⟨8 - j, by omega, by omega, by omega⟩
        have g1 : (1 : Int) ≤ 8 - (j : Int) := by omega
        have w1 : IntKind.i64.wrap (2 * (8 - (j : Int))) = 2 * (8 - (j : Int)) := wrap64 (by omega) (by omega)
        have w2 : IntKind.i64.wrap (2 * (8 - (j : Int)) + 1) = 2 * (8 - (j : Int)) + 1 := wrap64 (by omega) (by omega)
        have hp : 2 * (8 - (j : Int)) * (2 * (8 - (j : Int)) + 1) = ((2 * t * (2 * t + 1) : Nat) : Int) := by rw [ht]; simp
        have hm : 2 * t * (2 * t + 1) ≤ 272 := Nat.mul_le_mul (show 2 * t ≤ 16 by omega) (show 2 * t + 1 ≤ 17 by omega)
        have w3 : IntKind.i64.wrap (2 * (8 - (j : Int)) * (2 * (8 - (j : Int)) + 1)) = 2 * (8 - (j : Int)) * (2 * (8 - (j : Int)) + 1) := by rw [hp]; exact wrap64 (by omega) (by omega)
        have w4 : IntKind.i64.wrap (8 - (j : Int) - 1) = 8 - ((j + 1 : Nat) : Int) := by rw [wrap64 (by omega) (by omega)]; omega
        simp [g1, w1, w2, w3, w4]
        refine loopK_next (j + 1) (by omega) (by omega) ?_
        refine weak_UH rfl ?_
        simp [sinPol, c1, c2]
      · obtain rfl : j = 8 := by omega
        simp [c1, c2, sinG, sin1, sin2, sin3, ge64]
    · simp [h1, h2, h3, hn, hf, h5, c1, c2]
      refine loopG_of (α := Nat) (fun j => j ≤ 8) (fun j => 8 - j) (fun j => [(8, .int .i64 (8 - (j : Int))), (7, .flt .f64 (sinPol (fop .mul .f64 (fop .mul .f64 (fop .sub .f64 f 4602678819172646912) 4618760256179416344) (fop .mul .f64 (fop .sub .f64 f 4602678819172646912) 4618760256179416344)) j)), (6, .flt .f64 (fop .mul .f64 (fop .mul .f64 (fop .sub .f64 f 4602678819172646912) 4618760256179416344) (fop .mul .f64 (fop .sub .f64 f 4602678819172646912) 4618760256179416344))), (5, .flt .f64 (fop .mul .f64 (fop .sub .f64 f 4602678819172646912) 4618760256179416344)), (4, .bool (ford .f64 f 4602678819172646912 == some .gt || ford .f64 f 4602678819172646912 == some .eq))]) (fun _ => []) 0 (by simp) ?_ fun j hj => ?_
      · refine weak_UH rfl ?_
        simp [sinPol, c1, c2]
      by_cases g : j < 8
      · obtain ⟨t, ht, ht8, ht1⟩ : ∃ t : Nat, 8 - (j : Int) = t ∧ t ≤ 8 ∧ 1 ≤ t := ⟨8 - j, by omega, by omega, by omega⟩
        have g1 : (1 : Int) ≤ 8 - (j : Int) := by omega
        have w1 : IntKind.i64.wrap (2 * (8 - (j : Int))) = 2 * (8 - (j : Int)) := wrap64 (by omega) (by omega)
        have w2 : IntKind.i64.wrap (2 * (8 - (j : Int)) + 1) = 2 * (8 - (j : Int)) + 1 := wrap64 (by omega) (by omega)
        have hp : 2 * (8 - (j : Int)) * (2 * (8 - (j : Int)) + 1) = ((2 * t * (2 * t + 1) : Nat) : Int) := by rw [ht]; simp
        have hm : 2 * t * (2 * t + 1) ≤ 272 := Nat.mul_le_mul (show 2 * t ≤ 16 by omega) (show 2 * t + 1 ≤ 17 by omega)
        have w3 : IntKind.i64.wrap (2 * (8 - (j : Int)) * (2 * (8 - (j : Int)) + 1)) = 2 * (8 - (j : Int)) * (2 * (8 - (j : Int)) + 1) := by rw [hp]; exact wrap64 (by omega) (by omega)
        have w4 : IntKind.i64.wrap (8 - (j : Int) - 1) = 8 - ((j + 1 : Nat) : Int) := by rw [wrap64 (by omega) (by omega)]; omega
        simp [g1, w1, w2, w3, w4]
        refine loopK_next (j + 1) (by omega) (by omega) ?_
        refine weak_UH rfl ?_
        simp [sinPol, c1, c2]
      · obtain rfl : j = 8 := by omega
        simp [c1, c2, sinG, sin1, sin2, sin3, ge64]
  · by_cases c2 : ford .f64 (fop .sub .f64 f 4602678819172646912) 4598175219545276416 = some .gt
    · simp [h1, h2, h3, hn, hf, h5, c1, c2]
      refine loopG_of (α := Nat) (fun j => j ≤ 8) (fun j => 8 - j) (fun j => [(8, .int .i64 (8 - (j : Int))), (7, .flt .f64 (sinPol (fop .mul .f64 (fop .mul .f64 (fop .sub .f64 4602678819172646912 (fop .sub .f64 f 4602678819172646912)) 4618760256179416344) (fop .mul .f64 (fop .sub .f64 4602678819172646912 (fop .sub .f64 f 4602678819172646912)) 4618760256179416344)) j)), (6, .flt .f64 (fop .mul .f64 (fop .mul .f64 (fop .sub .f64 4602678819172646912 (fop .sub .f64 f 4602678819172646912)) 4618760256179416344) (fop .mul .f64 (fop .sub .f64 4602678819172646912 (fop .sub .f64 f 4602678819172646912)) 4618760256179416344))), (5, .flt .f64 (fop .mul .f64 (fop .sub .f64 4602678819172646912 (fop .sub .f64 f 4602678819172646912)) 4618760256179416344)), (4, .bool (ford .f64 f 4602678819172646912 == some .gt || ford .f64 f 4602678819172646912 == some .eq))]) (fun _ => []) 0 (by simp) ?_ fun j hj => ?_
      · refine weak_UH rfl ?_
        simp [sinPol, c1, c2]
      by_cases g : j < 8
      · obtain ⟨t, ht, ht8, ht1⟩ : ∃ t : Nat, 8 - (j : Int) = t ∧ t ≤ 8 ∧ 1 ≤ t := ⟨8 - j, by omega, by omega, by omega⟩
        have g1 : (1 : Int) ≤ 8 - (j : Int) := by omega
        have w1 : IntKind.i64.wrap (2 * (8 - (j : Int))) = 2 * (8 - (j : Int)) := wrap64 (by omega) (by omega)
        have w2 : IntKind.i64.wrap (2 * (8 - (j : Int)) + 1) = 2 * (8 - (j : Int)) + 1 := wrap64 (by omega) (by omega)
        have hp : 2 * (8 - (j : Int)) * (2 * (8 - (j : Int)) + 1) = ((2 * t * (2 * t + 1) : Nat) : Int) := by rw [ht]; simp
        have hm : 2 * t * (2 * t + 1) ≤ 272 := Nat.mul_le_mul (show 2 * t ≤ 16 by omega) (show 2 * t + 1 ≤ 17 by omega)
        have w3 : IntKind.i64.wrap (2 * (8 - (j : Int)) * (2 * (8 - (j : Int)) + 1)) = 2 * (8 - (j : Int)) * (2 * (8 - (j : Int)) + 1) := by rw [hp]; exact wrap64 (by omega) (by omega)
        have w4 : IntKind.i64.wrap (8 - (j : Int) - 1) = 8 - ((j + 1 : Nat) : Int) := by rw [wrap64 (by omega) (by omega)]; omega
        simp [g1, w1, w2, w3, w4]
        refine loopK_next (j + 1) (by omega) (by omega) ?_
        refine weak_UH rfl ?_
        simp [sinPol, c1, c2]
      · obtain rfl : j = 8 := by omega
        simp [c1, c2, sinG, sin1, sin2, sin3, ge64]
    · simp [h1, h2, h3, hn, hf, h5, c1, c2]
      refine loopG_of (α := Nat) (fun j => j ≤ 8) (fun j => 8 - j) (fun j => [(8, .int .i64 (8 - (j : Int))), (7, .flt .f64 (sinPol (fop .mul .f64 (fop .mul .f64 (fop .sub .f64 f 4602678819172646912) 4618760256179416344) (fop .mul .f64 (fop .sub .f64 f 4602678819172646912) 4618760256179416344)) j)), (6, .flt .f64 (fop .mul .f64 (fop .mul .f64 (fop .sub .f64 f 4602678819172646912) 4618760256179416344) (fop .mul .f64 (fop .sub .f64 f 4602678819172646912) 4618760256179416344))), (5, .flt .f64 (fop .mul .f64 (fop .sub .f64 f 4602678819172646912) 4618760256179416344)), (4, .bool (ford .f64 f 4602678819172646912 == some .gt || ford .f64 f 4602678819172646912 == some .eq))]) (fun _ => []) 0 (by simp) ?_ fun j hj => ?_
      · refine weak_UH rfl ?_
        simp [sinPol, c1, c2]
      by_cases g : j < 8
      · obtain ⟨t, ht, ht8, ht1⟩ : ∃ t : Nat, 8 - (j : Int) = t ∧ t ≤ 8 ∧ 1 ≤ t := ⟨8 - j, by omega, by omega, by omega⟩
        have g1 : (1 : Int) ≤ 8 - (j : Int) := by omega
        have w1 : IntKind.i64.wrap (2 * (8 - (j : Int))) = 2 * (8 - (j : Int)) := wrap64 (by omega) (by omega)
        have w2 : IntKind.i64.wrap (2 * (8 - (j : Int)) + 1) = 2 * (8 - (j : Int)) + 1 := wrap64 (by omega) (by omega)
        have hp : 2 * (8 - (j : Int)) * (2 * (8 - (j : Int)) + 1) = ((2 * t * (2 * t + 1) : Nat) : Int) := by rw [ht]; simp
        have hm : 2 * t * (2 * t + 1) ≤ 272 := Nat.mul_le_mul (show 2 * t ≤ 16 by omega) (show 2 * t + 1 ≤ 17 by omega)
        have w3 : IntKind.i64.wrap (2 * (8 - (j : Int)) * (2 * (8 - (j : Int)) + 1)) = 2 * (8 - (j : Int)) * (2 * (8 - (j : Int)) + 1) := by rw [hp]; exact wrap64 (by omega) (by omega)
        have w4 : IntKind.i64.wrap (8 - (j : Int) - 1) = 8 - ((j + 1 : Nat) : Int) := by rw [wrap64 (by omega) (by omega)]; omega
        simp [g1, w1, w2, w3, w4]
        refine loopK_next (j + 1) (by omega) (by omega) ?_
        refine weak_UH rfl ?_
        simp [sinPol, c1, c2]
      · obtain rfl : j = 8 := by omega
        simp [c1, c2, sinG, sin1, sin2, sin3, ge64]
  · by_cases c2 : ford .f64 f 4598175219545276416 = some .gt
    · simp [h1, h2, h3, hn, hf, h5, c1, c1b, c2]
      refine loopG_of (α := Nat) (fun j => j ≤ 8) (fun j => 8 - j) (fun j => [(8, .int .i64 (8 - (j : Int))), (7, .flt .f64 (sinPol (fop .mul .f64 (fop .mul .f64 (fop .sub .f64 4602678819172646912 f) 4618760256179416344) (fop .mul .f64 (fop .sub .f64 4602678819172646912 f) 4618760256179416344)) j)), (6, .flt .f64 (fop .mul .f64 (fop .mul .f64 (fop .sub .f64 4602678819172646912 f) 4618760256179416344) (fop .mul .f64 (fop .sub .f64 4602678819172646912 f) 4618760256179416344))), (5, .flt .f64 (fop .mul .f64 (fop .sub .f64 4602678819172646912 f) 4618760256179416344)), (4, .bool (ford .f64 f 4602678819172646912 == some .gt || ford .f64 f 4602678819172646912 == some .eq))]) (fun _ => []) 0 (by simp) ?_ fun j hj => ?_
      · refine weak_UH rfl ?_
        simp [sinPol, c1, c1b, c2]
      by_cases g : j < 8
      · obtain ⟨t, ht, ht8, ht1⟩ : ∃ t : Nat, 8 - (j : Int) = t ∧ t ≤ 8 ∧ 1 ≤ t := ⟨8 - j, by omega, by omega, by omega⟩
        have g1 : (1 : Int) ≤ 8 - (j : Int) := by omega
        have w1 : IntKind.i64.wrap (2 * (8 - (j : Int))) = 2 * (8 - (j : Int)) := wrap64 (by omega) (by omega)
        have w2 : IntKind.i64.wrap (2 * (8 - (j : Int)) + 1) = 2 * (8 - (j : Int)) + 1 := wrap64 (by omega) (by omega)
        have hp : 2 * (8 - (j : Int)) * (2 * (8 - (j : Int)) + 1) = ((2 * t * (2 * t + 1) : Nat) : Int) := by rw [ht]; simp
        have hm : 2 * t * (2 * t + 1) ≤ 272 := Nat.mul_le_mul (show 2 * t ≤ 16 by omega) (show 2 * t + 1 ≤ 17 by omega)
        have w3 : IntKind.i64.wrap (2 * (8 - (j : Int)) * (2 * (8 - (j : Int)) + 1)) = 2 * (8 - (j : Int)) * (2 * (8 - (j : Int)) + 1) := by rw [hp]; exact wrap64 (by omega) (by omega)
        have w4 : IntKind.i64.wrap (8 - (j : Int) - 1) = 8 - ((j + 1 : Nat) : Int) := by rw [wrap64 (by omega) (by omega)]; omega
        simp [g1, w1, w2, w3, w4]
        refine loopK_next (j + 1) (by omega) (by omega) ?_
        refine weak_UH rfl ?_
        simp [sinPol, c1, c1b, c2]
      · obtain rfl : j = 8 := by omega
        simp [c1, c1b, c2, sinG, sin1, sin2, sin3, ge64]
    · simp [h1, h2, h3, hn, hf, h5, c1, c1b, c2]
      refine loopG_of (α := Nat) (fun j => j ≤ 8) (fun j => 8 - j) (fun j => [(8, .int .i64 (8 - (j : Int))), (7, .flt .f64 (sinPol (fop .mul .f64 (fop .mul .f64 f 4618760256179416344) (fop .mul .f64 f 4618760256179416344)) j)), (6, .flt .f64 (fop .mul .f64 (fop .mul .f64 f 4618760256179416344) (fop .mul .f64 f 4618760256179416344))), (5, .flt .f64 (fop .mul .f64 f 4618760256179416344)), (4, .bool (ford .f64 f 4602678819172646912 == some .gt || ford .f64 f 4602678819172646912 == some .eq))]) (fun _ => []) 0 (by simp) ?_ fun j hj => ?_
      · refine weak_UH rfl ?_
        simp [sinPol, c1, c1b, c2]
      by_cases g : j < 8
      · obtain ⟨t, ht, ht8, ht1⟩ : ∃ t : Nat, 8 - (j : Int) = t ∧ t ≤ 8 ∧ 1 ≤ t := ⟨8 - j, by omega, by omega, by omega⟩
        have g1 : (1 : Int) ≤ 8 - (j : Int) := by omega
        have w1 : IntKind.i64.wrap (2 * (8 - (j : Int))) = 2 * (8 - (j : Int)) := wrap64 (by omega) (by omega)
        have w2 : IntKind.i64.wrap (2 * (8 - (j : Int)) + 1) = 2 * (8 - (j : Int)) + 1 := wrap64 (by omega) (by omega)
        have hp : 2 * (8 - (j : Int)) * (2 * (8 - (j : Int)) + 1) = ((2 * t * (2 * t + 1) : Nat) : Int) := by rw [ht]; simp
        have hm : 2 * t * (2 * t + 1) ≤ 272 := Nat.mul_le_mul (show 2 * t ≤ 16 by omega) (show 2 * t + 1 ≤ 17 by omega)
        have w3 : IntKind.i64.wrap (2 * (8 - (j : Int)) * (2 * (8 - (j : Int)) + 1)) = 2 * (8 - (j : Int)) * (2 * (8 - (j : Int)) + 1) := by rw [hp]; exact wrap64 (by omega) (by omega)
        have w4 : IntKind.i64.wrap (8 - (j : Int) - 1) = 8 - ((j + 1 : Nat) : Int) := by rw [wrap64 (by omega) (by omega)]; omega
        simp [g1, w1, w2, w3, w4]
        refine loopK_next (j + 1) (by omega) (by omega) ?_
        refine weak_UH rfl ?_
        simp [sinPol, c1, c1b, c2]
      · obtain rfl : j = 8 := by omega
        simp [c1, c1b, c2, sinG, sin1, sin2, sin3, ge64]
end Go.Proofs.YtnjpigkijdnpkaaGreat
namespace Go.Proofs.YtnjpigkijdnpkaaGreat
set_option linter.all false
open Go Go.Awp
set_option maxRecDepth 100000
set_option maxHeartbeats 4000000
set_option pp.deepTerms true

theorem c_l01Sine (x y : Nat) (h : sinB (wid x) = true) (hy : fcvt .f64 .f32 (sinF (wid x)) = some y) : Fun Tryz.prog 128 [.flt .f32 x] [] (.flt .f32 y) [] := by
  refine FnSpec.walkF dr_ok Tryz.func128 rfl (by kernel_rfl) rfl rfl rfl (by simp) ?_
  simp
  (first | refine callG_r ?_ | refine callD_r ?_); simp; (first | refine callN_flat (by with_reducible first | exact c_sineWide _ h) rfl ?_ | refine callN_new (by with_reducible first | exact c_sineWide _ h) ?_ | refine callM_flat (by with_reducible first | exact c_sineWide _ h) rfl ?_ | refine callM_new (by with_reducible first | exact c_sineWide _ h) ?_)
  simp
  (first | refine callG_r ?_ | refine callD_r ?_); simp; (first | refine callN_flat (by with_reducible first | exact c_l01Narrow hy) rfl ?_ | refine callN_new (by with_reducible first | exact c_l01Narrow hy) ?_ | refine callM_flat (by with_reducible first | exact c_l01Narrow hy) rfl ?_ | refine callM_new (by with_reducible first | exact c_l01Narrow hy) ?_)
  simp
def ringQ (s k : Nat) : Nat := fop .quo .f32 (fint .f32 k) (fint .f32 s)
def sinV (x : Nat) : Nat := (fcvt .f64 .f32 (sinF (wid x))).getD 0
def sinOk (x : Nat) : Bool := sinB (wid x) && (fcvt .f64 .f32 (sinF (wid x))).isSome
theorem ring_ok : ∀ s ∈ [3, 4, 5], ∀ k ∈ List.range s, (sinOk (fop .add .f32 (ringQ s k) 1048576000) && sinOk (ringQ s k)) = true := by decide +kernel
theorem c_sinV (x : Nat) (h : sinOk x = true) : Fun Tryz.prog 128 [.flt .f32 x] [] (.flt .f32 (sinV x)) [] := by
  unfold sinOk at h
  rw [Bool.and_eq_true] at h
  obtain ⟨y, hy⟩ := Option.isSome_iff_exists.1 h.2
  have e : sinV x = y := by unfold sinV; rw [hy]; rfl
  rw [e]
  exact c_l01Sine x y h.1 hy
/-- A place of a ring; two triangles of it. -/
def plR (s a b y x : Nat) : List V := [(fop .mul .f32 a (sinV (fop .add .f32 (ringQ s x) 1048576000)), fop .mul .f32 a (sinV (ringQ s x)), fop .mul .f32 (fint .f32 y) b)]
def ixR (s y x : Nat) : Int := (x : Int) + (s : Int) * (y : Int)
def jxR (s y x : Nat) : Int := (((x + 1) % s : Nat) : Int) + (s : Int) * (y : Int)
def trR (s y x : Nat) : List (List Int) := [[ixR s y x, jxR s y x, jxR s y x + s], [ixR s y x, jxR s y x + s, ixR s y x + s]]
abbrev rPl (s h a b : Nat) : List V := gr (plR s a b) s (h + 1) 0
abbrev rTr (s h : Nat) : List (List Int) := gr (trR s) s h 0
theorem rPl_length (s h a b : Nat) : (rPl s h a b).length = (h + 1) * s := by
  rw [rPl, gr_len (c := 1) _ _ _ fun _ _ => rfl]; simp
theorem ixR_nat (s y x : Nat) : ixR s y x = ((x + s * y : Nat) : Int) := by unfold ixR; simp
theorem jxR_nat (s y x : Nat) : jxR s y x = (((x + 1) % s + s * y : Nat) : Int) := by unfold jxR; simp
theorem rTr_ok {s h a b : Nat} (hs : 2 ≤ s) : ∀ t ∈ rTr s h, triB (rPl s h a b).length t = true := by
  intro t ht
  obtain ⟨j, i, hj, hi, hm⟩ := gr_mem ht
  rw [rPl_length]
  have h1 : s * (j + 2) ≤ s * (h + 1) := Nat.mul_le_mul_left _ (by omega)
  have h2 : s * (j + 2) = s * j + s * 2 := Nat.mul_add _ _ _
  rw [Nat.mul_comm (h + 1)]
  obtain ⟨r, hr⟩ : ∃ r, (i + 1) % s = r := ⟨_, rfl⟩
  have hr1 : r < s := by rw [← hr]; exact Nat.mod_lt _ (by omega)
  have hr2 : r ≠ i := by
    rw [← hr]
    by_cases c : i + 1 < s
    · rw [Nat.mod_eq_of_lt c]; omega
    · have : i + 1 = s := by omega
      rw [this, Nat.mod_self]; omega
  simp only [trR, ixR_nat, jxR_nat, hr, List.mem_cons, List.not_mem_nil, or_false] at hm
  rcases hm with rfl | rfl
  · exact tri_ok (a := i + s * j) (b := r + s * j) (c := r + s * j + s) (by omega) (by omega) (by omega) (by omega) (by omega) (by omega)
  · exact tri_ok (a := i + s * j) (b := r + s * j + s) (c := i + s * j + s) (by omega) (by omega) (by omega) (by omega) (by omega) (by omega)
theorem c_l02Ring (s h a b : Nat) (hs : s ∈ [3, 4, 5]) (h2 : h ≤ 4) : Fun Tryz.prog 95 [.int .i64 s, .int .i64 h, .flt .f32 a, .flt .f32 b] [] (.agg [.slc 0 0 (rPl s h a b).length 3, .slc 1 0 (rTr s h).length 1]) [.blk true false 32 (cVs (rPl s h a b)), .blk true false 36 (cRs true (rTr s h))] := by
  have s1 : 3 ≤ s ∧ s ≤ 5 := by
    simp only [List.mem_cons, List.not_mem_nil, or_false] at hs
    omega
  obtain ⟨s1, s2⟩ := s1
  have hwh := nat_wrap (k := h) (by omega)
  refine FnSpec.walk dr_ok Tryz.func95 rfl (by kernel_rfl) rfl rfl rfl (by simp) ?_
  simp [make0_nils]
  refine loopG_of (α := Nat) (fun y => y ≤ h + 1) (fun y => h + 1 - y) (fun y => [(10, .int .i64 y), (9, .ptr 1 0), (8, .ptr 0 0), (0, .int .i64 s), (1, .int .i64 h), (2, .flt .f32 a), (3, .flt .f32 b)])
    (fun y => gHeap (gr (plR s a b) s y 0)) 0 (by simp) ?_ fun y hy => ?_
  · (refine weak_gc [(some 0, 0), (some 1, 0), (none, 32)] ?_ ?_ ?_ ?_ ?_ <;> simp [gr_zero])
  have hwy := nat_wrap (k := y) (by omega)
  by_cases b0 : y < h + 1
  · have b' : (y : Int) ≤ h := by omega
    have b'' : y ≤ h := by omega
    simp [b', b'', hwy]
    refine loopG_of (α := Nat) (fun x => x ≤ s) (fun x => s - x) (fun x => [(11, .int .i64 x), (10, .int .i64 y), (9, .ptr 1 0), (8, .ptr 0 0), (0, .int .i64 s), (1, .int .i64 h), (2, .flt .f32 a), (3, .flt .f32 b)])
      (fun x => gHeap (gr (plR s a b) s y x)) 0 (by simp) ?_ fun x hx => ?_
    · (refine weak_gc [(some 0, 0), (some 1, 0), (some 2, 0)] ?_ ?_ ?_ ?_ ?_ <;> simp)
    have hwx := nat_wrap (k := x) (by omega)
    by_cases b2 : x < s
    · have b2' : (x : Int) < s := by omega
      have hl : (gr (plR s a b) s y x).length = y * (s * 1) + x * 1 := gr_len (c := 1) _ _ _ fun _ _ => rfl
      have hl2 : y * (s * 1) ≤ 25 := Nat.le_trans (Nat.mul_le_mul (show y ≤ 5 by omega) (show s * 1 ≤ 5 by omega)) (by decide)
      have hst := gr_step (plR s a b) s y x
      have hok := ring_ok s hs x (List.mem_range.2 b2)
      rw [Bool.and_eq_true] at hok
      have hq : fop .quo .f32 (fint .f32 x) (fint .f32 s) = ringQ s x := rfl
      simp [b2', b2, hwx, hq]
      (first | refine callG_r ?_ | refine callD_r ?_); simp; (first | refine callN_flat (by with_reducible first | exact c_sinV _ hok.1) rfl ?_ | refine callN_new (by with_reducible first | exact c_sinV _ hok.1) ?_ | refine callM_flat (by with_reducible first | exact c_sinV _ hok.1) rfl ?_ | refine callM_new (by with_reducible first | exact c_sinV _ hok.1) ?_)
      simp
      (first | refine callG_r ?_ | refine callD_r ?_); simp; (first | refine callN_flat (by with_reducible first | exact c_sinV _ hok.2) rfl ?_ | refine callN_new (by with_reducible first | exact c_sinV _ hok.2) ?_ | refine callM_flat (by with_reducible first | exact c_sinV _ hok.2) rfl ?_ | refine callM_new (by with_reducible first | exact c_sinV _ hok.2) ?_)
      simp [hwx, one_spliceV, one_takeV]
      refine ⟨by omega, by omega, loopK_next (x + 1) (by omega) (by omega) ?_⟩
      rw [hst, plR]
      (refine weak_gc [(some 0, 0), (some 1, 0), (some 5, 0)] ?_ ?_ ?_ ?_ ?_ <;> simp)
    · obtain rfl : x = s := by omega
      simp [hwy]
      refine loopK_next (y + 1) (by omega) (by omega) ?_
      rw [gr_row]
      (refine weak_gc [(some 0, 0), (some 1, 0), (some 2, 0)] ?_ ?_ ?_ ?_ ?_ <;> simp)
  · obtain rfl : y = h + 1 := by omega
    have b' : ¬ ((h : Int) + 1 ≤ h) := by omega
    simp [b']
    refine loopG_of (α := Nat) (fun y => y ≤ h) (fun y => h - y) (fun y => [(14, .int .i64 y), (9, .ptr 1 0), (8, .ptr 0 0), (0, .int .i64 s), (1, .int .i64 h), (2, .flt .f32 a), (3, .flt .f32 b)])
      (fun y => tHeap (rPl s h a b) (gr (trR s) s y 0)) 0 (by simp) ?_ fun y hy => ?_
    · (refine weak_gc [(some 0, 0), (some 1, 0), (some 2, 0), (none, 36)] ?_ ?_ ?_ ?_ ?_ <;> simp [gr_zero])
    have hwy := nat_wrap (k := y) (by omega)
    by_cases b0 : y < h
    · have b' : (y : Int) < h := by omega
      simp [b', b0, hwy]
      refine loopG_of (α := Nat) (fun x => x ≤ s) (fun x => s - x) (fun x => [(15, .int .i64 x), (14, .int .i64 y), (9, .ptr 1 0), (8, .ptr 0 0), (0, .int .i64 s), (1, .int .i64 h), (2, .flt .f32 a), (3, .flt .f32 b)])
        (fun x => tHeap (rPl s h a b) (gr (trR s) s y x)) 0 (by simp) ?_ fun x hx => ?_
      · (refine weak_gc [(some 0, 0), (some 1, 0), (some 2, 0), (some 3, 0)] ?_ ?_ ?_ ?_ ?_ <;> simp)
      have hwx := nat_wrap (k := x) (by omega)
      by_cases b2 : x < s
      · have b2' : (x : Int) < s := by omega
        have hl : (gr (trR s) s y x).length = y * (s * 2) + x * 2 := gr_len (c := 2) _ _ _ fun _ _ => rfl
        have hl2 : y * (s * 2) ≤ 50 := Nat.le_trans (Nat.mul_le_mul (show y ≤ 5 by omega) (show s * 2 ≤ 10 by omega)) (by decide)
        have hst := gr_step (trR s) s y x
        have hP : s * y ≤ 25 := Nat.mul_le_mul s2 (show y ≤ 5 by omega)
        have hp : (s : Int) * (y : Int) = ((s * y : Nat) : Int) := by simp
        have hA : IntKind.i64.wrap ((s : Int) * (y : Int)) = (s : Int) * (y : Int) := by rw [hp]; exact wrap64 (by omega) (by omega)
        have hB : IntKind.i64.wrap ((x : Int) + (s : Int) * (y : Int)) = ixR s y x := by unfold ixR; rw [hp]; exact wrap64 (by omega) (by omega)
        have hix : ixR s y x = ((x + s * y : Nat) : Int) := ixR_nat _ _ _
        have hjx : jxR s y x = (((x + 1) % s + s * y : Nat) : Int) := jxR_nat _ _ _
        have hml : (x + 1) % s < s := Nat.mod_lt _ (by omega)
        have ej : ((x : Int) + 1).tmod s = (((x + 1) % s : Nat) : Int) := rfl
        have ej2 : ((x : Int) + 1).tmod s + (s : Int) * (y : Int) = jxR s y x := by rw [ej]; rfl
        have hJ : IntKind.i64.wrap (jxR s y x) = jxR s y x := by rw [hjx]; exact wrap64 (by omega) (by omega)
        have hC : IntKind.i64.wrap (ixR s y x + s) = ixR s y x + s := by rw [hix]; exact wrap64 (by omega) (by omega)
        have hD : IntKind.i64.wrap (jxR s y x + s) = jxR s y x + s := by rw [hjx]; exact wrap64 (by omega) (by omega)
        have hs0 : ¬ (s : Int) = 0 := by omega
        have hs0' : ¬ s = 0 := by omega
        have hE : IntKind.i64.wrap (((x : Int) + 1).tmod s + (s : Int) * (y : Int)) = jxR s y x := by rw [ej2]; exact hJ
        simp [b2', b2, hwx, hA, hB, hs0, hs0', hE, hC, hD]
        have hcl : cRs true (gr (trR s) s y (x + 1)) = cRs true (gr (trR s) s y x) ++ [.view true (cIs [ixR s y x, jxR s y x, jxR s y x + s]) 3, .view true (cIs [ixR s y x, jxR s y x + s, ixR s y x + s]) 3] := by rw [hst, ← cRs_append]; rfl
        have hll : (gr (trR s) s y (x + 1)).length = (gr (trR s) s y x).length + 2 := by rw [hst, List.length_append]; rfl
        refine ⟨by omega, by omega, loopK_next (x + 1) (by omega) (by omega) ?_⟩
        (refine weak_gc [(some 0, 0), (some 1, 0), (some 2, 0), (some 7, 0)] ?_ ?_ ?_ ?_ ?_ <;> simp [hcl, hll])
      · obtain rfl : x = s := by omega
        simp [hwy]
        refine loopK_next (y + 1) (by omega) (by omega) ?_
        rw [gr_row]
        (refine weak_gc [(some 0, 0), (some 1, 0), (some 2, 0), (some 3, 0)] ?_ ?_ ?_ ?_ ?_ <;> simp)
    · obtain rfl : y = h := by omega
      simp
      (refine endG_keepT [(some 2, 0), (some 3, 0)] ?_ ?_ ?_ ?_ ?_ ?_ ?_ ⟨rfl, rfl⟩ ?_ <;> simp)
theorem c_l02Ball0 (a : Nat) : FnSpec Tryz.prog 97 [.int .i64 0, .flt .f32 a] [] fun av H => ∃ P : List V, P.length = 6 ∧ av = .agg [.slc 0 0 6 3, .slc 1 0 8 1] ∧ H = [.blk true false 32 (cVs P), .blk true false 36 (cRs true [[0, 2, 4], [2, 1, 4], [1, 3, 4], [3, 0, 4], [2, 0, 5], [1, 2, 5], [3, 1, 5], [0, 3, 5]])] := by
  refine FnSpec.walk dr_ok Tryz.func97 rfl (by kernel_rfl) rfl rfl rfl (by simp) ?_
  simp [cVs, splice, eV]
  refine endG_keepT (r := .agg [.slc 0 0 6 3, .slc 1 0 8 1]) (Hout := [.blk true false 32 (cVs [(a, 0, 0), (fneg .f32 a, 0, 0), (0, a, 0), (0, fneg .f32 a, 0), (0, 0, a), (0, 0, fneg .f32 a)]), .blk true false 36 (cRs true [[0, 2, 4], [2, 1, 4], [1, 3, 4], [3, 0, 4], [2, 0, 5], [1, 2, 5], [3, 1, 5], [0, 3, 5]])]) [(some 1, 0), (some 11, 0)] ?_ ?_ ?_ ?_ ?_ ?_ ?_ ⟨_, rfl, rfl, rfl⟩ ?_ <;> simp [cRs, cVs, eV, cIs]
theorem c_BoxMesh (a : Nat) (ha : overB a = true) : FnSpec Tryz.prog 96 [.flt .f32 a] [] fun av H => ∃ P : List V, P.length = 8 ∧ av = .tup [.agg [.slc 0 0 8 3, .slc 1 0 12 1], .bool true] ∧ H = [.blk true false 32 (cVs P), .blk true false 36 (cRs true [[0, 2, 3], [0, 3, 1], [4, 5, 7], [4, 7, 6], [0, 1, 5], [0, 5, 4], [2, 6, 7], [2, 7, 3], [0, 4, 6], [0, 6, 2], [1, 3, 7], [1, 7, 5]])] := by
  refine FnSpec.walk dr_ok Tryz.func96 rfl (by kernel_rfl) rfl rfl rfl (by simp) ?_
  simp
  (first | refine callG_r ?_ | refine callD_r ?_); simp; (first | refine callN_flat (by with_reducible first | exact c_l02Size _) rfl ?_ | refine callN_new (by with_reducible first | exact c_l02Size _) ?_ | refine callM_flat (by with_reducible first | exact c_l02Size _) rfl ?_ | refine callM_new (by with_reducible first | exact c_l02Size _) ?_)
  simp [ha]
  refine loopG_of (α := List V) (fun L => L.length ≤ 8) (fun L => 8 - L.length) (fun L => [(5, .int .i64 L.length), (4, .ptr 1 0), (2, .ptr 0 0), (3, .bool false), (0, .flt .f32 a)])
    (fun L => gHeap L) [] (by simp) ?_ fun L hL => ?_
  · (refine weak_gc [(some 0, 0), (some 1, 0), (none, 32)] ?_ ?_ ?_ ?_ ?_ <;> simp [gr_zero])
  have hw := nat_wrap (k := L.length) (by omega)
  by_cases b : L.length < 8
  · have b' : (L.length : Int) < 8 := by omega
    by_cases g1 : bitsV .and .i64 (L.length : Int) 1 = 1 <;> by_cases g2 : bitsV .and .i64 (L.length : Int) 2 = 2 <;> by_cases g3 : bitsV .and .i64 (L.length : Int) 4 = 4 <;> simp [b, b', hw, g1, g2, g3, one_spliceV, one_takeV]
    all_goals
      refine ⟨by omega, by omega, loopK_next (L ++ [(if bitsV .and .i64 (L.length : Int) 1 = 1 then a else 0, if bitsV .and .i64 (L.length : Int) 2 = 2 then a else 0, if bitsV .and .i64 (L.length : Int) 4 = 4 then a else 0)]) (by simp; omega) (by simp; omega) ?_⟩
      (refine weak_gc [(some 0, 0), (some 1, 0), (some 5, 0)] ?_ ?_ ?_ ?_ ?_ <;> simp [g1, g2, g3])
  · have b' : L.length = 8 := by omega
    simp [b']
    refine endG_keepT (r := .tup [.agg [.slc 0 0 8 3, .slc 1 0 12 1], .bool true]) (Hout := [.blk true false 32 (cVs L), .blk true false 36 (cRs true [[0, 2, 3], [0, 3, 1], [4, 5, 7], [4, 7, 6], [0, 1, 5], [0, 5, 4], [2, 6, 7], [2, 7, 3], [0, 4, 6], [0, 6, 2], [1, 3, 7], [1, 7, 5]])]) [(some 2, 0), (some 15, 0)] ?_ ?_ ?_ ?_ ?_ ?_ ?_ ⟨L, b', rfl, rfl⟩ ?_ <;> simp [cRs]
end Go.Proofs.YtnjpigkijdnpkaaGreat
