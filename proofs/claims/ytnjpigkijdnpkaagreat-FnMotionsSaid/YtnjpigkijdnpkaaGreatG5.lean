/- Contracts: the reader of choices, what it gives told beforehand. Contracts: meshes drawn. Contracts: bodies drawn.
Conditions: none. -/
import Derived.Test.YtnjpigkijdnpkaaGreatG4
import Derived.Test.YtnjpigkijdnpkaaGreatG3
namespace Go.Proofs.YtnjpigkijdnpkaaGreat
set_option linter.all false
open Go Go.Awp
set_option maxRecDepth 100000
set_option maxHeartbeats 4000000
set_option pp.deepTerms true

/-- A draw whose outcome is settled by the bytes, the place, and the seed. -/
def Dt (f : FuncId) (as_ : List AV) (l : List Nat) (k : Nat) (seed : Int) (inc : Nat) (Q : AV → Prop) : Prop := ∃ (av : AV) (k' : Nat) (s' : Int), Fun Tryz.prog f (.ptr 0 0 :: as_) [rd false l k seed] av [rd false l k' s'] ∧ k' ≤ k + inc ∧ Q av
def nxS (seed c : Int) : Int := IntKind.u64.wrap (IntKind.u64.wrap (IntKind.u64.wrap (seed * 6364136223846793005) + IntKind.u64.wrap c) + 1442695040888963407)
theorem d_next (l : List Nat) (k : Nat) (seed : Int) (hl : l.length ≤ 1048576) (hb : ∀ b ∈ l, b < 256) (hk : k < 1000000000000) :
    Dt 74 [] l k seed 1 (QI 256) := by
  have hw := nat_wrap (k := k) (by omega)
  by_cases b : k < l.length
  · have hx := hb _ (List.getElem_mem b)
    have hx2 : IntKind.i64.wrap ((l[k] : Nat) : Int) = ((l[k] : Nat) : Int) := wrap64 (by omega) (by omega)
    have h1 : (k : Int) + 1 ≤ l.length := by omega
    have h2 : k + 1 ≤ l.length := by omega
    refine ⟨.int .i64 (l[k] : Nat), k + 1, nxS seed (l[k] : Nat), ?_, by omega, _, hx, rfl⟩
    refine FnSpec.walk dr_ok Tryz.func74 rfl (by kernel_rfl) rfl rfl rfl (by simp) ?_
    simp [b, hw, hx2, h1, h2]
    refine endG_keepT (r := .int .i64 (l[k] : Nat)) (Hout := [rd false l (k + 1) (nxS seed (l[k] : Nat))]) [] ?_ ?_ ?_ ?_ ?_ ?_ ?_ ⟨rfl, rfl⟩ ?_ <;> simp [nxS]
  · have h1 : ¬ (k : Int) + 1 ≤ l.length := by omega
    have h2 : ¬ k + 1 ≤ l.length := by omega
    obtain ⟨x, hx, e⟩ := and255 (Int.fdiv (nxS seed 0) (2 ^ min 40 IntKind.u64.bits))
    have e2 : IntKind.i64.wrap ((x : Nat) : Int) = x := wrap64 (by omega) (by omega)
    refine ⟨.int .i64 x, k + 1, nxS seed 0, ?_, by omega, _, hx, rfl⟩
    refine FnSpec.walk dr_ok Tryz.func74 rfl (by kernel_rfl) rfl rfl rfl (by simp) ?_
    simp [b, hw, h1, h2]
    change bitsV .and .u64 (Int.fdiv (IntKind.u64.wrap (IntKind.u64.wrap (IntKind.u64.wrap (seed * 6364136223846793005) + IntKind.u64.wrap 0) + 1442695040888963407)) (2 ^ min 40 IntKind.u64.bits)) 255 = (x : Int) at e
    simp only [e, e2]
    refine endG_keepT (r := .int .i64 x) (Hout := [rd false l (k + 1) (nxS seed 0)]) [] ?_ ?_ ?_ ?_ ?_ ?_ ?_ ⟨rfl, rfl⟩ ?_ <;> simp [nxS]
theorem d_pick (l : List Nat) (k : Nat) (m : Int) (n : Nat) (seed : Int) (hm : m = n) (hl : l.length ≤ 1048576) (hb : ∀ b ∈ l, b < 256) (hk : k + 2 < 1000000000000) (h1 : 1 < n) (h2 : n ≤ 65536) :
    Dt 38 [.int .i64 m] l k seed 2 (QI n) := by
  subst hm
  have h1' : ¬ (n : Int) ≤ 1 := by omega
  have hr : ∀ x : Nat, (x : Int).tmod n = ((x % n : Nat) : Int) := fun x => rfl
  obtain ⟨_, k1, s1, hc, hk1, x, hx, rfl⟩ := d_next l k seed hl hb (by omega)
  by_cases c : 200 < n
  · obtain ⟨_, k2, s2, hc2, hk2, y, hy, rfl⟩ := d_next l k1 s1 hl hb (by omega)
    have c' : (200 : Int) < n := by omega
    have c'' : ¬ (n : Int) ≤ 200 := by omega
    have hm : IntKind.i64.wrap ((x : Int) * 256) = ((x * 256 : Nat) : Int) := by rw [wrap64 (by omega) (by omega)]; simp
    have ha : IntKind.i64.wrap ((x : Int) * 256 + (y : Int)) = ((x * 256 + y : Nat) : Int) := by rw [wrap64 (by omega) (by omega)]; simp
    have e : ((x : Int) * 256 + (y : Int)).tmod n = (((x * 256 + y) % n : Nat) : Int) := by rw [show ((x : Int) * 256 + (y : Int)) = ((x * 256 + y : Nat) : Int) by simp]; rfl
    refine ⟨.int .i64 ((x * 256 + y) % n : Nat), k2, s2, ?_, by omega, _, Nat.mod_lt _ (by omega), rfl⟩
    refine FnSpec.walk dr_ok Tryz.func38 rfl (by kernel_rfl) rfl rfl rfl (by simp) ?_
    simp [h1']
    (first | refine callG_on false [0] ?_ | refine callD_on false [0] ?_); simp; (first | refine callN_fun (by with_reducible exact hc) (by simp) ?_ | refine callMD_fun (by with_reducible exact hc) (by simp) ?_)
    simp [c', c'', hm]
    (first | refine callG_on false [0] ?_ | refine callD_on false [0] ?_); simp; (first | refine callN_fun (by with_reducible exact hc2) (by simp) ?_ | refine callMD_fun (by with_reducible exact hc2) (by simp) ?_)
    simp [hm, ha, e]
    refine ⟨by omega, endG_keepT (r := .int .i64 ((x * 256 + y) % n : Nat)) (Hout := [rd false l k2 s2]) [] ?_ ?_ ?_ ?_ ?_ ?_ ?_ ⟨rfl, rfl⟩ ?_⟩ <;> simp
  · have c' : ¬ (200 : Int) < n := by omega
    have c'' : (n : Int) ≤ 200 := by omega
    refine ⟨.int .i64 (x % n : Nat), k1, s1, ?_, by omega, _, Nat.mod_lt _ (by omega), rfl⟩
    refine FnSpec.walk dr_ok Tryz.func38 rfl (by kernel_rfl) rfl rfl rfl (by simp) ?_
    simp [h1']
    (first | refine callG_on false [0] ?_ | refine callD_on false [0] ?_); simp; (first | refine callN_fun (by with_reducible exact hc) (by simp) ?_ | refine callMD_fun (by with_reducible exact hc) (by simp) ?_)
    simp [c', c'', hr]
    refine ⟨by omega, endG_keepT (r := .int .i64 (x % n : Nat)) (Hout := [rd false l k1 s1]) [] ?_ ?_ ?_ ?_ ?_ ?_ ?_ ⟨rfl, rfl⟩ ?_⟩ <;> simp
theorem d_one (l : List Nat) (k : Nat) (m : Int) (n : Nat) (seed : Int) (hm : m = n) (hl : l.length ≤ 1048576) (hb : ∀ b ∈ l, b < 256) (hk : k + 2 < 1000000000000) (h1 : 1 < n) (h2 : n ≤ 65536) :
    Dt 99 [.int .i64 m] l k seed 2 QB := by
  obtain ⟨_, k1, s1, hc, hk1, x, hx, rfl⟩ := d_pick l k m n seed hm hl hb hk h1 h2
  refine ⟨.bool ((x : Int) == 0), k1, s1, ?_, by omega, _, rfl⟩
  refine FnSpec.walk dr_ok Tryz.func99 rfl (by kernel_rfl) rfl rfl rfl (by simp) ?_
  simp
  (first | refine callG_on false [0] ?_ | refine callD_on false [0] ?_); simp; (first | refine callN_fun (by with_reducible exact hc) (by simp) ?_ | refine callMD_fun (by with_reducible exact hc) (by simp) ?_)
  simp
  refine endG_keepT (r := .bool ((x : Int) == 0)) (Hout := [rd false l k1 s1]) [] ?_ ?_ ?_ ?_ ?_ ?_ ?_ ⟨rfl, rfl⟩ ?_ <;> simp
theorem d_among (l : List Nat) (k : Nat) (xs : List Int) (m : Nat) (seed : Int) (hl : l.length ≤ 1048576) (hb : ∀ b ∈ l, b < 256) (hk : k + 2 < 1000000000000) (hm : m = xs.length) (h1 : 1 < m) (h2 : m ≤ 65536) :
    ∃ (k' : Nat) (s' x : Int), Fun Tryz.prog 155 [.ptr 0 0, .slc 1 0 m 1] [rd false l k seed, .blk false false 2 (cIs xs)] (.int .i64 x) [rd false l k' s', .blk false false 2 (cIs xs)] ∧ k' ≤ k + 2 ∧ x ∈ xs := by
  subst hm
  obtain ⟨_, k1, s1, hc, hk1, x, hx, rfl⟩ := d_pick l k xs.length xs.length seed rfl hl hb hk h1 h2
  refine ⟨k1, s1, xs[x], ?_, hk1, List.getElem_mem hx⟩
  refine FnSpec.walk dr_ok Tryz.func155 rfl (by kernel_rfl) rfl rfl rfl (by simp) ?_
  simp
  (first | refine callG_on false [0] ?_ | refine callD_on false [0] ?_); simp; (first | refine callN_fun (by with_reducible exact hc) (by simp) ?_ | refine callMD_fun (by with_reducible exact hc) (by simp) ?_)
  simp [hx]
  refine endG_keepT (r := .int .i64 xs[x]) (Hout := [rd false l k1 s1, .blk false false 2 (cIs xs)]) [] ?_ ?_ ?_ ?_ ?_ ?_ ?_ ⟨rfl, rfl⟩ ?_ <;> simp
theorem d_DrawPlain (l : List Nat) (k : Nat) (seed : Int) (hl : l.length ≤ 1048576) (hb : ∀ b ∈ l, b < 256) (hk : k + 4 < 1000000000000) :
    Dt 153 [] l k seed 4 QF := by
  obtain ⟨_, k1, s1, hc, hk1, x, hx, rfl⟩ := d_pick l k 129 129 seed rfl hl hb (by omega) (by omega) (by omega)
  obtain ⟨_, k2, s2, hc2, hk2, b, rfl⟩ := d_one l k1 4 4 s1 rfl hl hb (by omega) (by omega) (by omega)
  refine ⟨.flt .f32 (if b then fop .quo .f32 (fint .f32 ((x : Int) - 64)) 1088421888 else fop .quo .f32 (fint .f32 ((x : Int) - 64)) 1098907648), k2, s2, ?_, by omega, _, by split <;> exact canF_fop _ _ _, rfl⟩
  have hw : IntKind.i64.wrap ((x : Int) - 64) = (x : Int) - 64 := wrap64 (by omega) (by omega)
  refine FnSpec.walk dr_ok Tryz.func153 rfl (by kernel_rfl) rfl rfl rfl (by simp) ?_
  simp
  (first | refine callG_on false [0] ?_ | refine callD_on false [0] ?_); simp; (first | refine callN_fun (by with_reducible exact hc) (by simp) ?_ | refine callMD_fun (by with_reducible exact hc) (by simp) ?_)
  simp [hw]
  (first | refine callG_on false [0] ?_ | refine callD_on false [0] ?_); simp; (first | refine callN_fun (by with_reducible exact hc2) (by simp) ?_ | refine callMD_fun (by with_reducible exact hc2) (by simp) ?_)
  cases b
  · simp [hw]
    refine endG_keepT (r := .flt .f32 (fop .quo .f32 (fint .f32 ((x : Int) - 64)) 1098907648)) (Hout := [rd false l k2 s2]) [] ?_ ?_ ?_ ?_ ?_ ?_ ?_ ⟨rfl, rfl⟩ ?_ <;> simp
  · simp [hw]
    refine endG_keepT (r := .flt .f32 (fop .quo .f32 (fint .f32 ((x : Int) - 64)) 1088421888)) (Hout := [rd false l k2 s2]) [] ?_ ?_ ?_ ?_ ?_ ?_ ?_ ⟨rfl, rfl⟩ ?_ <;> simp
theorem d_DrawFloat (l : List Nat) (k : Nat) (seed : Int) (hl : l.length ≤ 1048576) (hb : ∀ b ∈ l, b < 256) (hk : k + 20 < 1000000000000) :
    Dt 134 [] l k seed 12 QF := by
  obtain ⟨_, k1, s1, hc1, hk1, b, rfl⟩ := d_one l k 12 12 seed rfl hl hb (by omega) (by omega) (by omega)
  cases b
  · obtain ⟨_, k2, s2, hc2, hk2, y, hy, rfl⟩ := d_DrawPlain l k1 s1 hl hb (by omega)
    refine ⟨.flt .f32 y, k2, s2, ?_, by omega, y, hy, rfl⟩
    refine FnSpec.walk dr_ok Tryz.func134 rfl (by kernel_rfl) rfl rfl rfl (by simp) ?_
    simp
    (first | refine callG_on false [0] ?_ | refine callD_on false [0] ?_); simp; (first | refine callN_fun (by with_reducible exact hc1) (by simp) ?_ | refine callMD_fun (by with_reducible exact hc1) (by simp) ?_)
    simp
    (first | refine callG_on false [0] ?_ | refine callD_on false [0] ?_); simp; (first | refine callN_fun (by with_reducible exact hc2) (by simp) ?_ | refine callMD_fun (by with_reducible exact hc2) (by simp) ?_)
    simp
    refine endG_keepT (r := .flt .f32 y) (Hout := [rd false l k2 s2]) [] ?_ ?_ ?_ ?_ ?_ ?_ ?_ ⟨rfl, rfl⟩ ?_ <;> simp
  · obtain ⟨_, k2, s2, hc2, hk2, x, hx, rfl⟩ := d_pick l k1 4 4 s1 rfl hl hb (by omega) (by omega) (by omega)
    have hx4 : x = 0 ∨ x = 1 ∨ x = 2 ∨ x = 3 := by omega
    rcases hx4 with rfl | rfl | rfl | rfl
    · obtain ⟨k3, s3, x, hc3, hk3, hx⟩ := d_among l k2 [0, 2147483648, 2139095040, 4286578688, 2143289344, 1, 2139095039, 8388608, 8388607, 2147483649] 10 s2 hl hb (by omega) rfl (by omega) (by omega)
      have hall : ∀ y ∈ [(0 : Int), 2147483648, 2139095040, 4286578688, 2143289344, 1, 2139095039, 8388608, 8388607, 2147483649], 0 ≤ y ∧ y < 4294967296 := by decide
      obtain ⟨h1, h2⟩ := hall x hx
      obtain ⟨n, rfl⟩ := Int.eq_ofNat_of_zero_le h1
      have hn : n < 4294967296 := by omega
      refine ⟨.flt .f32 (cn .f32 n), k3, s3, ?_, by omega, _, canF_cn hn, rfl⟩
      refine FnSpec.walk dr_ok Tryz.func134 rfl (by kernel_rfl) rfl rfl rfl (by simp) ?_
      simp
      (first | refine callG_on false [0] ?_ | refine callD_on false [0] ?_); simp; (first | refine callN_fun (by with_reducible exact hc1) (by simp) ?_ | refine callMD_fun (by with_reducible exact hc1) (by simp) ?_)
      simp
      (first | refine callG_on false [0] ?_ | refine callD_on false [0] ?_); simp; (first | refine callN_fun (by with_reducible exact hc2) (by simp) ?_ | refine callMD_fun (by with_reducible exact hc2) (by simp) ?_)
      simp
      (first | refine callG_on false [0, 1] ?_ | refine callD_on false [0, 1] ?_); simp; (first | refine callN_fun (by with_reducible exact hc3) (by simp) ?_ | refine callMD_fun (by with_reducible exact hc3) (by simp) ?_)
      simp
      (first | refine callG_r ?_ | refine callD_r ?_); simp; (first | refine callN_flat (by with_reducible first | exact c_l01From hn) rfl ?_ | refine callN_new (by with_reducible first | exact c_l01From hn) ?_ | refine callM_flat (by with_reducible first | exact c_l01From hn) rfl ?_ | refine callM_new (by with_reducible first | exact c_l01From hn) ?_)
      simp
      refine endG_keepT (r := .flt .f32 (cn .f32 n)) (Hout := [rd false l k3 s3]) [] ?_ ?_ ?_ ?_ ?_ ?_ ?_ ⟨rfl, rfl⟩ ?_ <;> simp
    · obtain ⟨_, k3, s3, hc3, hk3, x, hx, rfl⟩ := d_pick l k2 65536 65536 s2 rfl hl hb (by omega) (by omega) (by omega)
      obtain ⟨_, k4, s4, hc4, hk4, y, hy, rfl⟩ := d_pick l k3 65536 65536 s3 rfl hl hb (by omega) (by omega) (by omega)
      have hm : IntKind.i64.wrap ((x : Int) * 65536) = ((x * 65536 : Nat) : Int) := by rw [wrap64 (by omega) (by omega)]; simp
      have ha : IntKind.i64.wrap ((x : Int) * 65536 + (y : Int)) = ((x * 65536 + y : Nat) : Int) := by rw [wrap64 (by omega) (by omega)]; simp
      have hn : x * 65536 + y < 4294967296 := by omega
      have hc := c_l01From hn
      rw [show ((x * 65536 + y : Nat) : Int) = (x : Int) * 65536 + (y : Int) by simp] at hc
      refine ⟨.flt .f32 (cn .f32 (x * 65536 + y)), k4, s4, ?_, by omega, _, canF_cn hn, rfl⟩
      refine FnSpec.walk dr_ok Tryz.func134 rfl (by kernel_rfl) rfl rfl rfl (by simp) ?_
      simp
      (first | refine callG_on false [0] ?_ | refine callD_on false [0] ?_); simp; (first | refine callN_fun (by with_reducible exact hc1) (by simp) ?_ | refine callMD_fun (by with_reducible exact hc1) (by simp) ?_)
      simp
      (first | refine callG_on false [0] ?_ | refine callD_on false [0] ?_); simp; (first | refine callN_fun (by with_reducible exact hc2) (by simp) ?_ | refine callMD_fun (by with_reducible exact hc2) (by simp) ?_)
      simp
      (first | refine callG_on false [0] ?_ | refine callD_on false [0] ?_); simp; (first | refine callN_fun (by with_reducible exact hc3) (by simp) ?_ | refine callMD_fun (by with_reducible exact hc3) (by simp) ?_)
      simp
      (first | refine callG_on false [0] ?_ | refine callD_on false [0] ?_); simp; (first | refine callN_fun (by with_reducible exact hc4) (by simp) ?_ | refine callMD_fun (by with_reducible exact hc4) (by simp) ?_)
      simp [hm, ha]
      (first | refine callG_r ?_ | refine callD_r ?_); simp; (first | refine callN_flat (by with_reducible first | exact hc) rfl ?_ | refine callN_new (by with_reducible first | exact hc) ?_ | refine callM_flat (by with_reducible first | exact hc) rfl ?_ | refine callM_new (by with_reducible first | exact hc) ?_)
      simp
      refine endG_keepT (r := .flt .f32 (cn .f32 (x * 65536 + y))) (Hout := [rd false l k4 s4]) [] ?_ ?_ ?_ ?_ ?_ ?_ ?_ ⟨rfl, rfl⟩ ?_ <;> simp
    · obtain ⟨_, k3, s3, hc3, hk3, x, hx, rfl⟩ := d_pick l k2 65536 65536 s2 rfl hl hb (by omega) (by omega) (by omega)
      have hm : IntKind.i64.wrap ((x : Int) * 65536) = ((x * 65536 : Nat) : Int) := by rw [wrap64 (by omega) (by omega)]; simp
      have hn : x * 65536 < 4294967296 := by omega
      have hc := c_l01From hn
      rw [show ((x * 65536 : Nat) : Int) = (x : Int) * 65536 by simp] at hc
      refine ⟨.flt .f32 (cn .f32 (x * 65536)), k3, s3, ?_, by omega, _, canF_cn hn, rfl⟩
      refine FnSpec.walk dr_ok Tryz.func134 rfl (by kernel_rfl) rfl rfl rfl (by simp) ?_
      simp
      (first | refine callG_on false [0] ?_ | refine callD_on false [0] ?_); simp; (first | refine callN_fun (by with_reducible exact hc1) (by simp) ?_ | refine callMD_fun (by with_reducible exact hc1) (by simp) ?_)
      simp
      (first | refine callG_on false [0] ?_ | refine callD_on false [0] ?_); simp; (first | refine callN_fun (by with_reducible exact hc2) (by simp) ?_ | refine callMD_fun (by with_reducible exact hc2) (by simp) ?_)
      simp
      (first | refine callG_on false [0] ?_ | refine callD_on false [0] ?_); simp; (first | refine callN_fun (by with_reducible exact hc3) (by simp) ?_ | refine callMD_fun (by with_reducible exact hc3) (by simp) ?_)
      simp [hm]
      (first | refine callG_r ?_ | refine callD_r ?_); simp; (first | refine callN_flat (by with_reducible first | exact hc) rfl ?_ | refine callN_new (by with_reducible first | exact hc) ?_ | refine callM_flat (by with_reducible first | exact hc) rfl ?_ | refine callM_new (by with_reducible first | exact hc) ?_)
      simp
      refine endG_keepT (r := .flt .f32 (cn .f32 (x * 65536))) (Hout := [rd false l k3 s3]) [] ?_ ?_ ?_ ?_ ?_ ?_ ?_ ⟨rfl, rfl⟩ ?_ <;> simp
    · obtain ⟨_, k3, s3, hc3, hk3, z, hz, rfl⟩ := d_DrawPlain l k2 s2 hl hb (by omega)
      obtain ⟨k4, s4, x, hc4, hk4, hx⟩ := d_among l k3 [8388608, 2130706432, 1610612736, 536870912] 4 s3 hl hb (by omega) rfl (by omega) (by omega)
      have hall : ∀ y ∈ [(8388608 : Int), 2130706432, 1610612736, 536870912], 0 ≤ y ∧ y < 4294967296 := by decide
      obtain ⟨h1, h2⟩ := hall x hx
      obtain ⟨n, rfl⟩ := Int.eq_ofNat_of_zero_le h1
      have hn : n < 4294967296 := by omega
      refine ⟨.flt .f32 (fop .mul .f32 z (cn .f32 n)), k4, s4, ?_, by omega, _, canF_fop _ _ _, rfl⟩
      refine FnSpec.walk dr_ok Tryz.func134 rfl (by kernel_rfl) rfl rfl rfl (by simp) ?_
      simp
      (first | refine callG_on false [0] ?_ | refine callD_on false [0] ?_); simp; (first | refine callN_fun (by with_reducible exact hc1) (by simp) ?_ | refine callMD_fun (by with_reducible exact hc1) (by simp) ?_)
      simp
      (first | refine callG_on false [0] ?_ | refine callD_on false [0] ?_); simp; (first | refine callN_fun (by with_reducible exact hc2) (by simp) ?_ | refine callMD_fun (by with_reducible exact hc2) (by simp) ?_)
      simp
      (first | refine callG_on false [0] ?_ | refine callD_on false [0] ?_); simp; (first | refine callN_fun (by with_reducible exact hc3) (by simp) ?_ | refine callMD_fun (by with_reducible exact hc3) (by simp) ?_)
      simp
      (first | refine callG_on false [0, 1] ?_ | refine callD_on false [0, 1] ?_); simp; (first | refine callN_fun (by with_reducible exact hc4) (by simp) ?_ | refine callMD_fun (by with_reducible exact hc4) (by simp) ?_)
      simp
      (first | refine callG_r ?_ | refine callD_r ?_); simp; (first | refine callN_flat (by with_reducible first | exact c_l01From hn) rfl ?_ | refine callN_new (by with_reducible first | exact c_l01From hn) ?_ | refine callM_flat (by with_reducible first | exact c_l01From hn) rfl ?_ | refine callM_new (by with_reducible first | exact c_l01From hn) ?_)
      simp
      refine endG_keepT (r := .flt .f32 (fop .mul .f32 z (cn .f32 n))) (Hout := [rd false l k4 s4]) [] ?_ ?_ ?_ ?_ ?_ ?_ ?_ ⟨rfl, rfl⟩ ?_ <;> simp
theorem d_DrawSmall (l : List Nat) (k : Nat) (seed : Int) (hl : l.length ≤ 1048576) (hb : ∀ b ∈ l, b < 256) (hk : k + 2 < 1000000000000) :
    Dt 133 [] l k seed 2 QF := by
  obtain ⟨_, k1, s1, hc, hk1, x, hx, rfl⟩ := d_pick l k 33 33 seed rfl hl hb (by omega) (by omega) (by omega)
  have hw : IntKind.i64.wrap ((x : Int) - 16) = (x : Int) - 16 := wrap64 (by omega) (by omega)
  refine ⟨.flt .f32 (fop .quo .f32 (fint .f32 ((x : Int) - 16)) 1082130432), k1, s1, ?_, by omega, _, canF_fop _ _ _, rfl⟩
  refine FnSpec.walk dr_ok Tryz.func133 rfl (by kernel_rfl) rfl rfl rfl (by simp) ?_
  simp
  (first | refine callG_on false [0] ?_ | refine callD_on false [0] ?_); simp; (first | refine callN_fun (by with_reducible exact hc) (by simp) ?_ | refine callMD_fun (by with_reducible exact hc) (by simp) ?_)
  simp [hw]
  refine endG_keepT (r := .flt .f32 (fop .quo .f32 (fint .f32 ((x : Int) - 16)) 1082130432)) (Hout := [rd false l k1 s1]) [] ?_ ?_ ?_ ?_ ?_ ?_ ?_ ⟨rfl, rfl⟩ ?_ <;> simp
theorem d_DrawVector (l : List Nat) (k : Nat) (seed : Int) (hl : l.length ≤ 1048576) (hb : ∀ b ∈ l, b < 256) (hk : k + 40 < 1000000000000) :
    Dt 98 [] l k seed 20 QV := by
  obtain ⟨_, k1, s1, hc1, hk1, x, hx, rfl⟩ := d_DrawSmall l k seed hl hb (by omega)
  obtain ⟨_, k2, s2, hc2, hk2, y, hy, rfl⟩ := d_DrawSmall l k1 s1 hl hb (by omega)
  obtain ⟨_, k3, s3, hc3, hk3, z, hz, rfl⟩ := d_DrawSmall l k2 s2 hl hb (by omega)
  obtain ⟨_, k4, s4, hc4, hk4, b, rfl⟩ := d_one l k3 30 30 s3 rfl hl hb (by omega) (by omega) (by omega)
  cases b
  · refine ⟨aV (x, y, z), k4, s4, ?_, by omega, _, rfl⟩
    refine FnSpec.walk dr_ok Tryz.func98 rfl (by kernel_rfl) rfl rfl rfl (by simp) ?_
    simp
    (first | refine callG_on false [0] ?_ | refine callD_on false [0] ?_); simp; (first | refine callN_fun (by with_reducible exact hc1) (by simp) ?_ | refine callMD_fun (by with_reducible exact hc1) (by simp) ?_)
    simp
    (first | refine callG_on false [0] ?_ | refine callD_on false [0] ?_); simp; (first | refine callN_fun (by with_reducible exact hc2) (by simp) ?_ | refine callMD_fun (by with_reducible exact hc2) (by simp) ?_)
    simp
    (first | refine callG_on false [0] ?_ | refine callD_on false [0] ?_); simp; (first | refine callN_fun (by with_reducible exact hc3) (by simp) ?_ | refine callMD_fun (by with_reducible exact hc3) (by simp) ?_)
    simp
    (first | refine callG_on false [0] ?_ | refine callD_on false [0] ?_); simp; (first | refine callN_fun (by with_reducible exact hc4) (by simp) ?_ | refine callMD_fun (by with_reducible exact hc4) (by simp) ?_)
    simp
    refine endG_keepT (r := aV (x, y, z)) (Hout := [rd false l k4 s4]) [] ?_ ?_ ?_ ?_ ?_ ?_ ?_ ⟨rfl, rfl⟩ ?_ <;> simp
  · obtain ⟨_, k5, s5, hc5, hk5, u, hu, rfl⟩ := d_DrawFloat l k4 s4 hl hb (by omega)
    refine ⟨aV (x, u, z), k5, s5, ?_, by omega, _, rfl⟩
    refine FnSpec.walk dr_ok Tryz.func98 rfl (by kernel_rfl) rfl rfl rfl (by simp) ?_
    simp
    (first | refine callG_on false [0] ?_ | refine callD_on false [0] ?_); simp; (first | refine callN_fun (by with_reducible exact hc1) (by simp) ?_ | refine callMD_fun (by with_reducible exact hc1) (by simp) ?_)
    simp
    (first | refine callG_on false [0] ?_ | refine callD_on false [0] ?_); simp; (first | refine callN_fun (by with_reducible exact hc2) (by simp) ?_ | refine callMD_fun (by with_reducible exact hc2) (by simp) ?_)
    simp
    (first | refine callG_on false [0] ?_ | refine callD_on false [0] ?_); simp; (first | refine callN_fun (by with_reducible exact hc3) (by simp) ?_ | refine callMD_fun (by with_reducible exact hc3) (by simp) ?_)
    simp
    (first | refine callG_on false [0] ?_ | refine callD_on false [0] ?_); simp; (first | refine callN_fun (by with_reducible exact hc4) (by simp) ?_ | refine callMD_fun (by with_reducible exact hc4) (by simp) ?_)
    simp
    (first | refine callG_on false [0] ?_ | refine callD_on false [0] ?_); simp; (first | refine callN_fun (by with_reducible exact hc5) (by simp) ?_ | refine callMD_fun (by with_reducible exact hc5) (by simp) ?_)
    simp
    refine endG_keepT (r := aV (x, u, z)) (Hout := [rd false l k5 s5]) [] ?_ ?_ ?_ ?_ ?_ ?_ ?_ ⟨rfl, rfl⟩ ?_ <;> simp
end Go.Proofs.YtnjpigkijdnpkaaGreat
namespace Go.Proofs.YtnjpigkijdnpkaaGreat
set_option linter.all false
open Go Go.Awp
set_option maxRecDepth 100000
set_option maxHeartbeats 8000000
set_option pp.deepTerms true

/-- What a reader leaves that has drawn a mesh. -/
def MshR (l : List Nat) (k inc : Nat) (av : AV) (H : Heap) : Prop := ∃ (k' : Nat) (seed : Int) (m : Msh), k' ≤ k + inc ∧ vldM m = true ∧ 4 ≤ m.pl.length ∧
  H = [rd false l k' seed, .blk true false 32 (cVs m.pl), .blk true false 36 (cRs true m.tr)] ∧ av = .agg [.slc 1 0 m.pl.length 3, .slc 2 0 m.tr.length 1]
theorem vld_mk {P : List V} {T : List (List Int)} (h1 : P.length ≤ 64) (h2 : T.length ≤ 128) (ht : ∀ t ∈ T, triB P.length t = true) : vldM ⟨P, T⟩ = true := by
  unfold vldM
  simp [h1, h2]
  exact ht
theorem vld64 {m : Msh} (h : vldM m = true) : m.pl.length ≤ 64 := by
  unfold vldM at h
  simp only [Bool.and_eq_true, decide_eq_true_eq] at h
  exact h.1.1
theorem over2 : overB 1073741824 = true := by decide +kernel
abbrev dHeap (l : List Nat) (k : Nat) (s : Int) (P : List V) (T : List (List Int)) : Heap := [rd false l k s, .blk true true 27 [.nils, .nils], .blk true true 27 [.slc 3 0 P.length 3, .slc 4 0 T.length 1], .blk true false 32 (cVs P), .blk true false 36 (cRs true T)]
abbrev eHeap (l : List Nat) (k : Nat) (s : Int) (P : List V) : Heap := [rd false l k s, .blk true true 27 [.nils, .nils], .blk true true 27 [.slc 3 0 P.length 3, .nils], .blk true false 32 (cVs P)]
attribute [simp] dHeap eHeap
theorem c_DrawOk (l : List Nat) (k : Nat) (seed : Int) (hl : l.length ≤ 1048576) (hb : ∀ b ∈ l, b < 256) (hk : k + 2000 < 1000000000000) :
    FnSpec Tryz.prog 73 [.ptr 0 0] [rd false l k seed] (MshR l k 1000) := by
  refine FnSpec.walk dr_ok Tryz.func73 rfl (by kernel_rfl) rfl rfl rfl (by simp) ?_
  simp
  refine callG_on false [0] ?_; simp; refine callN_all (by with_reducible exact c_pickL l k 6 6 seed rfl hl hb (by omega) (by omega) (by omega)) ?_; rintro _ _ ⟨k1, s1, hk1, rfl, x, hx, rfl⟩; refine ⟨fun e => (by cases e), ?_⟩; simp
  have hx5 : x = 0 ∨ x = 1 ∨ x = 2 ∨ x = 3 ∨ 4 ≤ x := by omega
  rcases hx5 with rfl | rfl | rfl | rfl | hx4
  · simp
    refine callG_on false [0] ?_; simp; refine callN_all (by with_reducible exact c_pickL l k1 3 3 s1 rfl hl hb (by omega) (by omega) (by omega)) ?_; rintro _ _ ⟨k2, s2, hk2, rfl, w, hw, rfl⟩; refine ⟨fun e => (by cases e), ?_⟩; simp
    refine callG_on false [0] ?_; simp; refine callN_all (by with_reducible exact c_pickL l k2 2 2 s2 rfl hl hb (by omega) (by omega) (by omega)) ?_; rintro _ _ ⟨k3, s3, hk3, rfl, h, hh, rfl⟩; refine ⟨fun e => (by cases e), ?_⟩; simp
    obtain ⟨w', hw'⟩ : ∃ w', w' = 1 + w := ⟨_, rfl⟩
    obtain ⟨h', hh'⟩ : ∃ h', h' = 1 + h := ⟨_, rfl⟩
    have e1 : IntKind.i64.wrap (1 + (w : Int)) = (w' : Int) := by rw [wrap64 (by omega) (by omega)]; omega
    have e2 : IntKind.i64.wrap (1 + (h : Int)) = (h' : Int) := by rw [wrap64 (by omega) (by omega)]; omega
    have hgo : GOk w' h' 1065353216 := ⟨by omega, by omega, by omega, by omega, Nat.le_trans (Nat.mul_le_mul (show w' + 1 ≤ 4 by omega) (show h' + 1 ≤ 3 by omega)) (by decide)⟩
    rw [e1, e2]
    (first | refine callG_r ?_ | refine callD_r ?_); simp; (first | refine callN_flat (by with_reducible first | exact c_l02Grid w' h' 1065353216 hgo) rfl ?_ | refine callN_new (by with_reducible first | exact c_l02Grid w' h' 1065353216 hgo) ?_ | refine callM_flat (by with_reducible first | exact c_l02Grid w' h' 1065353216 hgo) rfl ?_ | refine callM_new (by with_reducible first | exact c_l02Grid w' h' 1065353216 hgo) ?_)
    simp
    obtain ⟨P0, hP0⟩ : ∃ P0 : List V, P0 = gPl w' h' 1065353216 := ⟨_, rfl⟩
    obtain ⟨T0, hT0⟩ : ∃ T0 : List (List Int), T0 = gTr w' h' := ⟨_, rfl⟩
    have hv0 : vldM ⟨P0, T0⟩ = true := by subst hP0; subst hT0; exact vld_mk (gPl_le hgo) (gTr_le hgo) gTr_ok
    have hn4 : 4 ≤ P0.length := by subst hP0; rw [gPl_length]; exact Nat.le_trans (by decide) (Nat.mul_le_mul (show 2 ≤ h' + 1 by omega) (show 2 ≤ w' + 1 by omega))
    have hn64 : P0.length ≤ 64 := vld64 hv0
    refine loopG_of (α := Nat × Nat × Int × List V) (fun x => x.1 ≤ P0.length ∧ x.2.1 ≤ k3 + 10 * x.1 ∧ x.2.2.2.length = P0.length) (fun x => P0.length - x.1) (fun x => [(16, .int .i64 x.1), (0, .ptr 0 0), (2, .ptr 1 0), (3, .ptr 2 0)])
      (fun x => dHeap l x.2.1 x.2.2.1 x.2.2.2 T0) (0, k3, s3, P0) ⟨by simp, by simp, rfl⟩ ?_ fun x hx => ?_
    · subst hP0; subst hT0
      (refine weak_gc [(some 1, 0), (some 2, 0), (some 3, 0), (some 4, 0)] ?_ ?_ ?_ ?_ ?_ <;> simp)
    obtain ⟨i, kk, ss, P⟩ := x
    obtain ⟨hi, hkk, hPl⟩ := hx
    simp only at hi hkk hPl
    have hwi := nat_wrap (k := i) (by omega)
    by_cases c : i < P.length
    · have c' : (i : Int) < P.length := by omega
      have c3 : i * 3 + 3 ≤ P.length * 3 := by omega
      simp [c, c', hwi]
      refine callG_on false [0] ?_; simp; refine callN_all (by with_reducible exact c_oneL l kk 3 3 ss rfl hl hb (by omega) (by omega) (by omega)) ?_; rintro _ _ ⟨ka, sa, hka, rfl, b, rfl⟩; refine ⟨fun e => (by cases e), ?_⟩; simp
      refine ⟨fun e => ?_, fun e => ?_⟩
      · refine callG_on false [0] ?_; simp; refine callN_all (by with_reducible exact c_pickL l ka 5 5 sa rfl hl hb (by omega) (by omega) (by omega)) ?_; rintro _ _ ⟨kb, sb, hkb, rfl, u, hu, rfl⟩; refine ⟨fun e => (by cases e), ?_⟩; simp
        refine callG_on false [0] ?_; simp; refine callN_all (by with_reducible exact c_pickL l kb 5 5 sb rfl hl hb (by omega) (by omega) (by omega)) ?_; rintro _ _ ⟨kc, sc, hkc, rfl, v, hv, rfl⟩; refine ⟨fun e => (by cases e), ?_⟩; simp
        have hwu : IntKind.i64.wrap ((u : Int) - 2) = (u : Int) - 2 := wrap64 (by omega) (by omega)
        have hwv : IntKind.i64.wrap ((v : Int) - 2) = (v : Int) - 2 := wrap64 (by omega) (by omega)
        simp [c, c', c3, hwi, hwu, hwv]
        (first | refine callG_r ?_ | refine callD_r ?_); simp; (first | refine callN_flat (by with_reducible first | exact c_l01Add _ _ _ _ _ _) rfl ?_ | refine callN_new (by with_reducible first | exact c_l01Add _ _ _ _ _ _) ?_ | refine callM_flat (by with_reducible first | exact c_l01Add _ _ _ _ _ _) rfl ?_ | refine callM_new (by with_reducible first | exact c_l01Add _ _ _ _ _ _) ?_)
        simp [c, c', c3, hwi, hwu, hwv]
        refine loopK_next (i + 1, kc, sc, P.set i (vadd P[i] (fop .quo .f32 (fint .f32 ((u : Int) - 2)) 1090519040, 0, fop .quo .f32 (fint .f32 ((v : Int) - 2)) 1090519040))) (by simp; omega) ⟨by simp; omega, by simp; omega, by simpa using hPl⟩ ?_
        (refine weak_gc [(some 1, 0), (some 2, 0), (some 3, 0), (some 4, 0)] ?_ ?_ ?_ ?_ ?_ <;> simp)
      · simp [hwi]
        refine loopK_next (i + 1, ka, sa, P) (by simp; omega) ⟨by simp; omega, by simp; omega, hPl⟩ ?_
        (refine weak_gc [(some 1, 0), (some 2, 0), (some 3, 0), (some 4, 0)] ?_ ?_ ?_ ?_ ?_ <;> simp)
    · have c2 : i = P.length := by omega
      subst c2
      simp
      have hvP : vldM ⟨P, T0⟩ = true := by
        unfold vldM at hv0 ⊢
        simpa [hPl] using hv0
      refine endG_keepT (r := .agg [.slc 1 0 P.length 3, .slc 2 0 T0.length 1]) (Hout := [rd false l kk ss, .blk true false 32 (cVs P), .blk true false 36 (cRs true T0)]) [(some 3, 0), (some 4, 0)] ?_ ?_ ?_ ?_ ?_ ?_ ?_ ⟨kk, ss, ⟨P, T0⟩, by omega, hvP, by simpa [hPl] using hn4, rfl, rfl⟩ ?_ <;> simp
  · simp
    refine callG_on false [0] ?_; simp; refine callN_all (by with_reducible exact c_pickL l k1 3 3 s1 rfl hl hb (by omega) (by omega) (by omega)) ?_; rintro _ _ ⟨k2, s2, hk2, rfl, w, hw, rfl⟩; refine ⟨fun e => (by cases e), ?_⟩; simp
    refine callG_on false [0] ?_; simp; refine callN_all (by with_reducible exact c_pickL l k2 2 2 s2 rfl hl hb (by omega) (by omega) (by omega)) ?_; rintro _ _ ⟨k3, s3, hk3, rfl, h, hh, rfl⟩; refine ⟨fun e => (by cases e), ?_⟩; simp
    obtain ⟨w', hw'⟩ : ∃ w', w' = 3 + w := ⟨_, rfl⟩
    obtain ⟨h', hh'⟩ : ∃ h', h' = 1 + h := ⟨_, rfl⟩
    have e1 : IntKind.i64.wrap (3 + (w : Int)) = (w' : Int) := by rw [wrap64 (by omega) (by omega)]; omega
    have e2 : IntKind.i64.wrap (1 + (h : Int)) = (h' : Int) := by rw [wrap64 (by omega) (by omega)]; omega
    have hs3 : w' ∈ [3, 4, 5] := by simp; omega
    have hh4 : h' ≤ 4 := by omega
    have hlen : (rPl w' h' 1073741824 1056964608).length = (h' + 1) * w' := rPl_length _ _ _ _
    have hm1 : (h' + 1) * w' ≤ 3 * 5 := Nat.mul_le_mul (by omega) (by omega)
    have hm2 : 2 * 3 ≤ (h' + 1) * w' := Nat.mul_le_mul (by omega) (by omega)
    have htl : (rTr w' h').length = h' * (w' * 2) + 0 * 2 := gr_len (c := 2) _ _ _ fun _ _ => rfl
    have hm3 : h' * (w' * 2) ≤ 2 * 10 := Nat.mul_le_mul (by omega) (by omega)
    rw [e1, e2]
    (first | refine callG_r ?_ | refine callD_r ?_); simp; (first | refine callN_flat (by with_reducible first | exact c_l02Ring w' h' 1073741824 1056964608 hs3 hh4) rfl ?_ | refine callN_new (by with_reducible first | exact c_l02Ring w' h' 1073741824 1056964608 hs3 hh4) ?_ | refine callM_flat (by with_reducible first | exact c_l02Ring w' h' 1073741824 1056964608 hs3 hh4) rfl ?_ | refine callM_new (by with_reducible first | exact c_l02Ring w' h' 1073741824 1056964608 hs3 hh4) ?_)
    simp
    obtain ⟨P0, hP0⟩ : ∃ P0 : List V, P0 = rPl w' h' 1073741824 1056964608 := ⟨_, rfl⟩
    obtain ⟨T0, hT0⟩ : ∃ T0 : List (List Int), T0 = rTr w' h' := ⟨_, rfl⟩
    have hv0 : vldM ⟨P0, T0⟩ = true := by subst hP0; subst hT0; exact vld_mk (by omega) (by omega) (rTr_ok (by omega))
    have hn4 : 4 ≤ P0.length := by subst hP0; omega
    have hn64 : P0.length ≤ 64 := vld64 hv0
    refine loopG_of (α := Nat × Nat × Int × List V) (fun x => x.1 ≤ P0.length ∧ x.2.1 ≤ k3 + 10 * x.1 ∧ x.2.2.2.length = P0.length) (fun x => P0.length - x.1) (fun x => [(16, .int .i64 x.1), (0, .ptr 0 0), (2, .ptr 1 0), (3, .ptr 2 0)])
      (fun x => dHeap l x.2.1 x.2.2.1 x.2.2.2 T0) (0, k3, s3, P0) ⟨by simp, by simp, rfl⟩ ?_ fun x hx => ?_
    · subst hP0; subst hT0
      (refine weak_gc [(some 1, 0), (some 2, 0), (some 3, 0), (some 4, 0)] ?_ ?_ ?_ ?_ ?_ <;> simp)
    obtain ⟨i, kk, ss, P⟩ := x
    obtain ⟨hi, hkk, hPl⟩ := hx
    simp only at hi hkk hPl
    have hwi := nat_wrap (k := i) (by omega)
    by_cases c : i < P.length
    · have c' : (i : Int) < P.length := by omega
      have c3 : i * 3 + 3 ≤ P.length * 3 := by omega
      simp [c, c', hwi]
      refine callG_on false [0] ?_; simp; refine callN_all (by with_reducible exact c_oneL l kk 3 3 ss rfl hl hb (by omega) (by omega) (by omega)) ?_; rintro _ _ ⟨ka, sa, hka, rfl, b, rfl⟩; refine ⟨fun e => (by cases e), ?_⟩; simp
      refine ⟨fun e => ?_, fun e => ?_⟩
      · refine callG_on false [0] ?_; simp; refine callN_all (by with_reducible exact c_pickL l ka 5 5 sa rfl hl hb (by omega) (by omega) (by omega)) ?_; rintro _ _ ⟨kb, sb, hkb, rfl, u, hu, rfl⟩; refine ⟨fun e => (by cases e), ?_⟩; simp
        refine callG_on false [0] ?_; simp; refine callN_all (by with_reducible exact c_pickL l kb 5 5 sb rfl hl hb (by omega) (by omega) (by omega)) ?_; rintro _ _ ⟨kc, sc, hkc, rfl, v, hv, rfl⟩; refine ⟨fun e => (by cases e), ?_⟩; simp
        have hwu : IntKind.i64.wrap ((u : Int) - 2) = (u : Int) - 2 := wrap64 (by omega) (by omega)
        have hwv : IntKind.i64.wrap ((v : Int) - 2) = (v : Int) - 2 := wrap64 (by omega) (by omega)
        simp [c, c', c3, hwi, hwu, hwv]
        (first | refine callG_r ?_ | refine callD_r ?_); simp; (first | refine callN_flat (by with_reducible first | exact c_l01Add _ _ _ _ _ _) rfl ?_ | refine callN_new (by with_reducible first | exact c_l01Add _ _ _ _ _ _) ?_ | refine callM_flat (by with_reducible first | exact c_l01Add _ _ _ _ _ _) rfl ?_ | refine callM_new (by with_reducible first | exact c_l01Add _ _ _ _ _ _) ?_)
        simp [c, c', c3, hwi, hwu, hwv]
        refine loopK_next (i + 1, kc, sc, P.set i (vadd P[i] (fop .quo .f32 (fint .f32 ((u : Int) - 2)) 1090519040, 0, fop .quo .f32 (fint .f32 ((v : Int) - 2)) 1090519040))) (by simp; omega) ⟨by simp; omega, by simp; omega, by simpa using hPl⟩ ?_
        (refine weak_gc [(some 1, 0), (some 2, 0), (some 3, 0), (some 4, 0)] ?_ ?_ ?_ ?_ ?_ <;> simp)
      · simp [hwi]
        refine loopK_next (i + 1, ka, sa, P) (by simp; omega) ⟨by simp; omega, by simp; omega, hPl⟩ ?_
        (refine weak_gc [(some 1, 0), (some 2, 0), (some 3, 0), (some 4, 0)] ?_ ?_ ?_ ?_ ?_ <;> simp)
    · have c2 : i = P.length := by omega
      subst c2
      simp
      have hvP : vldM ⟨P, T0⟩ = true := by
        unfold vldM at hv0 ⊢
        simpa [hPl] using hv0
      refine endG_keepT (r := .agg [.slc 1 0 P.length 3, .slc 2 0 T0.length 1]) (Hout := [rd false l kk ss, .blk true false 32 (cVs P), .blk true false 36 (cRs true T0)]) [(some 3, 0), (some 4, 0)] ?_ ?_ ?_ ?_ ?_ ?_ ?_ ⟨kk, ss, ⟨P, T0⟩, by omega, hvP, by simpa [hPl] using hn4, rfl, rfl⟩ ?_ <;> simp
  · simp
    refine callG_on false [] ?_; simp; refine callN_all (by with_reducible exact c_BoxMesh 1073741824 over2) ?_; rintro _ _ ⟨P1, hP1, rfl, rfl⟩; refine ⟨fun e => (by cases e), ?_⟩; simp
    obtain ⟨P0, hP0⟩ : ∃ P0 : List V, P0 = P1 := ⟨_, rfl⟩
    obtain ⟨T0, hT0⟩ : ∃ T0 : List (List Int), T0 = [[0, 2, 3], [0, 3, 1], [4, 5, 7], [4, 7, 6], [0, 1, 5], [0, 5, 4], [2, 6, 7], [2, 7, 3], [0, 4, 6], [0, 6, 2], [1, 3, 7], [1, 7, 5]] := ⟨_, rfl⟩
    have hv0 : vldM ⟨P0, T0⟩ = true := by subst hP0; subst hT0; exact vld_mk (by omega) (by decide) (by rw [hP1]; decide)
    have hn4 : 4 ≤ P0.length := by subst hP0; omega
    have hn64 : P0.length ≤ 64 := vld64 hv0
    refine loopG_of (α := Nat × Nat × Int × List V) (fun x => x.1 ≤ P0.length ∧ x.2.1 ≤ k1 + 10 * x.1 ∧ x.2.2.2.length = P0.length) (fun x => P0.length - x.1) (fun x => [(16, .int .i64 x.1), (0, .ptr 0 0), (2, .ptr 1 0), (3, .ptr 2 0)])
      (fun x => dHeap l x.2.1 x.2.2.1 x.2.2.2 T0) (0, k1, s1, P0) ⟨by simp, by simp, rfl⟩ ?_ fun x hx => ?_
    · subst hP0; subst hT0
      (refine weak_gc [(some 1, 0), (some 2, 0), (some 3, 0), (some 4, 0)] ?_ ?_ ?_ ?_ ?_ <;> simp [hP1])
    obtain ⟨i, kk, ss, P⟩ := x
    obtain ⟨hi, hkk, hPl⟩ := hx
    simp only at hi hkk hPl
    have hwi := nat_wrap (k := i) (by omega)
    by_cases c : i < P.length
    · have c' : (i : Int) < P.length := by omega
      have c3 : i * 3 + 3 ≤ P.length * 3 := by omega
      simp [c, c', hwi]
      refine callG_on false [0] ?_; simp; refine callN_all (by with_reducible exact c_oneL l kk 3 3 ss rfl hl hb (by omega) (by omega) (by omega)) ?_; rintro _ _ ⟨ka, sa, hka, rfl, b, rfl⟩; refine ⟨fun e => (by cases e), ?_⟩; simp
      refine ⟨fun e => ?_, fun e => ?_⟩
      · refine callG_on false [0] ?_; simp; refine callN_all (by with_reducible exact c_pickL l ka 5 5 sa rfl hl hb (by omega) (by omega) (by omega)) ?_; rintro _ _ ⟨kb, sb, hkb, rfl, u, hu, rfl⟩; refine ⟨fun e => (by cases e), ?_⟩; simp
        refine callG_on false [0] ?_; simp; refine callN_all (by with_reducible exact c_pickL l kb 5 5 sb rfl hl hb (by omega) (by omega) (by omega)) ?_; rintro _ _ ⟨kc, sc, hkc, rfl, v, hv, rfl⟩; refine ⟨fun e => (by cases e), ?_⟩; simp
        have hwu : IntKind.i64.wrap ((u : Int) - 2) = (u : Int) - 2 := wrap64 (by omega) (by omega)
        have hwv : IntKind.i64.wrap ((v : Int) - 2) = (v : Int) - 2 := wrap64 (by omega) (by omega)
        simp [c, c', c3, hwi, hwu, hwv]
        (first | refine callG_r ?_ | refine callD_r ?_); simp; (first | refine callN_flat (by with_reducible first | exact c_l01Add _ _ _ _ _ _) rfl ?_ | refine callN_new (by with_reducible first | exact c_l01Add _ _ _ _ _ _) ?_ | refine callM_flat (by with_reducible first | exact c_l01Add _ _ _ _ _ _) rfl ?_ | refine callM_new (by with_reducible first | exact c_l01Add _ _ _ _ _ _) ?_)
        simp [c, c', c3, hwi, hwu, hwv]
        refine loopK_next (i + 1, kc, sc, P.set i (vadd P[i] (fop .quo .f32 (fint .f32 ((u : Int) - 2)) 1090519040, 0, fop .quo .f32 (fint .f32 ((v : Int) - 2)) 1090519040))) (by simp; omega) ⟨by simp; omega, by simp; omega, by simpa using hPl⟩ ?_
        (refine weak_gc [(some 1, 0), (some 2, 0), (some 3, 0), (some 4, 0)] ?_ ?_ ?_ ?_ ?_ <;> simp)
      · simp [hwi]
        refine loopK_next (i + 1, ka, sa, P) (by simp; omega) ⟨by simp; omega, by simp; omega, hPl⟩ ?_
        (refine weak_gc [(some 1, 0), (some 2, 0), (some 3, 0), (some 4, 0)] ?_ ?_ ?_ ?_ ?_ <;> simp)
    · have c2 : i = P.length := by omega
      subst c2
      simp
      have hvP : vldM ⟨P, T0⟩ = true := by
        unfold vldM at hv0 ⊢
        simpa [hPl] using hv0
      refine endG_keepT (r := .agg [.slc 1 0 P.length 3, .slc 2 0 T0.length 1]) (Hout := [rd false l kk ss, .blk true false 32 (cVs P), .blk true false 36 (cRs true T0)]) [(some 3, 0), (some 4, 0)] ?_ ?_ ?_ ?_ ?_ ?_ ?_ ⟨kk, ss, ⟨P, T0⟩, by omega, hvP, by simpa [hPl] using hn4, rfl, rfl⟩ ?_ <;> simp
  · simp
    refine callG_on false [] ?_; simp; refine callN_all (by with_reducible exact c_l02Ball0 1073741824) ?_; rintro _ _ ⟨P1, hP1, rfl, rfl⟩; refine ⟨fun e => (by cases e), ?_⟩; simp
    obtain ⟨P0, hP0⟩ : ∃ P0 : List V, P0 = P1 := ⟨_, rfl⟩
    obtain ⟨T0, hT0⟩ : ∃ T0 : List (List Int), T0 = [[0, 2, 4], [2, 1, 4], [1, 3, 4], [3, 0, 4], [2, 0, 5], [1, 2, 5], [3, 1, 5], [0, 3, 5]] := ⟨_, rfl⟩
    have hv0 : vldM ⟨P0, T0⟩ = true := by subst hP0; subst hT0; exact vld_mk (by omega) (by decide) (by rw [hP1]; decide)
    have hn4 : 4 ≤ P0.length := by subst hP0; omega
    have hn64 : P0.length ≤ 64 := vld64 hv0
    refine loopG_of (α := Nat × Nat × Int × List V) (fun x => x.1 ≤ P0.length ∧ x.2.1 ≤ k1 + 10 * x.1 ∧ x.2.2.2.length = P0.length) (fun x => P0.length - x.1) (fun x => [(16, .int .i64 x.1), (0, .ptr 0 0), (2, .ptr 1 0), (3, .ptr 2 0)])
      (fun x => dHeap l x.2.1 x.2.2.1 x.2.2.2 T0) (0, k1, s1, P0) ⟨by simp, by simp, rfl⟩ ?_ fun x hx => ?_
    · subst hP0; subst hT0
      (refine weak_gc [(some 1, 0), (some 2, 0), (some 3, 0), (some 4, 0)] ?_ ?_ ?_ ?_ ?_ <;> simp [hP1])
    obtain ⟨i, kk, ss, P⟩ := x
    obtain ⟨hi, hkk, hPl⟩ := hx
    simp only at hi hkk hPl
    have hwi := nat_wrap (k := i) (by omega)
    by_cases c : i < P.length
    · have c' : (i : Int) < P.length := by omega
      have c3 : i * 3 + 3 ≤ P.length * 3 := by omega
      simp [c, c', hwi]
      refine callG_on false [0] ?_; simp; refine callN_all (by with_reducible exact c_oneL l kk 3 3 ss rfl hl hb (by omega) (by omega) (by omega)) ?_; rintro _ _ ⟨ka, sa, hka, rfl, b, rfl⟩; refine ⟨fun e => (by cases e), ?_⟩; simp
      refine ⟨fun e => ?_, fun e => ?_⟩
      · refine callG_on false [0] ?_; simp; refine callN_all (by with_reducible exact c_pickL l ka 5 5 sa rfl hl hb (by omega) (by omega) (by omega)) ?_; rintro _ _ ⟨kb, sb, hkb, rfl, u, hu, rfl⟩; refine ⟨fun e => (by cases e), ?_⟩; simp
        refine callG_on false [0] ?_; simp; refine callN_all (by with_reducible exact c_pickL l kb 5 5 sb rfl hl hb (by omega) (by omega) (by omega)) ?_; rintro _ _ ⟨kc, sc, hkc, rfl, v, hv, rfl⟩; refine ⟨fun e => (by cases e), ?_⟩; simp
        have hwu : IntKind.i64.wrap ((u : Int) - 2) = (u : Int) - 2 := wrap64 (by omega) (by omega)
        have hwv : IntKind.i64.wrap ((v : Int) - 2) = (v : Int) - 2 := wrap64 (by omega) (by omega)
        simp [c, c', c3, hwi, hwu, hwv]
        (first | refine callG_r ?_ | refine callD_r ?_); simp; (first | refine callN_flat (by with_reducible first | exact c_l01Add _ _ _ _ _ _) rfl ?_ | refine callN_new (by with_reducible first | exact c_l01Add _ _ _ _ _ _) ?_ | refine callM_flat (by with_reducible first | exact c_l01Add _ _ _ _ _ _) rfl ?_ | refine callM_new (by with_reducible first | exact c_l01Add _ _ _ _ _ _) ?_)
        simp [c, c', c3, hwi, hwu, hwv]
        refine loopK_next (i + 1, kc, sc, P.set i (vadd P[i] (fop .quo .f32 (fint .f32 ((u : Int) - 2)) 1090519040, 0, fop .quo .f32 (fint .f32 ((v : Int) - 2)) 1090519040))) (by simp; omega) ⟨by simp; omega, by simp; omega, by simpa using hPl⟩ ?_
        (refine weak_gc [(some 1, 0), (some 2, 0), (some 3, 0), (some 4, 0)] ?_ ?_ ?_ ?_ ?_ <;> simp)
      · simp [hwi]
        refine loopK_next (i + 1, ka, sa, P) (by simp; omega) ⟨by simp; omega, by simp; omega, hPl⟩ ?_
        (refine weak_gc [(some 1, 0), (some 2, 0), (some 3, 0), (some 4, 0)] ?_ ?_ ?_ ?_ ?_ <;> simp)
    · have c2 : i = P.length := by omega
      subst c2
      simp
      have hvP : vldM ⟨P, T0⟩ = true := by
        unfold vldM at hv0 ⊢
        simpa [hPl] using hv0
      refine endG_keepT (r := .agg [.slc 1 0 P.length 3, .slc 2 0 T0.length 1]) (Hout := [rd false l kk ss, .blk true false 32 (cVs P), .blk true false 36 (cRs true T0)]) [(some 3, 0), (some 4, 0)] ?_ ?_ ?_ ?_ ?_ ?_ ?_ ⟨kk, ss, ⟨P, T0⟩, by omega, hvP, by simpa [hPl] using hn4, rfl, rfl⟩ ?_ <;> simp
  · have n0 : ¬ x = 0 := by omega
    have n1 : ¬ x = 1 := by omega
    have n2 : ¬ x = 2 := by omega
    have n3 : ¬ x = 3 := by omega
    have i0 : ¬ (x : Int) = 0 := by omega
    have i1 : ¬ (x : Int) = 1 := by omega
    have i2 : ¬ (x : Int) = 2 := by omega
    have i3 : ¬ (x : Int) = 3 := by omega
    simp [n0, n1, n2, n3, i0, i1, i2, i3]
    refine callG_on false [0] ?_; simp; refine callN_all (by with_reducible exact c_pickL l k1 3 3 s1 rfl hl hb (by omega) (by omega) (by omega)) ?_; rintro _ _ ⟨k2, s2, hk2, rfl, w, hw, rfl⟩; refine ⟨fun e => (by cases e), ?_⟩; simp
    obtain ⟨N, hN⟩ : ∃ N, N = 4 + w := ⟨_, rfl⟩
    have eN : IntKind.i64.wrap (4 + (w : Int)) = (N : Int) := by rw [wrap64 (by omega) (by omega)]; omega
    rw [eN]
    refine loopG_of (α := List V × Nat × Int) (fun x => x.1.length ≤ N ∧ x.2.1 ≤ k2 + 20 * x.1.length) (fun x => N - x.1.length) (fun x => [(10, .int .i64 ((N : Int) - x.1.length)), (0, .ptr 0 0), (2, .ptr 1 0), (3, .ptr 2 0)])
      (fun x => eHeap l x.2.1 x.2.2 x.1) ([], k2, s2) ⟨by simp, by simp⟩ ?_ fun y hy => ?_
    · (refine weak_gc [(some 1, 0), (some 2, 0), (none, 32)] ?_ ?_ ?_ ?_ ?_ <;> simp)
    obtain ⟨L, kk, ss⟩ := y
    obtain ⟨hL, hkk⟩ := hy
    simp only at hL hkk
    by_cases c : L.length < N
    · have c' : (0 : Int) < (N : Int) - L.length := by omega
      have hwl : IntKind.i64.wrap ((N : Int) - L.length - 1) = (N : Int) - ((L.length + 1 : Nat) : Int) := by rw [wrap64 (by omega) (by omega)]; omega
      obtain ⟨_, ka, sa, hc, hka, v, rfl⟩ := d_DrawVector l kk ss hl hb (by omega)
      simp [c, c', hwl]
      (first | refine callG_on false [0] ?_ | refine callD_on false [0] ?_); simp; (first | refine callN_fun (by with_reducible exact hc) (by simp) ?_ | refine callMD_fun (by with_reducible exact hc) (by simp) ?_)
      simp [c, c', hwl, one_spliceV, one_takeV]
      refine ⟨by omega, by omega, loopK_next (L ++ [v], ka, sa) (by simp; omega) ⟨by simp; omega, by simp; omega⟩ ?_⟩
      (refine weak_gc [(some 1, 0), (some 2, 0), (some 5, 0)] ?_ ?_ ?_ ?_ ?_ <;> simp)
    · have c2 : L.length = N := by omega
      subst c2
      simp
      refine callG_on false [0] ?_; simp; refine callN_all (by with_reducible exact c_pickL l kk 5 5 ss rfl hl hb (by omega) (by omega) (by omega)) ?_; rintro _ _ ⟨k3, s3, hk3, rfl, q0, hq0, rfl⟩; refine ⟨fun e => (by cases e), ?_⟩; simp
      refine loopG_of (α := List (List Int) × Nat × Nat × Int) (fun x => x.1.length + x.2.1 ≤ 4 ∧ x.2.1 ≤ 4 ∧ x.2.2.1 + 10 * x.2.1 ≤ k3 + 40 ∧ ∀ t ∈ x.1, triB L.length t = true) (fun x => x.2.1) (fun x => [(12, .int .i64 x.2.1), (11, .int .i64 L.length), (0, .ptr 0 0), (2, .ptr 1 0), (3, .ptr 2 0)])
        (fun x => dHeap l x.2.2.1 x.2.2.2 L x.1) ([], q0, k3, s3) ⟨by simp; omega, by simp; omega, by simp; omega, by simp⟩ ?_ fun y hy => ?_
      · (refine weak_gc [(some 1, 0), (some 2, 0), (some 3, 0), (none, 36)] ?_ ?_ ?_ ?_ ?_ <;> simp)
      obtain ⟨T, n, kq, sq⟩ := y
      obtain ⟨hT, hn, hkq, hall⟩ := hy
      simp only at hT hn hkq hall
      by_cases c : 0 < n
      · have c' : (0 : Int) < n := by omega
        have hwn : IntKind.i64.wrap ((n : Int) - 1) = ((n - 1 : Nat) : Int) := by rw [wrap64 (by omega) (by omega)]; omega
        simp [c, c', hwn]
        refine callG_on false [0] ?_; simp; refine callN_all (by with_reducible exact c_pickL l kq L.length L.length sq rfl hl hb (by omega) (by omega) (by omega)) ?_; rintro _ _ ⟨ka, sa, hka, rfl, p, hp, rfl⟩; refine ⟨fun e => (by cases e), ?_⟩; simp
        have hwp : IntKind.i64.wrap ((p : Int) + 1) = (p : Int) + 1 := wrap64 (by omega) (by omega)
        have hwL : IntKind.i64.wrap ((L.length : Int) - 2) = ((L.length - 2 : Nat) : Int) := by rw [wrap64 (by omega) (by omega)]; omega
        rw [hwL]
        refine callG_on false [0] ?_; simp; refine callN_all (by with_reducible exact c_pickL l ka ((L.length - 2 : Nat) : Int) (L.length - 2) sa rfl hl hb (by omega) (by omega) (by omega)) ?_; rintro _ _ ⟨kb, sb, hkb, rfl, q, hq, rfl⟩; refine ⟨fun e => (by cases e), ?_⟩; simp
        obtain ⟨b0, hb0⟩ : ∃ b0, b0 = (p + 1 + q) % L.length := ⟨_, rfl⟩
        obtain ⟨c0, hc0⟩ : ∃ c0, c0 = (b0 + 1) % L.length := ⟨_, rfl⟩
        have hb1 : b0 < L.length := by rw [hb0]; exact Nat.mod_lt _ (by omega)
        have hc1 : c0 < L.length := by rw [hc0]; exact Nat.mod_lt _ (by omega)
        have eb : (IntKind.i64.wrap (IntKind.i64.wrap ((p : Int) + 1) + (q : Int))).tmod L.length = (b0 : Int) := by
          rw [hwp, wrap64 (by omega) (by omega), show (p : Int) + 1 + q = ((p + 1 + q : Nat) : Int) by simp, hb0]; rfl
        have ec : (IntKind.i64.wrap ((b0 : Int) + 1)).tmod L.length = (c0 : Int) := by
          rw [wrap64 (by omega) (by omega), show (b0 : Int) + 1 = ((b0 + 1 : Nat) : Int) by simp, hc0]; rfl
        have hpb : p ≠ b0 := by
          rw [hb0]
          rcases Nat.lt_or_ge (p + 1 + q) L.length with g | g
          · rw [Nat.mod_eq_of_lt g]; omega
          · rw [Nat.mod_eq_sub_mod g, Nat.mod_eq_of_lt (by omega)]; omega
        have hbc : b0 ≠ c0 := by
          rw [hc0]
          rcases Nat.lt_or_ge (b0 + 1) L.length with g | g
          · rw [Nat.mod_eq_of_lt g]; omega
          · rw [Nat.mod_eq_sub_mod g, Nat.mod_eq_of_lt (by omega)]; omega
        have hne : ¬ L = [] := by
          intro e; rw [e] at hp; simp at hp
        simp only [eb, ec, hwn]
        refine ⟨hne, fun e => ⟨by omega, by omega, loopK_next (T ++ [[(p : Int), (b0 : Int), (c0 : Int)]], n - 1, kb, sb) (by simp only; omega) ⟨by simp; omega, by simp only; omega, by simp only; omega, ?_⟩ ?_⟩, fun e => loopK_next (T, n - 1, kb, sb) (by simp only; omega) ⟨by simp only; omega, by simp only; omega, by simp only; omega, hall⟩ ?_⟩
        · intro t ht
          rcases List.mem_append.1 ht with h | h
          · exact hall t h
          · rw [List.mem_singleton] at h
            subst h
            exact tri_ok hpb hbc (by omega) hp hb1 hc1
        · have hcl : cRs true T ++ [.view true (cIs [(p : Int), (b0 : Int), (c0 : Int)]) 3] = cRs true (T ++ [[(p : Int), (b0 : Int), (c0 : Int)]]) := by rw [← cRs_append]; rfl
          rw [hcl]
          (refine weak_gc [(some 1, 0), (some 2, 0), (some 3, 0), (some 7, 0)] ?_ ?_ ?_ ?_ ?_ <;> simp)
        · (refine weak_gc [(some 1, 0), (some 2, 0), (some 3, 0), (some 4, 0)] ?_ ?_ ?_ ?_ ?_ <;> simp)
      · obtain rfl : n = 0 := by omega
        simp
        have hvP : vldM ⟨L, T⟩ = true := vld_mk (by omega) (by omega) hall
        refine endG_keepT (r := .agg [.slc 1 0 L.length 3, .slc 2 0 T.length 1]) (Hout := [rd false l kq sq, .blk true false 32 (cVs L), .blk true false 36 (cRs true T)]) [(some 3, 0), (some 4, 0)] ?_ ?_ ?_ ?_ ?_ ?_ ?_ ⟨kq, sq, ⟨L, T⟩, by omega, hvP, (show 4 ≤ L.length by omega), rfl, rfl⟩ ?_ <;> simp
end Go.Proofs.YtnjpigkijdnpkaaGreat
namespace Go.Proofs.YtnjpigkijdnpkaaGreat
set_option linter.all false
open Go Go.Awp
set_option maxRecDepth 100000
set_option maxHeartbeats 8000000
set_option pp.deepTerms true

theorem vld_small {m : Msh} (hv : vldM m = true) : m.Small := by
  unfold vldM at hv
  simp only [Bool.and_eq_true, decide_eq_true_eq] at hv
  exact ⟨by omega, by omega, fun t ht => by have := tri_len (List.all_eq_true.1 hv.2 t ht); omega⟩
/-- A body that has a mesh alone. -/
abbrev bareB (m : Msh) : Bod := ⟨m, [], 0, 0, List.replicate m.pl.length 0, (0, 0, 0)⟩
theorem c_l03Bare (m : Msh) (rest : List AV) (hs : m.Small) (hv : vldM m = true) : Fun Tryz.prog 59 [m.vp rest] [] (.agg [.slc 0 0 m.pl.length 3, .slc 1 0 m.tr.length 1, .nils, .flt .f32 0, .flt .f32 0, .slc 2 0 m.pl.length 1, .flt .f32 0, .flt .f32 0, .flt .f32 0])
    [.blk true false 32 (cVs m.pl), .blk true false 36 (cRs true m.tr), .blk true false 29 (cFs (List.replicate m.pl.length 0))] := by
  have hp := vld64 hv
  have ht : m.tr.length ≤ 128 := by
    unfold vldM at hv
    simp only [Bool.and_eq_true, decide_eq_true_eq] at hv
    exact hv.1.2
  refine FnSpec.walk dr_ok Tryz.func59 rfl (by kernel_rfl) rfl rfl rfl (by simp) ?_
  simp
  (first | refine callG_r ?_ | refine callD_r ?_); simp; (first | refine callN_flat (by with_reducible first | exact c_l02Own m _ hs ht) rfl ?_ | refine callN_new (by with_reducible first | exact c_l02Own m _ hs ht) ?_ | refine callM_flat (by with_reducible first | exact c_l02Own m _ hs ht) rfl ?_ | refine callM_new (by with_reducible first | exact c_l02Own m _ hs ht) ?_)
  simp
  refine ⟨by omega, by omega, ?_⟩
  (refine endG_keepT [(some 1, 0), (some 2, 0), (some 3, 0)] ?_ ?_ ?_ ?_ ?_ ?_ ?_ ⟨rfl, rfl⟩ ?_ <;> simp)
theorem one_spliceS (x y : Int) (z u : Nat) : splice (cSs [(0, 0, 0, 0)]) 0 [.int .i64 x, .int .i64 y, .flt .f32 z, .flt .f32 u] = cSs [(x, y, z, u)] := rfl
theorem one_takeS (t : Sp) : (cSs [t]).take 4 = cSs [t] := rfl
/-- What a reader leaves that has drawn a body. -/
def BodR (l : List Nat) (k inc : Nat) (av : AV) (H : Heap) : Prop := ∃ (k' : Nat) (seed : Int) (b : Bod), k' ≤ k + inc ∧ vldB b = true ∧ 4 ≤ b.me.pl.length ∧ H = rd false l k' seed :: b.cpm ∧ av = b.cp 1
abbrev bHeap (l : List Nat) (k : Nat) (s : Int) (b : Bod) : Heap := [rd false l k s, .blk true true 34 [.nils, .nils, .nils, .flt .f32 0, .flt .f32 0, .nils, .flt .f32 0, .flt .f32 0, .flt .f32 0],
  .blk true true 34 [.slc 3 0 b.me.pl.length 3, .slc 4 0 b.me.tr.length 1, .slc 5 0 b.sp.length 4, .flt .f32 b.film, .flt .f32 b.bend, .slc 6 0 b.w.length 1, .flt .f32 b.fall.1, .flt .f32 b.fall.2.1, .flt .f32 b.fall.2.2],
  .blk true false 32 (cVs b.me.pl), .blk true false 36 (cRs true b.me.tr), .blk true false 88 (cSs b.sp), .blk true false 29 (cFs b.w)]
attribute [simp] bHeap
theorem long_ok : ∀ q ∈ List.range 9, geB (fop .quo .f32 (fint .f32 q) 1082130432) = true := by decide +kernel
theorem c_l03DrawOk (l : List Nat) (k : Nat) (seed : Int) (hl : l.length ≤ 1048576) (hb : ∀ b ∈ l, b < 256) (hk : k + 9000 < 1000000000000) :
    FnSpec Tryz.prog 37 [.ptr 0 0] [rd false l k seed] (BodR l k 5000) := by
  refine FnSpec.walk dr_ok Tryz.func37 rfl (by kernel_rfl) rfl rfl rfl (by simp) ?_
  simp
  refine callG_on false [0] ?_; simp; refine callN_all (by with_reducible exact c_DrawOk l k seed hl hb (by omega)) ?_; rintro _ _ ⟨k1, s1, m, hk1, hv, hn4, rfl, rfl⟩; refine ⟨fun e => (by cases e), ?_⟩; simp
  have hp := vld64 hv
  have hsm : m.Small := vld_small hv
  (first | refine callG_r ?_ | refine callD_r ?_); simp; (first | refine callN_flat (by with_reducible first | exact c_l03Bare m _ hsm hv) rfl ?_ | refine callN_new (by with_reducible first | exact c_l03Bare m _ hsm hv) ?_ | refine callM_flat (by with_reducible first | exact c_l03Bare m _ hsm hv) rfl ?_ | refine callM_new (by with_reducible first | exact c_l03Bare m _ hsm hv) ?_)
  simp
  obtain ⟨_, k2, s2, hc2, hk2, n, hn, rfl⟩ := d_pick l k1 8 8 s1 rfl hl hb (by omega) (by omega) (by omega)
  (first | refine callG_on false [0] ?_ | refine callD_on false [0] ?_); simp; (first | refine callN_fun (by with_reducible exact hc2) (by simp) ?_ | refine callMD_fun (by with_reducible exact hc2) (by simp) ?_)
  simp
  refine loopG_of (α := List Sp × Nat × Nat × Int) (fun x => x.1.length + x.2.1 ≤ 8 ∧ x.2.2.1 + 10 * x.2.1 ≤ k2 + 80 ∧ x.1.all (sprB m.pl.length) = true) (fun x => x.2.1) (fun x => [(6, .int .i64 x.2.1), (5, .int .i64 m.pl.length), (0, .ptr 0 0), (2, .ptr 1 0), (4, .ptr 2 0)])
    (fun x => bHeap l x.2.2.1 x.2.2.2 { bareB m with sp := x.1 }) ([], n, k2, s2) ⟨by simp; omega, by simp; omega, rfl⟩ ?_ fun y hy => ?_
  · (refine weak_gc [(some 1, 0), (some 8, 0), (some 5, 0), (some 6, 0), (none, 88), (some 7, 0)] ?_ ?_ ?_ ?_ ?_ <;> simp)
  obtain ⟨S, n, kk, ss⟩ := y
  obtain ⟨hS, hkk, hall⟩ := hy
  simp only at hS hkk hall
  by_cases c : 0 < n
  · have c' : (0 : Int) < n := by omega
    have c2 : (1 : Int) < m.pl.length := by omega
    have c3 : 1 < m.pl.length := by omega
    have hwn : IntKind.i64.wrap ((n : Int) - 1) = ((n - 1 : Nat) : Int) := by rw [wrap64 (by omega) (by omega)]; omega
    have hwL : IntKind.i64.wrap ((m.pl.length : Int) - 1) = ((m.pl.length - 1 : Nat) : Int) := by rw [wrap64 (by omega) (by omega)]; omega
    obtain ⟨_, ka, sa, hca, hka, p, hp, rfl⟩ := d_pick l kk m.pl.length m.pl.length ss rfl hl hb (by omega) (by omega) (by omega)
    obtain ⟨_, kb, sb, hcb, hkb, q, hq, rfl⟩ := d_pick l ka ((m.pl.length - 1 : Nat) : Int) (m.pl.length - 1) sa rfl hl hb (by omega) (by omega) (by omega)
    obtain ⟨_, kc, sc, hcc, hkc, u, hu, rfl⟩ := d_pick l kb 9 9 sb rfl hl hb (by omega) (by omega) (by omega)
    obtain ⟨_, kd, sd, hcd, hkd, v, hv', rfl⟩ := d_pick l kc 8 8 sc rfl hl hb (by omega) (by omega) (by omega)
    simp [c, c', c2, c3]
    (first | refine callG_on false [0] ?_ | refine callD_on false [0] ?_); simp; (first | refine callN_fun (by with_reducible exact hca) (by simp) ?_ | refine callMD_fun (by with_reducible exact hca) (by simp) ?_)
    simp [hwL]
    (first | refine callG_on false [0] ?_ | refine callD_on false [0] ?_); simp; (first | refine callN_fun (by with_reducible exact hcb) (by simp) ?_ | refine callMD_fun (by with_reducible exact hcb) (by simp) ?_)
    obtain ⟨b0, hb0⟩ : ∃ b0, b0 = (p + 1 + q) % m.pl.length := ⟨_, rfl⟩
    have hb1 : b0 < m.pl.length := by rw [hb0]; exact Nat.mod_lt _ (by omega)
    have hwp : IntKind.i64.wrap ((p : Int) + 1) = (p : Int) + 1 := wrap64 (by omega) (by omega)
    have eb : (IntKind.i64.wrap (IntKind.i64.wrap ((p : Int) + 1) + (q : Int))).tmod m.pl.length = (b0 : Int) := by
      rw [hwp, wrap64 (by omega) (by omega), show (p : Int) + 1 + q = ((p + 1 + q : Nat) : Int) by simp, hb0]; rfl
    have hpb : p ≠ b0 := by
      rw [hb0]
      rcases Nat.lt_or_ge (p + 1 + q) m.pl.length with g | g
      · rw [Nat.mod_eq_of_lt g]; omega
      · rw [Nat.mod_eq_sub_mod g, Nat.mod_eq_of_lt (by omega)]; omega
    have hne : ¬ m.pl = [] := by
      intro e; rw [e] at hp; simp at hp
    have hwv : IntKind.i64.wrap (1 + (v : Int)) = 1 + (v : Int) := wrap64 (by omega) (by omega)
    simp [hne, eb]
    (first | refine callG_on false [0] ?_ | refine callD_on false [0] ?_); simp; (first | refine callN_fun (by with_reducible exact hcc) (by simp) ?_ | refine callMD_fun (by with_reducible exact hcc) (by simp) ?_)
    simp
    (first | refine callG_on false [0] ?_ | refine callD_on false [0] ?_); simp; (first | refine callN_fun (by with_reducible exact hcd) (by simp) ?_ | refine callMD_fun (by with_reducible exact hcd) (by simp) ?_)
    simp [hwv, hwn, one_spliceS, one_takeS]
    have hg := long_ok u (List.mem_range.2 hu)
    have hsp : sprB m.pl.length ((p : Int), (b0 : Int), fop .quo .f32 (fint .f32 u) 1082130432, fop .quo .f32 (fint .f32 (1 + (v : Int))) 1073741824) = true := by
      unfold sprB
      simp only [inB_nat hp, inB_nat hb1, hg, Bool.and_true, Bool.true_and, Bool.not_eq_true', decide_eq_false_iff_not]
      omega
    refine ⟨by omega, by omega, loopK_next (S ++ [((p : Int), (b0 : Int), fop .quo .f32 (fint .f32 u) 1082130432, fop .quo .f32 (fint .f32 (1 + (v : Int))) 1073741824)], n - 1, kd, sd) (by simp only; omega) ⟨by simp; omega, by simp only; omega, ?_⟩ ?_⟩
    · simp only [List.all_append, hall, List.all_cons, List.all_nil, hsp, Bool.and_true]
    · (refine weak_gc [(some 1, 0), (some 2, 0), (some 3, 0), (some 4, 0), (some 9, 0), (some 6, 0)] ?_ ?_ ?_ ?_ ?_ <;> simp)
  · obtain rfl : n = 0 := by omega
    simp
    obtain ⟨_, ka, sa, hca, hka, p, hp, rfl⟩ := d_pick l kk 5 5 ss rfl hl hb (by omega) (by omega) (by omega)
    obtain ⟨_, kb, sb, hcb, hkb, q, hq, rfl⟩ := d_pick l ka 5 5 sa rfl hl hb (by omega) (by omega) (by omega)
    (first | refine callG_on false [0] ?_ | refine callD_on false [0] ?_); simp; (first | refine callN_fun (by with_reducible exact hca) (by simp) ?_ | refine callMD_fun (by with_reducible exact hca) (by simp) ?_)
    simp
    (first | refine callG_on false [0] ?_ | refine callD_on false [0] ?_); simp; (first | refine callN_fun (by with_reducible exact hcb) (by simp) ?_ | refine callMD_fun (by with_reducible exact hcb) (by simp) ?_)
    simp
    refine loopG_of (α := Nat × List Nat × Nat × Int) (fun x => x.1 ≤ m.pl.length ∧ x.2.1.length = m.pl.length ∧ x.2.2.1 ≤ kb + 10 * x.1) (fun x => m.pl.length - x.1) (fun x => [(70, .int .i64 x.1), (69, .int .i64 m.pl.length), (0, .ptr 0 0), (2, .ptr 1 0), (4, .ptr 2 0)])
      (fun x => bHeap l x.2.2.1 x.2.2.2 ⟨m, S, fop .quo .f32 (fint .f32 p) 1073741824, fop .quo .f32 (fint .f32 q) 1082130432, x.2.1, (0, 0, 0)⟩) (0, List.replicate m.pl.length 0, kb, sb) ⟨by simp, by simp, by simp⟩ ?_ fun y hy => ?_
    · (refine weak_gc [(some 1, 0), (some 2, 0), (some 3, 0), (some 4, 0), (some 5, 0), (some 6, 0)] ?_ ?_ ?_ ?_ ?_ <;> simp)
    obtain ⟨i, W, kk', ss'⟩ := y
    obtain ⟨hi, hW, hkk'⟩ := hy
    simp only at hi hW hkk'
    have hwi := nat_wrap (k := i) (by omega)
    by_cases c : i < m.pl.length
    · have c' : (i : Int) < m.pl.length := by omega
      have cW : i < W.length := by omega
      have cW' : (i : Int) < W.length := by omega
      obtain ⟨_, kc, sc, hcc, hkc, u, hu, rfl⟩ := d_pick l kk' 5 5 ss' rfl hl hb (by omega) (by omega) (by omega)
      simp [c, c', cW, cW', hwi]
      (first | refine callG_on false [0] ?_ | refine callD_on false [0] ?_); simp; (first | refine callN_fun (by with_reducible exact hcc) (by simp) ?_ | refine callMD_fun (by with_reducible exact hcc) (by simp) ?_)
      simp [c, c', cW, cW', hwi]
      refine ⟨by omega, loopK_next (i + 1, W.set i (fop .quo .f32 (fint .f32 u) 1082130432), kc, sc) (by simp only; omega) ⟨by simp only; omega, by simpa using hW, by simp only; omega⟩ ?_⟩
      (refine weak_gc [(some 1, 0), (some 2, 0), (some 3, 0), (some 4, 0), (some 5, 0), (some 6, 0)] ?_ ?_ ?_ ?_ ?_ <;> simp)
    · have ei : i = m.pl.length := by omega
      subst ei
      obtain ⟨_, kc, sc, hcc, hkc, u, hu, rfl⟩ := d_pick l kk' 3 3 ss' rfl hl hb (by omega) (by omega) (by omega)
      simp
      (first | refine callG_on false [0] ?_ | refine callD_on false [0] ?_); simp; (first | refine callN_fun (by with_reducible exact hcc) (by simp) ?_ | refine callMD_fun (by with_reducible exact hcc) (by simp) ?_)
      simp
      have hvb : vldB ⟨m, S, fop .quo .f32 (fint .f32 p) 1073741824, fop .quo .f32 (fint .f32 q) 1082130432, W, (0, fint .f32 (IntKind.i64.wrap (-(u : Int))), 0)⟩ = true := by
        unfold vldB
        rw [hv, decide_eq_true (p := S.length ≤ 200) (by omega), decide_eq_true (p := W.length = m.pl.length) hW]
        simpa using hall
      refine endG_keepT (r := (⟨m, S, fop .quo .f32 (fint .f32 p) 1073741824, fop .quo .f32 (fint .f32 q) 1082130432, W, (0, fint .f32 (IntKind.i64.wrap (-(u : Int))), 0)⟩ : Bod).cp 1) (Hout := rd false l kc sc :: (⟨m, S, fop .quo .f32 (fint .f32 p) 1073741824, fop .quo .f32 (fint .f32 q) 1082130432, W, (0, fint .f32 (IntKind.i64.wrap (-(u : Int))), 0)⟩ : Bod).cpm) [(some 3, 0), (some 4, 0), (some 5, 0), (some 6, 0)] ?_ ?_ ?_ ?_ ?_ ?_ ?_ ⟨kc, sc, _, by omega, hvb, hn4, rfl, rfl⟩ ?_ <;> simp
/-- A body drawn of bytes. -/
theorem c_B10Body (l : List Nat) (n : Nat) (hn : n = l.length) (hl : l.length ≤ 1048576) (hb : ∀ b ∈ l, b < 256) :
    FnSpec Tryz.prog 7 [.view false (cBy l) n] [] fun av H => ∃ b : Bod, vldB b = true ∧ 4 ≤ b.me.pl.length ∧ H = b.cpm ∧ av = b.cp 0 := by
  subst hn
  refine FnSpec.walk dr_ok Tryz.func7 rfl (by kernel_rfl) rfl rfl rfl (by simp) ?_
  simp
  refine callG_v ?_; simp; refine callNV_fun (by with_reducible exact c_l00From l) ?_
  simp
  have h1 : FnSpec Tryz.prog 37 [.ptr 0 0] [.blk false true 109 [.view false (cBy l) l.length, .int .i64 0, .int .u64 0]] (BodR l 0 5000) := c_l03DrawOk l 0 0 hl hb (by omega)
  refine callG_on false [1] ?_; simp; refine callN_all (by with_reducible exact h1) ?_; rintro _ _ ⟨k1, s1, b, hk1, hv, hn4, rfl, rfl⟩; refine ⟨fun e => (by cases e), ?_⟩; simp
  refine endG_keepT (r := b.cp 0) (Hout := b.cpm) [(some 2, 0), (some 3, 0), (some 4, 0), (some 5, 0)] ?_ ?_ ?_ ?_ ?_ ?_ ?_ ⟨b, hv, hn4, rfl, rfl⟩ ?_ <;> simp
end Go.Proofs.YtnjpigkijdnpkaaGreat
