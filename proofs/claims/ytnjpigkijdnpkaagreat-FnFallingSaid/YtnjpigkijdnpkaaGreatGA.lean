/- Contracts: held places that are drawn; what the laws of descent ask of their own helpers. Plain law: held places stay but for signs of zeros; energies fall.
Conditions: none. -/
import Derived.Test.YtnjpigkijdnpkaaGreatG5
import Derived.Test.YtnjpigkijdnpkaaGreatG7
import Derived.Test.YtnjpigkijdnpkaaGreatG9
import Derived.Test.YtnjpigkijdnpkaaGreatG8
namespace Go.Proofs.YtnjpigkijdnpkaaGreat
set_option linter.all false
open Go Go.Awp
set_option maxRecDepth 100000
set_option maxHeartbeats 8000000
set_option pp.deepTerms true

/-- A number put into an ascending list. -/
def insL (n : Int) : List Int → List Int
  | [] => [n]
  | x :: l => if n ≤ x then (if n < x then n :: x :: l else x :: l) else x :: insL n l
theorem insL_len (n : Int) : ∀ l : List Int, (insL n l).length ≤ l.length + 1
  | [] => by simp [insL]
  | x :: l => by
    have := insL_len n l
    unfold insL
    split
    · split <;> simp
    · simp; omega
theorem pins_weak {n : Int} : ∀ {l : List Int} {a c : Int}, c ≤ a → pinsF n a l = true → pinsF n c l = true
  | [], _, _, _, _ => rfl
  | x :: l, a, c, hc, h => by
    simp only [pinsF, inB, Bool.and_eq_true, decide_eq_true_eq] at h ⊢
    exact ⟨by omega, h.2⟩
theorem insL_pins {N n : Int} : ∀ {l : List Int} {a : Int}, a < n → n < N → pinsF N a l = true → pinsF N a (insL n l) = true
  | [], a, h1, h2, _ => by simp [insL, pinsF, inB]; omega
  | x :: l, a, h1, h2, h => by
    simp only [pinsF, inB, Bool.and_eq_true, decide_eq_true_eq] at h
    unfold insL
    split
    · split
      · simp only [pinsF, inB, Bool.and_eq_true, decide_eq_true_eq]
        exact ⟨by omega, by omega, h.2⟩
      · simp only [pinsF, inB, Bool.and_eq_true, decide_eq_true_eq]
        exact ⟨by omega, h.2⟩
    · simp only [pinsF, inB, Bool.and_eq_true, decide_eq_true_eq]
      exact ⟨by omega, insL_pins (by omega) h2 h.2⟩
theorem c_l00Put (L : List Int) (n : Int) (m : Nat) (hm : m = L.length) (h : L.length ≤ 1000) : Fun Tryz.prog 39 [.view false (cIs L) m, .int .i64 n] [] (.slc 0 0 (insL n L).length 1) [.blk true false 2 (cIs (insL n L))] := by
  subst hm
  refine FnSpec.walk dr_ok Tryz.func39 rfl (by kernel_rfl) rfl rfl rfl (by simp) ?_
  simp
  refine loopG_of (α := Nat × List Int × Bool) (fun x => x.1 ≤ L.length ∧ x.2.1.length ≤ x.1 + x.2.2.toNat ∧ x.2.1 ++ (if x.2.2 = true then L.drop x.1 else insL n (L.drop x.1)) = insL n L) (fun x => L.length - x.1)
    (fun x => [(7, .int .i64 x.1), (6, .bool x.2.2), (5, .slc 0 0 x.2.1.length 1), (1, .int .i64 n), (0, .view false (cIs L) L.length)]) (fun x => [.blk true false 2 (cIs x.2.1)]) (0, [], false) ⟨Nat.zero_le _, by simp, by simp⟩ ?_ fun x hx => ?_
  · (refine weak_gc [(none, 2)] ?_ ?_ ?_ ?_ ?_ <;> simp)
  obtain ⟨k, O, d⟩ := x
  obtain ⟨hk, hO, hi⟩ := hx
  simp only at hk hO hi
  have hw := nat_wrap (k := k) (by omega)
  have htk : O.take O.length = O := List.take_length ..
  have hd1 : d.toNat ≤ 1 := by cases d <;> decide
  by_cases c : k < L.length
  · have hdr : L.drop k = L[k] :: L.drop (k + 1) := List.drop_eq_getElem_cons c
    rw [hdr] at hi
    simp [c]
    cases d with
    | true =>
      simp [c, hw]
      refine ⟨by omega, by omega, loopK_next (k + 1, O ++ [L[k]], true) (by simp only; omega) ⟨by simp only; omega, by simp at hO ⊢; omega, by simpa using hi⟩ ?_⟩
      (refine weak_gc [(some 2, 0)] ?_ ?_ ?_ ?_ ?_ <;> simp [hw])
    | false =>
      simp [c, hw]
      simp only [Bool.false_eq_true, if_false, insL] at hi
      refine ⟨fun g => ⟨fun g2 => ?_, fun g2 => ?_⟩, fun g => ?_⟩
      · rw [if_pos g, if_pos g2] at hi
        have hi2 : (O ++ [n, L[k]]) ++ (if true = true then L.drop (k + 1) else insL n (L.drop (k + 1))) = insL n L := by simpa using hi
        have htk2 : (O ++ [n]).take (O.length + 1) = O ++ [n] := List.take_of_length_le (by simp)
        have hO9 : O.length ≤ 1001 := by omega
        clear hi hdr htk
        refine ⟨Nat.le_trans hO9 (by decide), by omega, Nat.le_trans hO9 (by decide), by omega, ?_⟩
        refine loopK_next (k + 1, O ++ [n, L[k]], true) (by simp only; omega) ⟨by simp only; omega, by simp at hO ⊢; omega, hi2⟩ ?_
        (refine weak_gc [(some 4, 0)] ?_ ?_ ?_ ?_ ?_ <;> simp [hw, htk2])
      · rw [if_pos g, if_neg (by omega)] at hi
        refine ⟨by omega, by omega, loopK_next (k + 1, O ++ [L[k]], true) (by simp only; omega) ⟨by simp only; omega, by simp at hO ⊢; omega, by simpa using hi⟩ ?_⟩
        (refine weak_gc [(some 2, 0)] ?_ ?_ ?_ ?_ ?_ <;> simp [hw])
      · rw [if_neg (by omega)] at hi
        refine ⟨by omega, by omega, loopK_next (k + 1, O ++ [L[k]], false) (by simp only; omega) ⟨by simp only; omega, by simp at hO ⊢; omega, by simpa using hi⟩ ?_⟩
        (refine weak_gc [(some 2, 0)] ?_ ?_ ?_ ?_ ?_ <;> simp [hw])
  · have hk2 : k = L.length := by omega
    subst hk2
    rw [List.drop_length] at hi
    simp
    cases d with
    | true =>
      have e : insL n L = O := by simpa using hi.symm
      rw [e]
      simp
      (refine endG_keepT [(some 0, 0)] ?_ ?_ ?_ ?_ ?_ ?_ ?_ ⟨rfl, rfl⟩ ?_ <;> simp)
    | false =>
      have e : insL n L = O ++ [n] := by simpa [insL] using hi.symm
      rw [e]
      simp
      refine ⟨by omega, by omega, ?_⟩
      (refine endG_keepT [(some 2, 0)] ?_ ?_ ?_ ?_ ?_ ?_ ?_ ⟨rfl, rfl⟩ ?_ <;> simp)
/-- Held places drawn of bytes. -/
theorem c_B10Held (l : List Nat) (n : Nat) (hn : n = l.length) (b : Bod) (hl : l.length ≤ 1048576) (hb : ∀ b ∈ l, b < 256) (h2 : 1 < b.me.pl.length) (h3 : b.me.pl.length ≤ 64) :
    FnSpec Tryz.prog 8 [.view false (cBy l) n, b.av] [] fun av H => ∃ L : List Int, pinsF b.me.pl.length (-1) L = true ∧ L.length ≤ 3 ∧ H = [.blk true false 2 (cIs L)] ∧ av = .slc 0 0 L.length 1 := by
  subst hn
  refine FnSpec.walk dr_ok Tryz.func8 rfl (by kernel_rfl) rfl rfl rfl (by simp) ?_
  simp
  refine callG_v ?_; simp; refine callNV_fun (by with_reducible exact c_l00From l) ?_
  simp
  obtain ⟨_, k2, s2, hc2, hk2, x, hx, rfl⟩ := d_pick l 0 4 4 0 rfl hl hb (by omega) (by omega) (by omega)
  have hc2' : Fun Tryz.prog 38 [.ptr 0 0, .int .i64 4] [.blk false true 109 [.view false (cBy l) l.length, .int .i64 0, .int .u64 0]] (.int .i64 x) [rd false l k2 s2] := hc2
  (first | refine callG_on false [1] ?_ | refine callD_on false [1] ?_); simp; (first | refine callN_fun (by with_reducible exact hc2') (by simp) ?_ | refine callMD_fun (by with_reducible exact hc2') (by simp) ?_)
  simp
  refine loopG_of (α := List Int × Nat × Nat × Int) (fun y => y.1.length + y.2.1 ≤ 3 ∧ y.2.2.1 + 2 * y.2.1 ≤ 8 ∧ pinsF b.me.pl.length (-1) y.1 = true) (fun y => y.2.1)
    (fun y => [(8, .int .i64 y.2.1), (7, .int .i64 b.me.pl.length), (6, .slc 2 0 y.1.length 1), (5, .ptr 1 0)])
    (fun y => [.blk true true 34 b.cells, rd true l y.2.2.1 y.2.2.2, .blk true false 2 (cIs y.1)]) ([], x, k2, s2) ⟨by simp; omega, by simp; omega, rfl⟩ ?_ fun y hy => ?_
  · (refine weak_gc [(some 0, 0), (some 1, 0), (none, 2)] ?_ ?_ ?_ ?_ ?_ <;> simp)
  obtain ⟨L, q, kk, ss⟩ := y
  obtain ⟨hL, hq, hp⟩ := hy
  simp only at hL hq hp
  by_cases c : 0 < q
  · have c' : (0 : Int) < q := by omega
    have c3 : (0 : Int) < b.me.pl.length := by omega
    have c4 : 0 < b.me.pl.length := by omega
    simp [c, c', c3, c4]
    obtain ⟨_, k3, s3, hc3, hk3, z, hz, rfl⟩ := d_pick l kk b.me.pl.length b.me.pl.length ss rfl hl hb (by omega) (by omega) (by omega)
    (first | refine callG_on false [1] ?_ | refine callD_on false [1] ?_); simp; (first | refine callN_fun (by with_reducible exact hc3) (by simp) ?_ | refine callMD_fun (by with_reducible exact hc3) (by simp) ?_)
    simp
    (first | refine callG_r ?_ | refine callD_r ?_); simp; (first | refine callN_flat (by with_reducible first | exact c_l00Put L z _ rfl (by omega)) rfl ?_ | refine callN_new (by with_reducible first | exact c_l00Put L z _ rfl (by omega)) ?_ | refine callM_flat (by with_reducible first | exact c_l00Put L z _ rfl (by omega)) rfl ?_ | refine callM_new (by with_reducible first | exact c_l00Put L z _ rfl (by omega)) ?_)
    have hw : IntKind.i64.wrap ((q : Int) - 1) = ((q - 1 : Nat) : Int) := by rw [wrap64 (by omega) (by omega)]; omega
    have hil := insL_len z L
    simp [hw]
    refine loopK_next (insL z L, q - 1, k3, s3) (by simp only; omega) ⟨by simp only; omega, by simp only; omega, insL_pins (by omega) (by omega) hp⟩ ?_
    (refine weak_gc [(some 0, 0), (some 1, 0), (some 3, 0)] ?_ ?_ ?_ ?_ ?_ <;> simp [hw])
  · obtain rfl : q = 0 := by omega
    simp
    refine endG_keepT (r := .slc 0 0 L.length 1) (Hout := [.blk true false 2 (cIs L)]) [(some 2, 0)] ?_ ?_ ?_ ?_ ?_ ?_ ?_ ⟨L, hp, by omega, rfl, rfl⟩ ?_ <;> simp
/-- What b10At reads. -/
theorem c_b10AtK (l : List Nat) (k n : Nat) (hb : ∀ b ∈ l, b < 256) (hl : l.length ≤ 1048576) (hk : k ≤ 1048576) (hn : 1 < n) (hn2 : n ≤ 256) : ∃ x : Nat, x < n ∧ Fun Tryz.prog 9 [.view false (cBy l) l.length, .int .i64 k, .int .i64 n] [] (.int .i64 x) [] := by
  have c : ¬ n ≤ 1 := by omega
  have cI : ¬ (n : Int) ≤ 1 := by omega
  have hn0 : ¬ n = 0 := by omega
  by_cases d : k < l.length
  · have hx := hb _ (List.getElem_mem d)
    refine ⟨l[k] % n, Nat.mod_lt _ (by omega), ?_⟩
    have hw : IntKind.i64.wrap ((l[k] : Nat) : Int) = (l[k] : Nat) := wrap64 (by omega) (by omega)
    have hr : ((l[k] : Nat) : Int).tmod n = ((l[k] % n : Nat) : Int) := rfl
    refine FnSpec.walkF dr_ok Tryz.func9 rfl (by kernel_rfl) rfl rfl rfl (by simp) ?_
    simp [c, cI, d, hw, hr, hn0]
  · refine ⟨(k * 37 + 11) % n, Nat.mod_lt _ (by omega), ?_⟩
    have dI : ¬ (k : Int) < l.length := by omega
    have hw : IntKind.i64.wrap ((k : Int) * 37) = (k : Int) * 37 := wrap64 (by omega) (by omega)
    have hw2 : IntKind.i64.wrap ((k : Int) * 37 + 11) = (k : Int) * 37 + 11 := wrap64 (by omega) (by omega)
    have hr : ((k : Int) * 37 + 11).tmod n = ((k : Int) * 37 + 11) % n := Int.tmod_eq_emod_of_nonneg (by omega)
    refine FnSpec.walkF dr_ok Tryz.func9 rfl (by kernel_rfl) rfl rfl rfl (by simp) ?_
    simp [c, cI, d, dI, hw, hw2, hn0, hr]
theorem c_EnergyOf (b : Bod) (hs : b.Small) (hv : vldB b = true) : Fun Tryz.prog 15 [b.av] [] (.tup [.flt .f32 (enB b), .bool true]) [] := by
  refine FnSpec.walkF dr_ok Tryz.func15 rfl (by kernel_rfl) rfl rfl rfl (by simp) ?_
  simp
  (first | refine callG_r ?_ | refine callD_r ?_); simp; (first | refine callN_flat (by with_reducible first | exact c_ValidBody b hs) rfl ?_ | refine callN_new (by with_reducible first | exact c_ValidBody b hs) ?_ | refine callM_flat (by with_reducible first | exact c_ValidBody b hs) rfl ?_ | refine callM_new (by with_reducible first | exact c_ValidBody b hs) ?_)
  simp [hv]
  (first | refine callG_r ?_ | refine callD_r ?_); simp; (first | refine callN_flat (by with_reducible first | exact c_energyOf b hs hv) rfl ?_ | refine callN_new (by with_reducible first | exact c_energyOf b hs hv) ?_ | refine callM_flat (by with_reducible first | exact c_energyOf b hs hv) rfl ?_ | refine callM_new (by with_reducible first | exact c_energyOf b hs hv) ?_)
  simp
theorem c_specSameE (x : Nat) : Fun Tryz.prog 16 [.flt .f32 x, .flt .f32 x] [] (.bool true) [] := fn_can fun hc => by
  have h : CanF .f32 x := hc (.flt .f32 x) (by simp)
  refine FnSpec.walkF dr_ok Tryz.func16 rfl (by kernel_rfl) rfl rfl rfl (by simp) ?_
  simp
  (first | refine callG_r ?_ | refine callD_r ?_); simp; (first | refine callN_flat (by with_reducible first | exact c_l01Same h h) rfl ?_ | refine callN_new (by with_reducible first | exact c_l01Same h h) ?_ | refine callM_flat (by with_reducible first | exact c_l01Same h h) rfl ?_ | refine callM_new (by with_reducible first | exact c_l01Same h h) ?_)
  simp
/-- The same but for the sign of a zero. -/
def Alk (x y : Nat) : Prop := x = y ∨ ford .f32 x y = some .eq
theorem c_b10Alike {x y : Nat} (h : Alk x y) : Fun Tryz.prog 64 [.flt .f32 x, .flt .f32 y] [] (.bool true) [] := by
  rcases h with rfl | h
  · refine FnSpec.walkF dr_ok Tryz.func64 rfl (by kernel_rfl) rfl rfl rfl (by simp) ?_
    simp
    intro _
    (first | refine callG_r ?_ | refine callD_r ?_); simp; (first | refine callN_flat (by with_reducible first | exact c_specSameE x) rfl ?_ | refine callN_new (by with_reducible first | exact c_specSameE x) ?_ | refine callM_flat (by with_reducible first | exact c_specSameE x) rfl ?_ | refine callM_new (by with_reducible first | exact c_specSameE x) ?_)
    simp
  · refine FnSpec.walkF dr_ok Tryz.func64 rfl (by kernel_rfl) rfl rfl rfl (by simp) ?_
    simp [h]
def VAlk (v w : V) : Prop := Alk v.1 w.1 ∧ Alk v.2.1 w.2.1 ∧ Alk v.2.2 w.2.2
theorem c_b10VAlike {v w : V} (h : VAlk v w) : Fun Tryz.prog 27 [aV v, aV w] [] (.bool true) [] := by
  obtain ⟨h1, h2, h3⟩ := h
  refine FnSpec.walkF dr_ok Tryz.func27 rfl (by kernel_rfl) rfl rfl rfl (by simp) ?_
  simp
  (first | refine callG_r ?_ | refine callD_r ?_); simp; (first | refine callN_flat (by with_reducible first | exact c_b10Alike h1) rfl ?_ | refine callN_new (by with_reducible first | exact c_b10Alike h1) ?_ | refine callM_flat (by with_reducible first | exact c_b10Alike h1) rfl ?_ | refine callM_new (by with_reducible first | exact c_b10Alike h1) ?_)
  simp
  (first | refine callG_r ?_ | refine callD_r ?_); simp; (first | refine callN_flat (by with_reducible first | exact c_b10Alike h2) rfl ?_ | refine callN_new (by with_reducible first | exact c_b10Alike h2) ?_ | refine callM_flat (by with_reducible first | exact c_b10Alike h2) rfl ?_ | refine callM_new (by with_reducible first | exact c_b10Alike h2) ?_)
  simp
  (first | refine callG_r ?_ | refine callD_r ?_); simp; (first | refine callN_flat (by with_reducible first | exact c_b10Alike h3) rfl ?_ | refine callN_new (by with_reducible first | exact c_b10Alike h3) ?_ | refine callM_flat (by with_reducible first | exact c_b10Alike h3) rfl ?_ | refine callM_new (by with_reducible first | exact c_b10Alike h3) ?_)
  simp
theorem c_b10Kept (a b : Bod) (held : List Int) (hl : a.me.pl.length = b.me.pl.length) (h64 : b.me.pl.length ≤ 64) (hh : held.length ≤ 1048576) (hp : ∀ p ∈ held, 0 ≤ p ∧ p < b.me.pl.length)
    (h : ∀ p ∈ held, VAlk (a.me.pl.getD p.toNat (0, 0, 0)) (b.me.pl.getD p.toNat (0, 0, 0))) : Fun Tryz.prog 14 [a.av, b.av, .view false (cIs held) held.length] [] (.bool true) [] := by
  refine FnSpec.walkF dr_ok Tryz.func14 rfl (by kernel_rfl) rfl rfl rfl (by simp) ?_
  simp [hl]
  refine loopG_of (α := Nat) (fun k => k ≤ held.length) (fun k => held.length - k) (fun k => [(19, .int .i64 k), (18, .int .i64 held.length), (4, .ptr 1 0), (3, .ptr 0 0), (2, .view false (cIs held) held.length)])
    (fun k => [.blk true true 34 a.cells, .blk true true 34 b.cells]) 0 (by simp) ?_ fun k hk => ?_
  · (refine weak_gc [(some 0, 0), (some 1, 0)] ?_ ?_ ?_ ?_ ?_ <;> simp [hl])
  have hw := nat_wrap (k := k) (by omega)
  by_cases c : k < held.length
  · have hpk := hp _ (List.getElem_mem c)
    have hak := h _ (List.getElem_mem c)
    obtain ⟨p, he⟩ : ∃ p : Nat, held[k] = (p : Int) := ⟨held[k].toNat, by omega⟩
    rw [he] at hpk hak
    have hpb : p < b.me.pl.length := by omega
    have hpa : p < a.me.pl.length := by omega
    rw [Int.toNat_natCast, List.getD_eq_getElem?_getD, List.getD_eq_getElem?_getD, List.getElem?_eq_getElem hpa, List.getElem?_eq_getElem hpb] at hak
    have hak : VAlk a.me.pl[p] b.me.pl[p] := hak
    simp [c, he, hw, hpa, hpb, hl]
    (first | refine callG_r ?_ | refine callD_r ?_); simp; (first | refine callN_flat (by with_reducible first | exact c_b10VAlike hak) rfl ?_ | refine callN_new (by with_reducible first | exact c_b10VAlike hak) ?_ | refine callM_flat (by with_reducible first | exact c_b10VAlike hak) rfl ?_ | refine callM_new (by with_reducible first | exact c_b10VAlike hak) ?_)
    simp [hw]
    refine loopK_next (k + 1) (by omega) (by omega) ?_
    (refine weak_gc [(some 0, 0), (some 1, 0)] ?_ ?_ ?_ ?_ ?_ <;> simp [hw, hl])
  · obtain rfl : k = held.length := by omega
    simp
end Go.Proofs.YtnjpigkijdnpkaaGreat
namespace Go.Proofs.YtnjpigkijdnpkaaGreat
set_option linter.all false
open Go Go.Awp Ieee
set_option maxRecDepth 100000
set_option maxHeartbeats 4000000

theorem nan_zs (x : Nat) : nanB .f32 (zs x) = nanB .f32 x := by
  unfold zs
  split
  · rename_i h; subst h; decide +kernel
  · rfl
theorem nan_of_zs {x y : Nat} (h : zs x = zs y) : nanB .f32 x = nanB .f32 y := by rw [← nan_zs x, ← nan_zs y, h]
theorem fop_can32 (op : BinOp) (a b : Nat) : CanF .f32 (fop op .f32 a b) := by
  unfold fop
  cases h : floatBits op .f32 a b with
  | some r =>
    have hl := floatBits_wf h
    have hl : r < 4294967296 := by simpa [Lit.wf] using hl
    exact ⟨cn_num (floatBits_num h), hl⟩
  | none => exact ⟨cn_nan (nanB_qnan .f32), qnan_lt .f32⟩
/-- A zero that is added. -/
theorem add_zero32 {x : Nat} (hx : CanF .f32 x) (n : nanB .f32 x = false) : zs (fop .add .f32 x 0) = zs x := by
  have hl : x < 4294967296 := hx.2
  have hn := num_le hl n
  show zs ((((F32.read x).sum (F32.read 0)).map F32.write).getD (qnan .f32)) = zs x
  rw [rd_pz]
  by_cases c : x % 2147483648 < 2139095040
  · obtain ⟨m, e, h1, h2, h3⟩ := read_rmag F (w := x) (by rw [fS, fI]; exact c)
    rw [fS] at h1 h3
    have h1 : F32.read x = .number (x / 2147483648 % 2 == 1) m e := h1
    rw [h1]
    by_cases hm : m = 0
    · subst hm
      have hx0 : x % 2147483648 = 0 := by
        have h4 : rmag F (x % 2147483648) = 0 := by rw [← h3, Nat.zero_mul]
        unfold rmag at h4
        split at h4
        · exact h4
        · exfalso
          have : 0 < F.binade := by rw [fB]; decide
          rcases Nat.mul_eq_zero.1 h4 with g | g
          · omega
          · exact absurd g (Nat.ne_of_gt (Nat.two_pow_pos _))
      have hz : x = 0 ∨ x = 2147483648 := by omega
      have hsum : ∀ t : Bool, zs ((((Datum.number t 0 e).sum (.number false 0 F32.leastPlace)).map F32.write).getD (qnan .f32)) = 0 := by
        intro t
        simp only [Datum.sum, signed_zero, Int.add_zero, if_true, Int.natAbs_zero, Option.map_some, Option.getD_some, Format.write]
        rw [near_zero]
        cases t <;> decide +kernel
      rw [hsum]
      rcases hz with rfl | rfl <;> rfl
    · have hmin : min e F32.leastPlace = F32.leastPlace := by
        have : F.leastPlace ≤ e := h2
        exact Int.min_eq_right this
      have hpos : 0 < m * 2 ^ (e - F32.leastPlace).toNat := Nat.mul_pos (Nat.pos_of_ne_zero hm) (Nat.two_pow_pos _)
      have key : ∀ s : Bool, zs (((((Datum.number s m e).sum (.number false 0 F32.leastPlace)).map F32.write)).getD (qnan .f32)) = zs (F32.nearest s m e) := by
        intro s
        simp only [Datum.sum, hmin, signed_zero, Int.add_zero]
        have hv : signed s m (e - F32.leastPlace).toNat = if s = true then -((m * 2 ^ (e - F32.leastPlace).toNat : Nat) : Int) else ((m * 2 ^ (e - F32.leastPlace).toNat : Nat) : Int) := by
          unfold signed
          rw [Nat.shiftLeft_eq]
        rw [hv]
        generalize hM : m * 2 ^ (e - F32.leastPlace).toNat = M at hpos
        have hnz : (if s = true then -(M : Int) else (M : Int)) ≠ 0 := by cases s <;> simp <;> omega
        rw [if_neg hnz]
        have hneg : decide ((if s = true then -(M : Int) else (M : Int)) < 0) = s := by cases s <;> simp <;> omega
        have habs : (if s = true then -(M : Int) else (M : Int)).natAbs = M := by cases s <;> simp
        rw [hneg, habs]
        show zs (F32.nearest s M F32.leastPlace) = _
        rw [near_at (f := F32) (s := s) (m := m) (e := e) (p := F32.leastPlace) h2 hM]
      rw [key]
      have : F32.nearest (x / 2147483648 % 2 == 1) m e = x := by
        rw [near_at (f := F32) h2 h3, near_rmag F32 _ (by show _ ≤ F.infRung; rw [fI]; omega)]
        unfold Format.word
        rw [show F32.signWeight = 2147483648 from fS]
        by_cases c : x < 2147483648
        · rw [show x / 2147483648 = 0 by omega]; simp; omega
        · rw [show x / 2147483648 = 1 by omega]; simp; omega
      rw [this]
  · have hi : x = 2139095040 ∨ x = 4286578688 := by omega
    rcases hi with rfl | rfl <;> decide +kernel
/-- What a zero leaves. -/
theorem add_zn {x m : Nat} (hx : CanF .f32 x) (hm : zs m = 0) (hn : nanB .f32 (fop .add .f32 x m) = false) : zs (fop .add .f32 x m) = zs x := by
  have n : nanB .f32 x = false := by
    cases h : nanB .f32 x with
    | false => rfl
    | true => rw [fop_nan_l .add m h] at hn; cases hn
  rw [add_z (x := x) (x' := x) (y := m) (y' := 0) rfl (by rw [hm]; rfl), add_zero32 hx n]
/-- A zero, or no number. -/
def ZN (x : Nat) : Prop := zs x = 0 ∨ nanB .f32 x = true
def VZN (v : V) : Prop := ZN v.1 ∧ ZN v.2.1 ∧ ZN v.2.2
def VNum (v : V) : Prop := nanB .f32 v.1 = false ∧ nanB .f32 v.2.1 = false ∧ nanB .f32 v.2.2 = false
theorem zn_mul {w h : Nat} (hw : ZN w) : ZN (fop .mul .f32 w h) := by
  rcases hw with hw | hw
  · have e : zs (fop .mul .f32 w h) = zs (fop .mul .f32 0 h) := mul_z (by rw [hw]; rfl) rfl
    cases hf : finB h with
    | true => left; rw [e]; exact mul_zero_fin hf
    | false => right; rw [nan_of_zs e]; exact mul_zero_inf hf
  · right; exact fop_nan_l .mul h hw
theorem zn_add0 {m : Nat} (h : ZN m) : ZN (fop .add .f32 0 m) := by
  rcases h with h | h
  · left
    have e : zs (fop .add .f32 0 m) = zs (fop .add .f32 0 0) := add_z rfl (by rw [h]; rfl)
    rw [e]; decide +kernel
  · right; exact fop_nan_r .add 0 h
theorem step_zn {x w s : Nat} (hx : CanF .f32 x) (hw : ZN w) (hs : finB s = true) (hn : nanB .f32 (fop .add .f32 x (fop .mul .f32 w s)) = false) : zs (fop .add .f32 x (fop .mul .f32 w s)) = zs x := by
  rcases hw with hw | hw
  · refine add_zn hx ?_ hn
    have e : zs (fop .mul .f32 w s) = zs (fop .mul .f32 0 s) := mul_z (by rw [hw]; rfl) rfl
    rw [e]; exact mul_zero_fin hs
  · rw [fop_nan_r .add x (fop_nan_l .mul s hw)] at hn; cases hn
theorem vadd_can (a b : V) : CanV (vadd a b) := ⟨fop_can32 .., fop_can32 .., fop_can32 ..⟩
-- the energy tells of no numbers
theorem inner_nan {f p : V} (h : ¬ VNum p) : nanB .f32 (vinner f p) = true := by
  unfold vinner
  have key : ∀ {a : Nat}, nanB .f32 a = true → ∀ b, nanB .f32 (fop .mul .f32 b a) = true := fun h b => fop_nan_r .mul b h
  unfold VNum at h
  cases h1 : nanB .f32 p.1 with
  | true => exact fop_nan_l .add _ (fop_nan_l .add _ (key h1 _))
  | false =>
    cases h2 : nanB .f32 p.2.1 with
    | true => exact fop_nan_l .add _ (fop_nan_r .add _ (key h2 _))
    | false =>
      cases h3 : nanB .f32 p.2.2 with
      | true => exact fop_nan_r .add _ (key h3 _)
      | false => exact absurd ⟨h1, h2, h3⟩ h
theorem neg_nan {x : Nat} (hx : x < 4294967296) (h : nanB .f32 x = true) : nanB .f32 (fneg .f32 x) = true := by
  unfold fneg
  rw [nanB_cn, nanB_neg .f32 x hx]; exact h
theorem enW_nan {b : Bod} {x i : Nat} (h : ¬ VNum (b.me.pl.getD i (0, 0, 0))) : nanB .f32 (enW b x i) = true := by
  unfold enW
  exact fop_nan_r .add _ (neg_nan (fop_can32 ..).2 (fop_nan_r .mul _ (inner_nan h)))
theorem eP3_nan {b : Bod} {p : Nat} (h : ¬ VNum (b.me.pl.getD p (0, 0, 0))) : ∀ k, p < k → nanB .f32 (eP3 b k) = true
  | 0, hk => by omega
  | k + 1, hk => by
    have e : eP3 b (k + 1) = enW b (eP3 b k) k := by unfold eP3; rw [List.range_succ, List.foldl_append]; rfl
    rw [e]
    by_cases c : p = k
    · subst c; exact enW_nan h
    · unfold enW; exact fop_nan_l .add _ (eP3_nan h k (by omega))
theorem enB_num {b : Bod} {p : Nat} (hp : p < b.me.pl.length) (h : nanB .f32 (enB b) = false) : VNum (b.me.pl.getD p (0, 0, 0)) := by
  refine Classical.byContradiction fun hn => ?_
  have := eP3_nan hn b.me.pl.length hp
  unfold enB at h
  rw [fop_nan_r .add _ this] at h; cases h
theorem lt_num {x y : Nat} (h : ford .f32 x y = some .lt) : nanB .f32 x = false ∧ nanB .f32 y = false := by
  constructor
  · cases n : nanB .f32 x with
    | false => rfl
    | true => rw [ford_nan_l n] at h; cases h
  · cases n : nanB .f32 y with
    | false => rfl
    | true => rw [ford_nan_r n] at h; cases h
theorem lt_key {x y : Nat} (h : ford .f32 x y = some .lt) : keyW .f32 x < keyW .f32 y := by
  obtain ⟨hx, hy⟩ := lt_num h
  rw [ford_key hx hy] at h
  have h := Option.some.inj h
  rcases Int.lt_trichotomy (keyW .f32 x) (keyW .f32 y) with c | c | c
  · exact c
  · rw [c] at h; simp [compare, compareOfLessAndEq] at h
  · have h1 : ¬ keyW .f32 x < keyW .f32 y := by omega
    have h2 : ¬ keyW .f32 x = keyW .f32 y := by omega
    simp [compare, compareOfLessAndEq, h1, h2] at h
theorem lt_trans {x y z : Nat} (h1 : ford .f32 x y = some .lt) (h2 : ford .f32 y z = some .lt) : ford .f32 x z = some .lt := by
  have k1 := lt_key h1
  have k2 := lt_key h2
  rw [ford_key (lt_num h1).1 (lt_num h2).2]
  simp [compare, compareOfLessAndEq, show keyW .f32 x < keyW .f32 z by omega]
theorem lt_irr (x : Nat) : ford .f32 x x ≠ some .lt := fun h => by have := lt_key h; omega
-- one step
def finH : Nat → Nat → Bool
  | 0, s => finB s
  | n + 1, s => finB s && finH n (fop .quo .f32 s 1073741824)
theorem finH_ok : ∀ a ∈ List.range 8, finH 21 (fop .quo .f32 (fint .f32 (1 + (a : Int))) 1090519040) = true ∧ overB (fop .quo .f32 (fint .f32 (1 + (a : Int))) 1090519040) = true := by decide +kernel
/-- Held places of two bodies, but for signs of zeros. -/
structure Kp (held : List Int) (a b : Bod) : Prop where
  len : b.me.pl.length = a.me.pl.length
  can : ∀ v ∈ b.me.pl, CanV v
  pl : ∀ p ∈ held, vz (b.me.pl.getD p.toNat (0, 0, 0)) = vz (a.me.pl.getD p.toNat (0, 0, 0))
theorem Kp.trans {held : List Int} {a b c : Bod} (h1 : Kp held a b) (h2 : Kp held b c) : Kp held a c := ⟨h2.len.trans h1.len, h2.can, fun p hp => (h2.pl p hp).trans (h1.pl p hp)⟩
theorem Kp.refl {held : List Int} {a : Bod} (h : ∀ v ∈ a.me.pl, CanV v) : Kp held a a := ⟨rfl, h, fun _ _ => rfl⟩
theorem mov_kp {b : Bod} {way : List V} {s : Nat} {held : List Int} (hl : way.length = b.me.pl.length) (hc : ∀ v ∈ b.me.pl, CanV v) (hs : finB s = true) (hp : ∀ p ∈ held, 0 ≤ p ∧ p < b.me.pl.length)
    (hw : ∀ p ∈ held, VZN (way.getD p.toNat (0, 0, 0))) (hn : nanB .f32 (enB (movB b way s)) = false) : Kp held b (movB b way s) := by
  have hml : (movB b way s).me.pl.length = b.me.pl.length := movB_pl hl
  refine ⟨hml, fun v hv => ?_, fun p hpp => ?_⟩
  · obtain ⟨i, hi, rfl⟩ := List.getElem_of_mem hv
    have hib : i < b.me.pl.length := by rw [← hml]; exact hi
    have e := movP_at (s := s) hib (by omega : i < way.length)
    have e : (movB b way s).me.pl[i] = vadd b.me.pl[i] (vscale way[i] s) := e
    rw [e]; exact vadd_can _ _
  · obtain ⟨q, hq⟩ : ∃ q : Nat, p = (q : Int) := ⟨p.toNat, by have := hp p hpp; omega⟩
    subst hq
    have hqb : q < b.me.pl.length := by have := hp _ hpp; omega
    have hqm : q < (movB b way s).me.pl.length := by rw [hml]; exact hqb
    have hnum := enB_num hqm hn
    have hz := hw _ hpp
    rw [Int.toNat_natCast] at hz ⊢
    rw [List.getD_eq_getElem?_getD, List.getElem?_eq_getElem hqm] at hnum ⊢
    rw [List.getD_eq_getElem?_getD, List.getElem?_eq_getElem hqb]
    rw [List.getD_eq_getElem?_getD, List.getElem?_eq_getElem (by omega : q < way.length)] at hz
    have e : (movB b way s).me.pl[q] = vadd b.me.pl[q] (vscale way[q] s) := movP_at (s := s) hqb (by omega : q < way.length)
    simp only [Option.getD_some] at hnum hz ⊢
    rw [e] at hnum ⊢
    obtain ⟨c1, c2, c3⟩ := hc _ (List.getElem_mem hqb)
    exact vz_mk (step_zn c1 hz.1 hs hnum.1) (step_zn c2 hz.2.1 hs hnum.2.1) (step_zn c3 hz.2.2 hs hnum.2.2)
structure StepOk (held : List Int) (b : Bod) (r : Bod × Nat × Bool) : Prop where
  kp : Kp held b r.1
  few : r.2.1 ≤ 20
  fell : r.2.2 = true → ford .f32 (enB r.1) (enB b) = some .lt
  stay : r.2.2 = false → r.1 = b
theorem stepA_ok {b : Bod} {way : List V} {held : List Int} (hl : way.length = b.me.pl.length) (hc : ∀ v ∈ b.me.pl, CanV v) (hp : ∀ p ∈ held, 0 ≤ p ∧ p < b.me.pl.length) (hw : ∀ p ∈ held, VZN (way.getD p.toNat (0, 0, 0))) :
    ∀ (n k s : Nat), k + n = 21 → finH n s = true → StepOk held b (stepA b way n k s)
  | 0, k, s, _, _ => ⟨Kp.refl hc, Nat.le_refl _, fun h => (by cases h), fun _ => rfl⟩
  | n + 1, k, s, hk, hf => by
    simp only [finH, Bool.and_eq_true] at hf
    unfold stepA
    by_cases c : fellB b way s = true
    · rw [if_pos c]
      have c' : ford .f32 (enB (movB b way s)) (enB b) = some .lt := by unfold fellB at c; simpa using c
      exact ⟨mov_kp hl hc hf.1 hp hw (lt_num c').1, by show k ≤ 20; omega, fun _ => c', fun h => by cases h⟩
    · rw [if_neg c]
      exact stepA_ok hl hc hp hw n (k + 1) _ (by omega) hf.2
theorem zn_free {held : List Int} {v : List V} : ∀ p ∈ held, VZN ((freeL v held).getD p.toNat (0, 0, 0)) := fun p hp => by
  rw [free_get v hp]; exact ⟨.inl rfl, .inl rfl, .inl rfl⟩
theorem downR_ok {b : Bod} {held : List Int} {s : Nat} (hc : ∀ v ∈ b.me.pl, CanV v) (hp : ∀ p ∈ held, 0 ≤ p ∧ p < b.me.pl.length) (hf : finH 21 s = true) : StepOk held b (downR b held s) :=
  stepA_ok (by rw [freeL_len, frcB_len]) hc hp zn_free 21 0 s rfl hf
/-- Energies that fall. -/
def Desc : List Nat → Prop
  | [] => True
  | [_] => True
  | x :: y :: l => ford .f32 y x = some .lt ∧ Desc (y :: l)
theorem desc_push : ∀ {E : List Nat} {x y : Nat}, Desc (E ++ [x]) → ford .f32 y x = some .lt → Desc (E ++ [x] ++ [y])
  | [], x, y, _, h => ⟨h, trivial⟩
  | [a], x, y, hd, h => ⟨hd.1, h, trivial⟩
  | a :: b :: E, x, y, hd, h => ⟨hd.1, desc_push (E := b :: E) hd.2 h⟩
theorem desc_at : ∀ {E : List Nat}, Desc E → ∀ i (h : i + 1 < E.length), ford .f32 E[i + 1] (E[i]'(by omega)) = some .lt
  | [], _, i, h => by simp at h
  | [_], _, i, h => by simp at h
  | x :: y :: l, hd, 0, h => hd.1
  | x :: y :: l, hd, i + 1, h => desc_at (E := y :: l) hd.2 i (by simpa using h)
structure RunOk (held : List Int) (b : Bod) (n : Nat) (E0 : List Nat) (r : Bod × List Nat) : Prop where
  kp : Kp held b r.1
  ex : ∃ E, r.2 = E0 ++ E ∧ E.length ≤ n
  last : ∃ E, r.2 = E ++ [enB r.1]
  desc : Desc r.2
theorem runD_ok {held : List Int} {s : Nat} (hf : finH 21 s = true) : ∀ (n : Nat) {b : Bod} {E0 : List Nat}, (∀ v ∈ b.me.pl, CanV v) → (∀ p ∈ held, 0 ≤ p ∧ p < b.me.pl.length) → Desc (E0 ++ [enB b]) → RunOk held b n (E0 ++ [enB b]) (runD held s n b (E0 ++ [enB b]))
  | 0, b, E0, hc, hp, hd => ⟨Kp.refl hc, ⟨[], by simp [runD], by simp⟩, ⟨E0, rfl⟩, hd⟩
  | n + 1, b, E0, hc, hp, hd => by
    have hs := downR_ok hc hp hf
    rw [runD_succ]
    by_cases c : (downR b held s).2.2 = true
    · rw [if_pos c]
      have hlt := hs.fell c
      have h1 := runD_ok hf n (b := (downR b held s).1) (E0 := E0 ++ [enB b]) hs.kp.can (by rw [hs.kp.len]; exact hp) (desc_push hd hlt)
      obtain ⟨E, e1, e2⟩ := h1.ex
      exact ⟨hs.kp.trans h1.kp, ⟨[enB (downR b held s).1] ++ E, by rw [e1]; simp, by simp; omega⟩, h1.last, h1.desc⟩
    · rw [if_neg c]
      exact ⟨Kp.refl hc, ⟨[], by simp, by simp⟩, ⟨E0, rfl⟩, hd⟩
theorem runD_some {held : List Int} {s n : Nat} {b : Bod} (hf : finH 21 s = true) (hc : ∀ v ∈ b.me.pl, CanV v) (hp : ∀ p ∈ held, 0 ≤ p ∧ p < b.me.pl.length) (hn : 0 < n) : (decide (1 < (runD held s n b [enB b]).2.length)) = (downR b held s).2.2 := by
  obtain ⟨m, rfl⟩ : ∃ m, n = m + 1 := ⟨n - 1, by omega⟩
  rw [runD_succ]
  have hs := downR_ok hc hp hf
  cases c : (downR b held s).2.2 with
  | true =>
    rw [if_pos rfl]
    have h1 := runD_ok hf m (b := (downR b held s).1) (E0 := [enB b]) hs.kp.can (by rw [hs.kp.len]; exact hp) ⟨hs.fell c, trivial⟩
    obtain ⟨E, e1, _⟩ := h1.ex
    rw [e1]; simp
  | false => rw [if_neg (by simp)]; simp
structure TurnOk (held : List Int) (b : Bod) (n c : Nat) (r : Bod × Nat) : Prop where
  kp : Kp held b r.1
  few : c ≤ r.2 ∧ r.2 ≤ c + n
  fell : c < r.2 → ford .f32 (enB r.1) (enB b) = some .lt
  stay : r.2 = c → r.1 = b
theorem nextW_zn {held : List Int} {b0 B : List V} {way : List V} {v : List V} (hB : B = freeL v held) (hl : way.length = B.length) (hp : ∀ p ∈ held, 0 ≤ p ∧ p < B.length) (hw : ∀ p ∈ held, VZN (way.getD p.toNat (0, 0, 0))) :
    ∀ p ∈ held, VZN ((nextW b0 B way).getD p.toNat (0, 0, 0)) := by
  intro p hpp
  have hpl := hp p hpp
  have e : (nextW b0 B way).getD p.toNat (0, 0, 0) = vadd (B.getD p.toNat (0, 0, 0)) (vscale (way.getD p.toNat (0, 0, 0)) (nextH b0 B)) := by
    unfold nextW nxtN
    rw [List.getD_eq_getElem?_getD, List.getElem?_map, List.getElem?_range (by omega)]; rfl
  rw [e, hB, free_get v hpp]
  obtain ⟨w1, w2, w3⟩ := hw p hpp
  exact ⟨zn_add0 (zn_mul w1), zn_add0 (zn_mul w2), zn_add0 (zn_mul w3)⟩
theorem turnD_ok {held : List Int} {s : Nat} (hf : finH 21 s = true) : ∀ (n : Nat) {b : Bod} {way : List V} {c : Nat}, way.length = b.me.pl.length → (∀ v ∈ b.me.pl, CanV v) → (∀ p ∈ held, 0 ≤ p ∧ p < b.me.pl.length) →
    (∀ p ∈ held, VZN (way.getD p.toNat (0, 0, 0))) → TurnOk held b n c (turnD held s n b way c)
  | 0, b, way, c, hl, hc, hp, hw => ⟨Kp.refl hc, ⟨Nat.le_refl _, Nat.le_refl _⟩, fun h => absurd h (Nat.lt_irrefl _), fun _ => rfl⟩
  | n + 1, b, way, c, hl, hc, hp, hw => by
    have h1 : StepOk held b (stepR b way s) := stepA_ok hl hc hp hw 21 0 s rfl hf
    have h2 : StepOk held b (stepR b (freeL (frcB b) held) s) := stepA_ok (by rw [freeL_len, frcB_len]) hc hp zn_free 21 0 s rfl hf
    have hFl : (freeL (frcB b) held).length = b.me.pl.length := by rw [freeL_len, frcB_len]
    have go : ∀ (r : Bod × Nat × Bool) (w2 : List V), StepOk held b r → r.2.2 = true → w2.length = b.me.pl.length → (∀ p ∈ held, VZN (w2.getD p.toNat (0, 0, 0))) →
        TurnOk held b (n + 1) c (turnD held s n r.1 (nextW (freeL (frcB b) held) (freeL (frcB r.1) held) w2) (c + 1)) := by
      intro r w2 hr hfell hwl hwz
      have hBl : (freeL (frcB r.1) held).length = r.1.me.pl.length := by rw [freeL_len, frcB_len]
      have hrl := hr.kp.len
      have h3 := turnD_ok hf n (b := r.1) (way := nextW (freeL (frcB b) held) (freeL (frcB r.1) held) w2) (c := c + 1) (by rw [nextW_len, hBl]) hr.kp.can (by rw [hrl]; exact hp)
        (nextW_zn rfl (by rw [hBl, hrl, hwl]) (by rw [hBl, hrl]; exact hp) hwz)
      refine ⟨hr.kp.trans h3.kp, ⟨by have := h3.few; omega, by have := h3.few; omega⟩, fun _ => ?_, fun e => by have := h3.few; omega⟩
      by_cases ce : c + 1 < (turnD held s n r.1 (nextW (freeL (frcB b) held) (freeL (frcB r.1) held) w2) (c + 1)).2
      · exact lt_trans (h3.fell ce) (hr.fell hfell)
      · rw [h3.stay (by have := h3.few; omega)]
        exact hr.fell hfell
    rw [turnD_succ]
    by_cases c1 : (stepR b way s).2.2 = true
    · rw [if_pos c1]
      exact go _ _ h1 c1 hl hw
    · rw [if_neg c1]
      by_cases c2 : (stepR b (freeL (frcB b) held) s).2.2 = true
      · rw [if_pos c2]
        exact go _ _ h2 c2 hFl zn_free
      · rw [if_neg c2]
        exact ⟨Kp.refl hc, ⟨Nat.le_refl _, by omega⟩, fun h => absurd h (Nat.lt_irrefl _), fun _ => rfl⟩
theorem alk_of_zs {x y : Nat} (h : zs x = zs y) : Alk x y := by
  unfold zs at h
  split at h
  · split at h
    · rename_i h1 h2; left; rw [h1, h2]
    · rename_i h1 h2; right; rw [h1, ← h]; decide +kernel
  · split at h
    · rename_i h1 h2; right; rw [h2, h]; decide +kernel
    · left; exact h
theorem Kp.alk {held : List Int} {a b : Bod} (h : Kp held a b) : ∀ p ∈ held, VAlk (a.me.pl.getD p.toNat (0, 0, 0)) (b.me.pl.getD p.toNat (0, 0, 0)) := fun p hp => by
  obtain ⟨h1, h2, h3⟩ := vz_eq (h.pl p hp).symm
  exact ⟨alk_of_zs h1, alk_of_zs h2, alk_of_zs h3⟩
end Go.Proofs.YtnjpigkijdnpkaaGreat
