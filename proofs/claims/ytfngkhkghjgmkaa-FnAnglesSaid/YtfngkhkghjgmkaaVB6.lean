/- Points in sixteenths: what the check of all rows tells.
Conditions: none. -/
import Derived.Test.YtfngkhkghjgmkaaBA
import Derived.Test.YtfngkhkghjgmkaaBB
import Derived.Test.YtfngkhkghjgmkaaBC
import Derived.Test.YtfngkhkghjgmkaaBD
import Derived.Test.YtfngkhkghjgmkaaVB5
namespace Go.Proofs.Ytfngkhkghjgmkaa
set_option linter.all false
open Go Go.Awp
set_option maxRecDepth 100000
set_option maxHeartbeats 4000000

theorem all_rows : (List.all [(nat_lit 0, nat_lit 0, nat_lit 0), (nat_lit 4589168020290535424, nat_lit 1031798784, nat_lit 3179282432), (nat_lit 4593671619917905920, nat_lit 1040187392, nat_lit 3187671040), (nat_lit 4595923419731591168, nat_lit 1044381696, nat_lit 3191865344), (nat_lit 4598175219545276416, nat_lit 1048576000, nat_lit 3196059648), (nat_lit 4599301119452119040, nat_lit 1050673152, nat_lit 3198156800), (nat_lit 4600427019358961664, nat_lit 1052770304, nat_lit 3200253952), (nat_lit 4601552919265804288, nat_lit 1054867456, nat_lit 3202351104), (nat_lit 4602678819172646912, nat_lit 1056964608, nat_lit 3204448256), (nat_lit 4603241769126068224, nat_lit 1058013184, nat_lit 3205496832), (nat_lit 4603804719079489536, nat_lit 1059061760, nat_lit 3206545408), (nat_lit 4604367669032910848, nat_lit 1060110336, nat_lit 3207593984), (nat_lit 4604930618986332160, nat_lit 1061158912, nat_lit 3208642560), (nat_lit 4605493568939753472, nat_lit 1062207488, nat_lit 3209691136), (nat_lit 4606056518893174784, nat_lit 1063256064, nat_lit 3210739712), (nat_lit 4606619468846596096, nat_lit 1064304640, nat_lit 3211788288), (nat_lit 4607182418800017408, nat_lit 1065353216, nat_lit 3212836864), (nat_lit 4607463893776728064, nat_lit 1065877504, nat_lit 3213361152), (nat_lit 4607745368753438720, nat_lit 1066401792, nat_lit 3213885440), (nat_lit 4608026843730149376, nat_lit 1066926080, nat_lit 3214409728), (nat_lit 4608308318706860032, nat_lit 1067450368, nat_lit 3214934016), (nat_lit 4608589793683570688, nat_lit 1067974656, nat_lit 3215458304), (nat_lit 4608871268660281344, nat_lit 1068498944, nat_lit 3215982592), (nat_lit 4609152743636992000, nat_lit 1069023232, nat_lit 3216506880), (nat_lit 4609434218613702656, nat_lit 1069547520, nat_lit 3217031168), (nat_lit 4609715693590413312, nat_lit 1070071808, nat_lit 3217555456), (nat_lit 4609997168567123968, nat_lit 1070596096, nat_lit 3218079744), (nat_lit 4610278643543834624, nat_lit 1071120384, nat_lit 3218604032), (nat_lit 4610560118520545280, nat_lit 1071644672, nat_lit 3219128320), (nat_lit 4610841593497255936, nat_lit 1072168960, nat_lit 3219652608), (nat_lit 4611123068473966592, nat_lit 1072693248, nat_lit 3220176896), (nat_lit 4611404543450677248, nat_lit 1073217536, nat_lit 3220701184), (nat_lit 4611686018427387904, nat_lit 1073741824, nat_lit 3221225472), (nat_lit 4611826755915743232, nat_lit 1074003968, nat_lit 3221487616), (nat_lit 4611967493404098560, nat_lit 1074266112, nat_lit 3221749760), (nat_lit 4612108230892453888, nat_lit 1074528256, nat_lit 3222011904), (nat_lit 4612248968380809216, nat_lit 1074790400, nat_lit 3222274048), (nat_lit 4612389705869164544, nat_lit 1075052544, nat_lit 3222536192), (nat_lit 4612530443357519872, nat_lit 1075314688, nat_lit 3222798336), (nat_lit 4612671180845875200, nat_lit 1075576832, nat_lit 3223060480), (nat_lit 4612811918334230528, nat_lit 1075838976, nat_lit 3223322624), (nat_lit 4612952655822585856, nat_lit 1076101120, nat_lit 3223584768), (nat_lit 4613093393310941184, nat_lit 1076363264, nat_lit 3223846912), (nat_lit 4613234130799296512, nat_lit 1076625408, nat_lit 3224109056), (nat_lit 4613374868287651840, nat_lit 1076887552, nat_lit 3224371200), (nat_lit 4613515605776007168, nat_lit 1077149696, nat_lit 3224633344), (nat_lit 4613656343264362496, nat_lit 1077411840, nat_lit 3224895488), (nat_lit 4613797080752717824, nat_lit 1077673984, nat_lit 3225157632), (nat_lit 4613937818241073152, nat_lit 1077936128, nat_lit 3225419776), (nat_lit 4614078555729428480, nat_lit 1078198272, nat_lit 3225681920), (nat_lit 4614219293217783808, nat_lit 1078460416, nat_lit 3225944064), (nat_lit 4614360030706139136, nat_lit 1078722560, nat_lit 3226206208), (nat_lit 4614500768194494464, nat_lit 1078984704, nat_lit 3226468352), (nat_lit 4614641505682849792, nat_lit 1079246848, nat_lit 3226730496), (nat_lit 4614782243171205120, nat_lit 1079508992, nat_lit 3226992640), (nat_lit 4614922980659560448, nat_lit 1079771136, nat_lit 3227254784), (nat_lit 4615063718147915776, nat_lit 1080033280, nat_lit 3227516928), (nat_lit 4615204455636271104, nat_lit 1080295424, nat_lit 3227779072), (nat_lit 4615345193124626432, nat_lit 1080557568, nat_lit 3228041216), (nat_lit 4615485930612981760, nat_lit 1080819712, nat_lit 3228303360), (nat_lit 4615626668101337088, nat_lit 1081081856, nat_lit 3228565504), (nat_lit 4615767405589692416, nat_lit 1081344000, nat_lit 3228827648), (nat_lit 4615908143078047744, nat_lit 1081606144, nat_lit 3229089792), (nat_lit 4616048880566403072, nat_lit 1081868288, nat_lit 3229351936), (nat_lit 4616189618054758400, nat_lit 1082130432, nat_lit 3229614080)] fun X : Tr3 => tab.all fun Y => chkB X Y) = true := by
  simp only [List.all_cons, List.all_nil, Bool.and_true, Bool.true_and, row0, row1, row2, row3, row4, row5, row6, row7, row8, row9, row10, row11, row12, row13, row14, row15, row16, row17, row18, row19, row20, row21, row22, row23, row24, row25, row26, row27, row28, row29, row30, row31, row32, row33, row34, row35, row36, row37, row38, row39, row40, row41, row42, row43, row44, row45, row46, row47, row48, row49, row50, row51, row52, row53, row54, row55, row56, row57, row58, row59, row60, row61, row62, row63, row64]
theorem all_chk {X Y : Tr3} (hX : X ∈ tab) (hY : Y ∈ tab) : chkB X Y = true :=
  List.all_eq_true.1 (List.all_eq_true.1 all_rows X hX) Y hY
def ofI (i : Nat) : Nat := fop .quo .f32 (fint .f32 ((i : Int) - 64)) 1098907648
def entB (e : Tr3) : Bool := ab64 (wid e.2.1) == e.1 && ab64 (wid e.2.2) == e.1 && !(ford .f32 e.2.1 0 == some .lt) && (e.1 == 0 || (ford .f32 e.2.2 0 == some .lt && fneg .f32 e.2.1 == e.2.2 && fneg .f32 e.2.2 == e.2.1 && !(ford .f32 e.2.1 0 == some .eq) && !(ford .f32 e.2.2 0 == some .eq))) && mulH e.2.2 e.2.2 == mulH e.2.1 e.2.1 && !nanB .f32 e.2.1 && !nanB .f32 e.2.2 && ford .f32 (fop .sub .f32 e.2.1 e.2.1) 0 == some .eq && ford .f32 (fop .sub .f32 e.2.2 e.2.2) 0 == some .eq && (!(e.1 == 0) || (e.2.1 == 0 && e.2.2 == 0))
theorem ent_all : tab.all entB = true := by decide +kernel
structure Ent (e : Tr3) : Prop where
  ap : ab64 (wid e.2.1) = e.1
  an : ab64 (wid e.2.2) = e.1
  lp : ¬ ford .f32 e.2.1 0 = some .lt
  nz : ¬ e.1 = 0 → ford .f32 e.2.2 0 = some .lt ∧ fneg .f32 e.2.1 = e.2.2 ∧ fneg .f32 e.2.2 = e.2.1 ∧ ¬ ford .f32 e.2.1 0 = some .eq ∧ ¬ ford .f32 e.2.2 0 = some .eq
  mm : mulH e.2.2 e.2.2 = mulH e.2.1 e.2.1
  np : nanB .f32 e.2.1 = false
  nn : nanB .f32 e.2.2 = false
  fp : ford .f32 (fop .sub .f32 e.2.1 e.2.1) 0 = some .eq
  fn : ford .f32 (fop .sub .f32 e.2.2 e.2.2) 0 = some .eq
  z : e.1 = 0 → e.2.1 = 0 ∧ e.2.2 = 0
theorem ent {e : Tr3} (h : e ∈ tab) : Ent e := by
  have := List.all_eq_true.1 ent_all e h
  unfold entB at this
  simp only [Bool.and_eq_true, Bool.or_eq_true, beq_iff_eq, Bool.not_eq_true', beq_eq_false_iff_ne] at this
  obtain ⟨⟨⟨⟨⟨⟨⟨⟨⟨h1, h2⟩, h3⟩, h4⟩, h5⟩, h6⟩, h7⟩, h8⟩, h9⟩, h10⟩ := this
  exact ⟨h1, h2, h3, fun hz => by
    rcases h4 with h4 | ⟨⟨⟨⟨a, b⟩, c⟩, d⟩, e⟩
    · exact absurd h4 hz
    · exact ⟨a, b, c, d, e⟩, h5, h6, h7, h8, h9, fun hz => by
    rcases h10 with h | h
    · exact absurd hz h
    · exact h⟩
theorem ofI_ok : ((List.range 129).all fun i => tab.any fun e => ofI i == e.2.1 || (!(e.1 == 0) && ofI i == e.2.2)) = true := by decide +kernel
theorem ofI_mem {i : Nat} (h : i < 129) : ∃ e ∈ tab, ofI i = e.2.1 ∨ (¬ e.1 = 0 ∧ ofI i = e.2.2) := by
  have := List.all_eq_true.1 ofI_ok i (List.mem_range.2 h)
  obtain ⟨e, he, h2⟩ := List.any_eq_true.1 this
  refine ⟨e, he, ?_⟩
  simpa using h2
/-- A small number is cut to nothing. -/
theorem toInt_F {x : Nat} (h : okF x = true) (h2 : exF x ≤ 1022) : floatToIntVal .f64 x .i64 = some 0 := by
  obtain ⟨hr, _, _⟩ := read_F h
  unfold floatToIntVal
  rw [show FloatKind.f64.decode x = _ from hr]
  have hc : Ieee.Toward.zero.cut (sgF x == 1) (maF x <<< ((exF x : Int) - 1075).toNat) (-((exF x : Int) - 1075)).toNat = 0 := by
    rw [show ((exF x : Int) - 1075).toNat = 0 by omega, Nat.shiftLeft_zero]
    unfold Ieee.Toward.cut
    dsimp only
    rw [Nat.one_shiftLeft, maF_log]
    have hlt : maF x < 2 ^ min (-((exF x : Int) - 1075)).toNat (52 + 2) := by
      have h1 : 2 ^ 53 ≤ 2 ^ min (-((exF x : Int) - 1075)).toNat (52 + 2) := Nat.pow_le_pow_right (by decide) (by omega)
      have h2 : maF x < 2 ^ 53 := maF_hi x
      exact Nat.lt_of_lt_of_le h2 h1
    rw [Nat.div_eq_of_lt hlt]
    rfl
  have ht : Ieee.Datum.toInt .zero (.number (sgF x == 1) (maF x) ((exF x : Int) - 1075)) = some 0 := by
    unfold Ieee.Datum.toInt Ieee.Datum.integral
    dsimp only
    rw [hc]
    unfold Ieee.signed
    cases (sgF x == 1) <;> rfl
  rw [ht]
  rfl
structure Sok (a : Nat) : Prop where
  lt : a < 4294967296
  nn : nanB .f32 a = false
  ff : ford .f32 (fop .sub .f32 a a) 0 = some .eq
  sm : isGe (ab64 (wid a)) 4841369599423283200 = false
  ti : floatToIntVal .f64 (wid a) .i64 = some 0
  cv : fcvt .f64 .f32 (siG (siF (wid a))) = some (cvtQ (sn a))
theorem okS_ok {a : Nat} (h : okS a = true) : Sok a := by
  unfold okS at h
  simp only [Bool.and_eq_true, Bool.or_eq_true, Bool.not_eq_true'] at h
  obtain ⟨⟨⟨⟨h1, h2⟩, h3⟩, h4⟩, h5⟩ := h
  have g1 : a < 4294967296 := Nat.le_of_ble_eq_true h1
  have g2 : a % 2147483648 < 1065353216 := Nat.le_of_ble_eq_true h2
  have gn : nanB .f32 a = false := num_of (by omega)
  refine ⟨g1, gn, ?_, ?_, ?_, ?_⟩
  · have := finB_eq g1 gn
    unfold fin32 at this
    rw [decide_eq_true (by omega)] at this
    simpa using this
  · rw [widG_eq]; exact h4
  · rw [widG_eq]
    rcases h3 with h3 | h3
    · rw [Nat.eq_of_beq_eq_true h3]; decide +kernel
    · exact toInt_F h3.1 (Nat.le_of_ble_eq_true h3.2)
  · rw [sn_eq]; exact someC_ok h5
def gapW (a b : Nat) : Nat := if ford .f64 a b = some .lt then fop .sub .f64 b a else fop .sub .f64 a b
theorem gapG_eq (a b : Nat) : gapW a b = gapG a b := by
  unfold gapW gapG
  by_cases c : ford .f64 a b = some .lt
  · simp [c, subG_eq]
  · simp [c, show (ford .f64 a b == some .lt) = false by simpa using c, subG_eq]
structure Pok (a l y x : Nat) : Prop where
  ge : ford .f32 a 3204448256 = some .gt ∨ ford .f32 a 3204448256 = some .eq
  le : ¬ ford .f32 a 1056964608 = some .gt
  s1 : Sok a
  s2 : Sok (fop .add .f32 a 1048576000)
  n1 : ¬ ford .f64 (gapW (fop .mul .f64 (wid (cvtQ (sn a))) (wid l)) (wid y)) 4547007122018943789 = some .gt
  n2 : ¬ ford .f64 (gapW (fop .mul .f64 (wid (cvtQ (sn (fop .add .f32 a 1048576000)))) (wid l)) (wid x)) 4547007122018943789 = some .gt
theorem chkA_ok {a l y x : Nat} (h : chkA a l y x = true) : Pok a l y x := by
  unfold chkA isGe32 nearG at h
  simp only [Bool.and_eq_true, Bool.or_eq_true, Bool.not_eq_true', beq_iff_eq, beq_eq_false_iff_ne] at h
  obtain ⟨⟨⟨⟨⟨h1, h2⟩, h3⟩, h4⟩, h5⟩, h6⟩ := h
  rw [← addH_eq] at h4 h6
  exact ⟨h1, h2, okS_ok h3, okS_ok h4, by rw [gapG_eq, mulG_eq, widG_eq, widG_eq, widG_eq]; exact h5, by rw [gapG_eq, mulG_eq, widG_eq, widG_eq, widG_eq]; exact h6⟩
/-- What is known of a point. -/
structure Good (y x : Nat) : Prop where
  x1 : nanB .f32 x = false
  x2 : ford .f32 (fop .sub .f32 x x) 0 = some .eq
  y1 : nanB .f32 y = false
  y2 : ford .f32 (fop .sub .f32 y y) 0 = some .eq
  y3 : nanB .f32 (fneg .f32 y) = false
  y4 : ford .f32 (fop .sub .f32 (fneg .f32 y) (fneg .f32 y)) 0 = some .eq
  y5 : ford .f32 (fneg .f32 y) 0 = some .eq → ford .f32 y 0 = some .eq
  ab : ∃ a b, fcvt .f64 .f32 (ang64 y x) = some a ∧ fcvt .f64 .f32 (ang64 (fneg .f32 y) x) = some b ∧ Pok a (lngG x y) y x ∧ (¬ ford .f32 y 0 = some .eq → ford .f32 a (fneg .f32 b) = some .eq)
theorem goodY {m l x : Nat} {Y : Tr3} (hY : Y ∈ tab) (x1 : nanB .f32 x = false) (x2 : ford .f32 (fop .sub .f32 x x) 0 = some .eq) (hm : angX x (angA Y.1 (ab64 (wid x))) = m) (hl : lngG x Y.2.1 = l) (h : chkY m (fneg .f64 m) l x Y = true) : Good Y.2.1 x ∧ (¬ Y.1 = 0 → Good Y.2.2 x) := by
  have e := ent hY
  unfold chkY chkM at h
  rw [Bool.and_eq_true, Bool.and_eq_true] at h
  obtain ⟨⟨h1, h2⟩, h3⟩ := h
  have hp : ang64 Y.2.1 x = m := by
    unfold ang64 angY; rw [e.ap, hm, if_neg e.lp]
  have hln : lngG x Y.2.2 = lngG x Y.2.1 := by unfold lngG; rw [e.mm]
  by_cases hz : Y.1 = 0
  · obtain ⟨z1, z2⟩ := e.z hz
    have hn : fneg .f32 Y.2.1 = 2147483648 := by rw [z1]; decide +kernel
    have hb : ang64 (fneg .f32 Y.2.1) x = m := by
      unfold ang64 angY
      rw [hn, show ab64 (wid 2147483648) = 0 by decide +kernel, show angA 0 (ab64 (wid x)) = angA Y.1 (ab64 (wid x)) by rw [hz], hm, if_neg (by decide +kernel)]
    refine ⟨⟨x1, x2, e.np, e.fp, by rw [hn]; decide +kernel, by rw [hn]; decide +kernel, fun _ => by rw [z1]; decide +kernel, _, _, by rw [hp]; exact someC_ok h1, by rw [hb]; exact someC_ok h1, by rw [hl]; exact chkA_ok h2, fun hc => absurd (by rw [z1]; decide +kernel) hc⟩, fun h => absurd hz h⟩
  · obtain ⟨n1, n2, n3, n4, n5⟩ := e.nz hz
    have hb : Nat.beq Y.1 0 = false := by rw [Bool.eq_false_iff]; intro h; exact hz (Nat.eq_of_beq_eq_true h)
    rw [hb, cond_false] at h3
    simp only [Bool.and_eq_true] at h3
    obtain ⟨⟨⟨k1, k2⟩, k3⟩, k4⟩ := h3
    have hq : ang64 Y.2.2 x = fneg .f64 m := by
      unfold ang64 angY; rw [e.an, hm, if_pos n1]
    unfold opp at k3 k4
    refine ⟨⟨x1, x2, e.np, e.fp, by rw [n2]; exact e.nn, by rw [n2]; exact e.fn, fun h => absurd (by rw [n2] at h; exact h) n5, _, _, by rw [hp]; exact someC_ok h1, by rw [n2, hq]; exact someC_ok k1, by rw [hl]; exact chkA_ok h2, fun _ => by simpa using k3⟩, fun _ => ⟨x1, x2, e.nn, e.fn, by rw [n3]; exact e.np, by rw [n3]; exact e.fp, fun h => absurd (by rw [n3] at h; exact h) n4, _, _, by rw [hq]; exact someC_ok k1, by rw [n3, hp]; exact someC_ok h1, by rw [hln, hl]; exact chkA_ok k2, fun _ => by simpa using k4⟩⟩
theorem goodX {X Y : Tr3} (hX : X ∈ tab) (hY : Y ∈ tab) (hz : ¬ (X.1 = 0 ∧ Y.1 = 0)) : Good Y.2.1 X.2.1 ∧ (¬ Y.1 = 0 → Good Y.2.2 X.2.1) ∧ (¬ X.1 = 0 → Good Y.2.1 X.2.2 ∧ (¬ Y.1 = 0 → Good Y.2.2 X.2.2)) := by
  have h := all_chk hX hY
  have e := ent hX
  unfold chkB at h
  have hb : (Nat.beq X.1 0 && Nat.beq Y.1 0) = false := by
    rw [Bool.eq_false_iff]; intro h; rw [Bool.and_eq_true] at h
    exact hz ⟨Nat.eq_of_beq_eq_true h.1, Nat.eq_of_beq_eq_true h.2⟩
  rw [hb, cond_false, Bool.and_eq_true] at h
  obtain ⟨h1, h2⟩ := h
  have hA := aA_eq Y.1 X.1 h1
  unfold chkX at h2
  rw [Bool.and_eq_true] at h2
  obtain ⟨h3, h4⟩ := h2
  have r1 := goodY hY e.np e.fp (m := aA Y.1 X.1) (by unfold angX; rw [if_neg e.lp, e.ap, hA]) rfl h3
  refine ⟨r1.1, r1.2, fun hx => ?_⟩
  have hbx : Nat.beq X.1 0 = false := by rw [Bool.eq_false_iff]; intro h; exact hx (Nat.eq_of_beq_eq_true h)
  rw [hbx, cond_false] at h4
  obtain ⟨n1, n2, n3, n4, n5⟩ := e.nz hx
  exact goodY hY e.nn e.fn (m := subG 4602678819172646912 (aA Y.1 X.1)) (l := lngG X.2.1 Y.2.1) (by unfold angX; rw [if_pos n1, e.an, hA, subG_eq]) (by unfold lngG; rw [e.mm]) h4
theorem good_all {i j : Nat} (hi : i < 129) (hj : j < 129) : (ofI i = 0 ∧ ofI j = 0) ∨ (¬ (ford .f32 (ofI i) 0 = some .eq ∧ ford .f32 (ofI j) 0 = some .eq) ∧ Good (ofI j) (ofI i)) := by
  obtain ⟨X, hX, h1⟩ := ofI_mem hi
  obtain ⟨Y, hY, h2⟩ := ofI_mem hj
  by_cases hz : X.1 = 0 ∧ Y.1 = 0
  · left
    rcases h1 with h1 | h1
    · rcases h2 with h2 | h2
      · rw [h1, h2]; exact ⟨((ent hX).z hz.1).1, ((ent hY).z hz.2).1⟩
      · exact absurd hz.2 h2.1
    · exact absurd hz.1 h1.1
  · right
    refine ⟨?_, ?_⟩
    · intro ⟨g1, g2⟩
      refine hz ⟨Classical.byContradiction fun c => ?_, Classical.byContradiction fun c => ?_⟩
      · obtain ⟨n1, n2, n3, n4, n5⟩ := (ent hX).nz c
        rcases h1 with h1 | h1
        · rw [h1] at g1; exact n4 g1
        · rw [h1.2] at g1; exact n5 g1
      · obtain ⟨n1, n2, n3, n4, n5⟩ := (ent hY).nz c
        rcases h2 with h2 | h2
        · rw [h2] at g2; exact n4 g2
        · rw [h2.2] at g2; exact n5 g2
    · have r := goodX hX hY hz
      rcases h1 with h1 | h1 <;> rcases h2 with h2 | h2
      · rw [h1, h2]; exact r.1
      · rw [h1, h2.2]; exact r.2.1 h2.1
      · rw [h1.2, h2]; exact (r.2.2 h1.1).1
      · rw [h1.2, h2.2]; exact (r.2.2 h1.1).2 h2.1
end Go.Proofs.Ytfngkhkghjgmkaa
