/- Points in sixteenths: the check, rows 0 to 16.
Conditions: none. -/
import Derived.Test.YtfngkhkghjgmkaaB2
namespace Go.Proofs.Ytfngkhkghjgmkaa
set_option linter.all false
open Go Go.Awp
set_option maxRecDepth 100000
set_option maxHeartbeats 4000000

theorem row0 : (tab.all fun Y => chkB (nat_lit 0, nat_lit 0, nat_lit 0) Y) = true := by decide +kernel
theorem row1 : (tab.all fun Y => chkB (nat_lit 4589168020290535424, nat_lit 1031798784, nat_lit 3179282432) Y) = true := by decide +kernel
theorem row2 : (tab.all fun Y => chkB (nat_lit 4593671619917905920, nat_lit 1040187392, nat_lit 3187671040) Y) = true := by decide +kernel
theorem row3 : (tab.all fun Y => chkB (nat_lit 4595923419731591168, nat_lit 1044381696, nat_lit 3191865344) Y) = true := by decide +kernel
theorem row4 : (tab.all fun Y => chkB (nat_lit 4598175219545276416, nat_lit 1048576000, nat_lit 3196059648) Y) = true := by decide +kernel
theorem row5 : (tab.all fun Y => chkB (nat_lit 4599301119452119040, nat_lit 1050673152, nat_lit 3198156800) Y) = true := by decide +kernel
theorem row6 : (tab.all fun Y => chkB (nat_lit 4600427019358961664, nat_lit 1052770304, nat_lit 3200253952) Y) = true := by decide +kernel
theorem row7 : (tab.all fun Y => chkB (nat_lit 4601552919265804288, nat_lit 1054867456, nat_lit 3202351104) Y) = true := by decide +kernel
theorem row8 : (tab.all fun Y => chkB (nat_lit 4602678819172646912, nat_lit 1056964608, nat_lit 3204448256) Y) = true := by decide +kernel
theorem row9 : (tab.all fun Y => chkB (nat_lit 4603241769126068224, nat_lit 1058013184, nat_lit 3205496832) Y) = true := by decide +kernel
theorem row10 : (tab.all fun Y => chkB (nat_lit 4603804719079489536, nat_lit 1059061760, nat_lit 3206545408) Y) = true := by decide +kernel
theorem row11 : (tab.all fun Y => chkB (nat_lit 4604367669032910848, nat_lit 1060110336, nat_lit 3207593984) Y) = true := by decide +kernel
theorem row12 : (tab.all fun Y => chkB (nat_lit 4604930618986332160, nat_lit 1061158912, nat_lit 3208642560) Y) = true := by decide +kernel
theorem row13 : (tab.all fun Y => chkB (nat_lit 4605493568939753472, nat_lit 1062207488, nat_lit 3209691136) Y) = true := by decide +kernel
theorem row14 : (tab.all fun Y => chkB (nat_lit 4606056518893174784, nat_lit 1063256064, nat_lit 3210739712) Y) = true := by decide +kernel
theorem row15 : (tab.all fun Y => chkB (nat_lit 4606619468846596096, nat_lit 1064304640, nat_lit 3211788288) Y) = true := by decide +kernel
theorem row16 : (tab.all fun Y => chkB (nat_lit 4607182418800017408, nat_lit 1065353216, nat_lit 3212836864) Y) = true := by decide +kernel
end Go.Proofs.Ytfngkhkghjgmkaa
