/- Points in sixteenths: the check, rows 49 to 64.
Conditions: none. -/
import Derived.Test.YtfngkhkghjgmkaaB2
namespace Go.Proofs.Ytfngkhkghjgmkaa
set_option linter.all false
open Go Go.Awp
set_option maxRecDepth 100000
set_option maxHeartbeats 4000000

theorem row49 : (tab.all fun Y => chkB (nat_lit 4614078555729428480, nat_lit 1078198272, nat_lit 3225681920) Y) = true := by decide +kernel
theorem row50 : (tab.all fun Y => chkB (nat_lit 4614219293217783808, nat_lit 1078460416, nat_lit 3225944064) Y) = true := by decide +kernel
theorem row51 : (tab.all fun Y => chkB (nat_lit 4614360030706139136, nat_lit 1078722560, nat_lit 3226206208) Y) = true := by decide +kernel
theorem row52 : (tab.all fun Y => chkB (nat_lit 4614500768194494464, nat_lit 1078984704, nat_lit 3226468352) Y) = true := by decide +kernel
theorem row53 : (tab.all fun Y => chkB (nat_lit 4614641505682849792, nat_lit 1079246848, nat_lit 3226730496) Y) = true := by decide +kernel
theorem row54 : (tab.all fun Y => chkB (nat_lit 4614782243171205120, nat_lit 1079508992, nat_lit 3226992640) Y) = true := by decide +kernel
theorem row55 : (tab.all fun Y => chkB (nat_lit 4614922980659560448, nat_lit 1079771136, nat_lit 3227254784) Y) = true := by decide +kernel
theorem row56 : (tab.all fun Y => chkB (nat_lit 4615063718147915776, nat_lit 1080033280, nat_lit 3227516928) Y) = true := by decide +kernel
theorem row57 : (tab.all fun Y => chkB (nat_lit 4615204455636271104, nat_lit 1080295424, nat_lit 3227779072) Y) = true := by decide +kernel
theorem row58 : (tab.all fun Y => chkB (nat_lit 4615345193124626432, nat_lit 1080557568, nat_lit 3228041216) Y) = true := by decide +kernel
theorem row59 : (tab.all fun Y => chkB (nat_lit 4615485930612981760, nat_lit 1080819712, nat_lit 3228303360) Y) = true := by decide +kernel
theorem row60 : (tab.all fun Y => chkB (nat_lit 4615626668101337088, nat_lit 1081081856, nat_lit 3228565504) Y) = true := by decide +kernel
theorem row61 : (tab.all fun Y => chkB (nat_lit 4615767405589692416, nat_lit 1081344000, nat_lit 3228827648) Y) = true := by decide +kernel
theorem row62 : (tab.all fun Y => chkB (nat_lit 4615908143078047744, nat_lit 1081606144, nat_lit 3229089792) Y) = true := by decide +kernel
theorem row63 : (tab.all fun Y => chkB (nat_lit 4616048880566403072, nat_lit 1081868288, nat_lit 3229351936) Y) = true := by decide +kernel
theorem row64 : (tab.all fun Y => chkB (nat_lit 4616189618054758400, nat_lit 1082130432, nat_lit 3229614080) Y) = true := by decide +kernel
end Go.Proofs.Ytfngkhkghjgmkaa
