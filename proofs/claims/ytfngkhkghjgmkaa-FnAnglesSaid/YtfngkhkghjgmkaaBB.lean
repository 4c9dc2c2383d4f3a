/- Points in sixteenths: the check, rows 17 to 32.
Conditions: none. -/
import Derived.Test.YtfngkhkghjgmkaaB2
namespace Go.Proofs.Ytfngkhkghjgmkaa
set_option linter.all false
open Go Go.Awp
set_option maxRecDepth 100000
set_option maxHeartbeats 4000000

theorem row17 : (tab.all fun Y => chkB (nat_lit 4607463893776728064, nat_lit 1065877504, nat_lit 3213361152) Y) = true := by decide +kernel
theorem row18 : (tab.all fun Y => chkB (nat_lit 4607745368753438720, nat_lit 1066401792, nat_lit 3213885440) Y) = true := by decide +kernel
theorem row19 : (tab.all fun Y => chkB (nat_lit 4608026843730149376, nat_lit 1066926080, nat_lit 3214409728) Y) = true := by decide +kernel
theorem row20 : (tab.all fun Y => chkB (nat_lit 4608308318706860032, nat_lit 1067450368, nat_lit 3214934016) Y) = true := by decide +kernel
theorem row21 : (tab.all fun Y => chkB (nat_lit 4608589793683570688, nat_lit 1067974656, nat_lit 3215458304) Y) = true := by decide +kernel
theorem row22 : (tab.all fun Y => chkB (nat_lit 4608871268660281344, nat_lit 1068498944, nat_lit 3215982592) Y) = true := by decide +kernel
theorem row23 : (tab.all fun Y => chkB (nat_lit 4609152743636992000, nat_lit 1069023232, nat_lit 3216506880) Y) = true := by decide +kernel
theorem row24 : (tab.all fun Y => chkB (nat_lit 4609434218613702656, nat_lit 1069547520, nat_lit 3217031168) Y) = true := by decide +kernel
theorem row25 : (tab.all fun Y => chkB (nat_lit 4609715693590413312, nat_lit 1070071808, nat_lit 3217555456) Y) = true := by decide +kernel
theorem row26 : (tab.all fun Y => chkB (nat_lit 4609997168567123968, nat_lit 1070596096, nat_lit 3218079744) Y) = true := by decide +kernel
theorem row27 : (tab.all fun Y => chkB (nat_lit 4610278643543834624, nat_lit 1071120384, nat_lit 3218604032) Y) = true := by decide +kernel
theorem row28 : (tab.all fun Y => chkB (nat_lit 4610560118520545280, nat_lit 1071644672, nat_lit 3219128320) Y) = true := by decide +kernel
theorem row29 : (tab.all fun Y => chkB (nat_lit 4610841593497255936, nat_lit 1072168960, nat_lit 3219652608) Y) = true := by decide +kernel
theorem row30 : (tab.all fun Y => chkB (nat_lit 4611123068473966592, nat_lit 1072693248, nat_lit 3220176896) Y) = true := by decide +kernel
theorem row31 : (tab.all fun Y => chkB (nat_lit 4611404543450677248, nat_lit 1073217536, nat_lit 3220701184) Y) = true := by decide +kernel
theorem row32 : (tab.all fun Y => chkB (nat_lit 4611686018427387904, nat_lit 1073741824, nat_lit 3221225472) Y) = true := by decide +kernel
end Go.Proofs.Ytfngkhkghjgmkaa
