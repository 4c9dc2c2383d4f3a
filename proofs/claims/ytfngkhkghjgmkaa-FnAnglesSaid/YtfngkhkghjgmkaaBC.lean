/- Points in sixteenths: the check, rows 33 to 48.
Conditions: none. -/
import Derived.Test.YtfngkhkghjgmkaaB2
namespace Go.Proofs.Ytfngkhkghjgmkaa
set_option linter.all false
open Go Go.Awp
set_option maxRecDepth 100000
set_option maxHeartbeats 4000000

theorem row33 : (tab.all fun Y => chkB (nat_lit 4611826755915743232, nat_lit 1074003968, nat_lit 3221487616) Y) = true := by decide +kernel
theorem row34 : (tab.all fun Y => chkB (nat_lit 4611967493404098560, nat_lit 1074266112, nat_lit 3221749760) Y) = true := by decide +kernel
theorem row35 : (tab.all fun Y => chkB (nat_lit 4612108230892453888, nat_lit 1074528256, nat_lit 3222011904) Y) = true := by decide +kernel
theorem row36 : (tab.all fun Y => chkB (nat_lit 4612248968380809216, nat_lit 1074790400, nat_lit 3222274048) Y) = true := by decide +kernel
theorem row37 : (tab.all fun Y => chkB (nat_lit 4612389705869164544, nat_lit 1075052544, nat_lit 3222536192) Y) = true := by decide +kernel
theorem row38 : (tab.all fun Y => chkB (nat_lit 4612530443357519872, nat_lit 1075314688, nat_lit 3222798336) Y) = true := by decide +kernel
theorem row39 : (tab.all fun Y => chkB (nat_lit 4612671180845875200, nat_lit 1075576832, nat_lit 3223060480) Y) = true := by decide +kernel
theorem row40 : (tab.all fun Y => chkB (nat_lit 4612811918334230528, nat_lit 1075838976, nat_lit 3223322624) Y) = true := by decide +kernel
theorem row41 : (tab.all fun Y => chkB (nat_lit 4612952655822585856, nat_lit 1076101120, nat_lit 3223584768) Y) = true := by decide +kernel
theorem row42 : (tab.all fun Y => chkB (nat_lit 4613093393310941184, nat_lit 1076363264, nat_lit 3223846912) Y) = true := by decide +kernel
theorem row43 : (tab.all fun Y => chkB (nat_lit 4613234130799296512, nat_lit 1076625408, nat_lit 3224109056) Y) = true := by decide +kernel
theorem row44 : (tab.all fun Y => chkB (nat_lit 4613374868287651840, nat_lit 1076887552, nat_lit 3224371200) Y) = true := by decide +kernel
theorem row45 : (tab.all fun Y => chkB (nat_lit 4613515605776007168, nat_lit 1077149696, nat_lit 3224633344) Y) = true := by decide +kernel
theorem row46 : (tab.all fun Y => chkB (nat_lit 4613656343264362496, nat_lit 1077411840, nat_lit 3224895488) Y) = true := by decide +kernel
theorem row47 : (tab.all fun Y => chkB (nat_lit 4613797080752717824, nat_lit 1077673984, nat_lit 3225157632) Y) = true := by decide +kernel
theorem row48 : (tab.all fun Y => chkB (nat_lit 4613937818241073152, nat_lit 1077936128, nat_lit 3225419776) Y) = true := by decide +kernel
end Go.Proofs.Ytfngkhkghjgmkaa
