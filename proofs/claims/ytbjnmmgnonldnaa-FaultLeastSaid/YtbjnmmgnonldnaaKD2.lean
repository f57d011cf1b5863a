/- Walks through the program's functions, part 3. -/
import Derived.Test.YtbjnmmgnonldnaaKD1
set_option linter.unusedVariables false
set_option linter.unusedSimpArgs false
set_option maxRecDepth 100000
set_option maxHeartbeats 16000000
namespace Go.Proofs.Ytbjnmmgnonldnaa.E
open Go Go.RowKit Go.Proofs Go.Proofs.Ytbjnmmgnonldnaa
open Go.Proofs.Try renaming underlying3->Y3, underlying4->Y4, underlying22->Y22, underlying24->Y24, underlying26->Y26, underlying27->Y27, underlying36->Y36, underlying39->Y39, underlying56->Y56, underlying75->Y75, underlying76->Y76, underlying83->Y83, underlying86->Y86, underlying99->Y99, underlying101->Y101, underlying102->Y102, underlying104->Y104
end Go.Proofs.Ytbjnmmgnonldnaa.E
