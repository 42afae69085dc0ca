import Derived.Test.YtjcpjmijhloimaaPrs
import Derived.Test.YtjcpjmijhloimaaOrd2
import Derived.Test.YtjcpjmijhloimaaHts5
import Derived.Test.YtjcpjmijhloimaaHts3
set_option linter.unusedVariables false
set_option linter.unusedSimpArgs false
namespace Go.Proofs.Ytjcpjmijhloimaa
open Go.RowKit

end Go.Proofs.Ytjcpjmijhloimaa
