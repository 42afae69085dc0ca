import Derived.Test.YtjcpjmijhloimaaTask2
set_option linter.unusedVariables false
set_option linter.unusedSimpArgs false
namespace Go.Proofs.Ytjcpjmijhloimaa
open Go.RowKit

end Go.Proofs.Ytjcpjmijhloimaa
