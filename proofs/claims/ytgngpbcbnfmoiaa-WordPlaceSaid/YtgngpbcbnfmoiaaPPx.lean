-- PRINTED by print.py (a twelfth state) out of the translation. Not trusted: Lean checks it.
import Derived.Test.YtgngpbcbnfmoiaaPPx0
import Derived.Test.YtgngpbcbnfmoiaaPPx1
import Derived.Test.YtgngpbcbnfmoiaaPPx2
import Derived.Test.YtgngpbcbnfmoiaaPPx3
import Derived.Test.YtgngpbcbnfmoiaaPPx4
import Derived.Test.YtgngpbcbnfmoiaaPPx5
namespace Go.Proofs.Ytgngpbcbnfmoiaa.PP
open Go.RowKit Go.Proofs.YtgngpbcbnfmoiaaW.PrintWords Go.Proofs.YtgngpbcbnfmoiaaW.PrintLast Go.Proofs.YtgngpbcbnfmoiaaW.PrintMore
attribute [local go_sem] max2_int min2_int max_two min_two max_three min_three max_four min_four   -- for this text's walks alone
open Go.Proofs.Ytgngpbcbnfmoiaa.PA Go.Proofs.Ytgngpbcbnfmoiaa.PB Go.Proofs.Ytgngpbcbnfmoiaa.PD Go.Proofs.Ytgngpbcbnfmoiaa.PK
set_option linter.unusedVariables false
set_option linter.unusedSimpArgs false

end Go.Proofs.Ytgngpbcbnfmoiaa.PP
