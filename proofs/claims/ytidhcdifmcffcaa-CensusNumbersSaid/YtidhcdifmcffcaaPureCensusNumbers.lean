import Derived.Test.YtidhcdifmcffcaaCensusNumbers
namespace Go.Proofs.Ytidhcdifmcffcaa.Pure
set_option linter.unusedVariables false
set_option linter.unusedSimpArgs false
open Go.RowKit Go.Proofs.Ytidhcdifmcffcaa.PCen Go.Proofs.YtidhcdifmcffcaaW.PrintWords Go.Proofs.YtidhcdifmcffcaaW.PrintLast
theorem CensusNumbers : pinfoldlaw35_CensusNumbers.Pure := fun l0 l1 a2 _ h0 _ _ h1 _ _ => (numbers_f l0 l1 a2 (by omega) (by omega)).rounds
end Go.Proofs.Ytidhcdifmcffcaa.Pure
