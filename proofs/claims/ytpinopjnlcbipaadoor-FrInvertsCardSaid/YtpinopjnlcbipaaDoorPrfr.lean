/- Package fr: the modulus is prime. Conditions: none. -/
import Derived.Test.YtpinopjnlcbipaaDoorPr
namespace Go.Proofs.YtpinopjnlcbipaaDoor
set_option linter.unusedVariables false
set_option maxRecDepth 100000

theorem pr_254760293 : IsP 254760293 := isP_of_tries (k := 15960) (by decide +kernel) (by decide +kernel) (by decide +kernel)
theorem pr_52437899 : IsP 52437899 := isP_of_tries (k := 7240) (by decide +kernel) (by decide +kernel) (by decide +kernel)
theorem pr_2529403 : IsP 2529403 := isP_of_tries (k := 1589) (by decide +kernel) (by decide +kernel) (by decide +kernel)
theorem pr_2508409 : IsP 2508409 := isP_of_tries (k := 1582) (by decide +kernel) (by decide +kernel) (by decide +kernel)
theorem pr_906349 : IsP 906349 := isP_of_tries (k := 951) (by decide +kernel) (by decide +kernel) (by decide +kernel)
theorem pr_859267 : IsP 859267 := isP_of_tries (k := 925) (by decide +kernel) (by decide +kernel) (by decide +kernel)
theorem pr_125527 : IsP 125527 := isP_of_tries (k := 353) (by decide +kernel) (by decide +kernel) (by decide +kernel)
theorem pr_10177 : IsP 10177 := isP_of_tries (k := 99) (by decide +kernel) (by decide +kernel) (by decide +kernel)
theorem pr_19 : IsP 19 := isP_of_tries (k := 3) (by decide +kernel) (by decide +kernel) (by decide +kernel)
theorem pr_11 : IsP 11 := isP_of_tries (k := 2) (by decide +kernel) (by decide +kernel) (by decide +kernel)
theorem pr_3 : IsP 3 := isP_of_tries (k := 0) (by decide +kernel) (by decide +kernel) (by decide +kernel)
theorem pr_2 : IsP 2 := isP_of_tries (k := 0) (by decide +kernel) (by decide +kernel) (by decide +kernel)
theorem pr_52435875175126190479447740508185965837690552500527637822603658699938581184513 : IsP 52435875175126190479447740508185965837690552500527637822603658699938581184513 := isP_pock (f := 255) (by decide +kernel) (by decide +kernel) [(254760293, 2), (52437899, 2), (2529403, 2), (2508409, 2), (906349, 2), (859267, 2), (125527, 2), (10177, 2), (19, 2), (11, 2), (3, 2), (2, 5)] (by
    simp only [List.forall_mem_cons]
    exact ⟨pr_254760293, pr_52437899, pr_2529403, pr_2508409, pr_906349, pr_859267, pr_125527, pr_10177, pr_19, pr_11, pr_3, pr_2, fun x hx => by cases hx⟩) (by decide +kernel) (by decide +kernel) (by decide +kernel)

end Go.Proofs.YtpinopjnlcbipaaDoor
