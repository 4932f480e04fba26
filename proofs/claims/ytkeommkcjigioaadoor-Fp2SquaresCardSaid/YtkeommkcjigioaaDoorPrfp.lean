/- Package fp: the modulus is prime. Conditions: none. -/
import Derived.Test.YtkeommkcjigioaaDoorPr
namespace Go.Proofs.YtkeommkcjigioaaDoor
set_option linter.unusedVariables false
set_option maxRecDepth 100000

theorem pr_421987 : IsP 421987 := isP_of_tries (k := 648) (by decide +kernel) (by decide +kernel) (by decide +kernel)
theorem pr_13090036741 : IsP 13090036741 := isP_pock (f := 34) (by decide +kernel) (by decide +kernel) [(421987, 2)] (by
    simp only [List.forall_mem_cons]
    exact ⟨pr_421987, fun x hx => by cases hx⟩) (by decide +kernel) (by decide +kernel) (by decide +kernel)
theorem pr_755057 : IsP 755057 := isP_of_tries (k := 867) (by decide +kernel) (by decide +kernel) (by decide +kernel)
theorem pr_3819663927398918131021 : IsP 3819663927398918131021 := isP_pock (f := 72) (by decide +kernel) (by decide +kernel) [(13090036741, 2), (755057, 2)] (by
    simp only [List.forall_mem_cons]
    exact ⟨pr_13090036741, pr_755057, fun x hx => by cases hx⟩) (by decide +kernel) (by decide +kernel) (by decide +kernel)
theorem pr_1125266252156850182658904441386709967 : IsP 1125266252156850182658904441386709967 := isP_pock (f := 120) (by decide +kernel) (by decide +kernel) [(3819663927398918131021, 2)] (by
    simp only [List.forall_mem_cons]
    exact ⟨pr_3819663927398918131021, fun x hx => by cases hx⟩) (by decide +kernel) (by decide +kernel) (by decide +kernel)
theorem pr_15778400344354997994418419698270088123916926905054652752758194827714659 : IsP 15778400344354997994418419698270088123916926905054652752758194827714659 := isP_pock (f := 234) (by decide +kernel) (by decide +kernel) [(1125266252156850182658904441386709967, 2)] (by
    simp only [List.forall_mem_cons]
    exact ⟨pr_1125266252156850182658904441386709967, fun x hx => by cases hx⟩) (by decide +kernel) (by decide +kernel) (by decide +kernel)
theorem pr_4002409555221667393417789825735904156556882819939007885332058136124031650490837864442687629129015664037894272559787 : IsP 4002409555221667393417789825735904156556882819939007885332058136124031650490837864442687629129015664037894272559787 := isP_pock (f := 381) (by decide +kernel) (by decide +kernel) [(15778400344354997994418419698270088123916926905054652752758194827714659, 2)] (by
    simp only [List.forall_mem_cons]
    exact ⟨pr_15778400344354997994418419698270088123916926905054652752758194827714659, fun x hx => by cases hx⟩) (by decide +kernel) (by decide +kernel) (by decide +kernel)

end Go.Proofs.YtkeommkcjigioaaDoor
