/-
The run of 'tumblelaw28.QueryNames' on the abstract machine, by the kernel: true.
-/
import Derived.Test.YtimngjghbojjlaaGreatTabs
namespace Go.Proofs.YtimngjghbojjlaaGreat.queryNames
theorem run : Am.isT (Am.callN (Am.env Tryz.prog Am.Great.mtL Am.Great.mkT) 40 6 [] ⟨.e, 0, none⟩) = true := by kernel_rfl
end Go.Proofs.YtimngjghbojjlaaGreat.queryNames
