/-
The run of 'tumblelaw16.BodyNames' on the abstract machine, by the kernel: true.
-/
import Derived.Test.YtimngjghbojjlaaGreatTabs
namespace Go.Proofs.YtimngjghbojjlaaGreat.bodyNames
theorem run : Am.isT (Am.callN (Am.env Tryz.prog Am.Great.mtL Am.Great.mkT) 40 5 [] ⟨.e, 0, none⟩) = true := by kernel_rfl
end Go.Proofs.YtimngjghbojjlaaGreat.bodyNames
