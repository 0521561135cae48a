/-
  The given statement KeysMany: for every input the statement's function returns true, and the input reads as it did; the listed variable is tied to the program's text.
-/
import Derived.Test.YtkpgebeipmedeaaDoorBM
import Derived.Test.YtkpgebeipmedeaaDoorKC
namespace Go.Proofs.YtkpgebeipmedeaaDoor
open Go Go.AX Go.Proofs Go.RowKit Go.WideShapes Go.ChangeShapes

end Go.Proofs.YtkpgebeipmedeaaDoor
