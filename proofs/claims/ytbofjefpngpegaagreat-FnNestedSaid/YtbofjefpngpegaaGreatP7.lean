/-
  What is known of arguments by their types alone, in the words of the plain laws.
-/
import Derived.Test.YtbofjefpngpegaaGreatPM
import Derived.Test.YtbofjefpngpegaaGreatB30
namespace Go.Proofs.YtbofjefpngpegaaGreat
end Go.Proofs.YtbofjefpngpegaaGreat
