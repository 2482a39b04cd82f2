import Derived.Test.YtlemejhffpkbkaaC3
import Derived.Test.YtlemejhffpkbkaaProg
namespace Go.Proofs.Ytlemejhffpkbkaa
open Go.Proofs.Try
end Go.Proofs.Ytlemejhffpkbkaa
