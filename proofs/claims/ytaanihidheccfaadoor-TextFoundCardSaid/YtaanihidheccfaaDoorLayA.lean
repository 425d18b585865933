/-
  The library's contracts at this dump that the shelf's tool does not lay by itself: (*strings.Builder).WriteString.
-/
import Derived.Test.YtaanihidheccfaaDoorShelf
namespace Go.Proofs.YtaanihidheccfaaDoor
open Go.Shelf Go.RowKit

theorem lays166 : Go.Proofs.Lays.n166 Tryd.prog Tryd.lays156_ren := { Tryd.lays156 with }

end Go.Proofs.YtaanihidheccfaaDoor
