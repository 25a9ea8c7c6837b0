import Derived.Test.YtgopamojnoefiaaGF
namespace Go.Proofs.Ytgopamojnoefiaa
open Go Go.Abs
set_option maxRecDepth 1000000
set_option maxHeartbeats 0
/-- works. -/
noncomputable def worksC : Contract Try.prog := Contract.closed 17 (.ret (.bool true)) 400 60 (by kernel_rfl) (by kernel_rfl)
end Go.Proofs.Ytgopamojnoefiaa
