/- The row of bytes in the table of types, for seats without the laws on sums. -/
import Derived.Test.YtibpipppabommaaProg
import Derived.Test.YtibpipppabommaaBase
import Derived.Test.YtibpipppabommaaPure
import Derived.Lib.SlBytesConst
namespace Go.Proofs.Ytibpipppabommaa.Cl
open Go Go.Proofs
theorem info5 : (Try.prog.info? 5).map (fun i => (i.zero, i.size, i.bytes)) = some (some (.int .u8 0), 1, 1) := by kernel_rfl
end Go.Proofs.Ytibpipppabommaa.Cl
