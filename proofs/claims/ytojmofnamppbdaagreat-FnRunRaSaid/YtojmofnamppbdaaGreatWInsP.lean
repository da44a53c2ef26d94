/-
  The walks of szInstrS, szInstrSS, toInstr, toInstrS, toInstrSS, eqInstr, eqInstrS, eqInstrSS, markInstrS, markInstrSS. The walks of eqInstr, eqInstrS, eqInstrSS at equal data, markInstrS, markInstrSS; eqEvent, eqEventS, markEventS, heldEventS. Events: the walks of eqEvent, eqEventS at equal data, markEventS, heldEventS.
-/
import Derived.Test.YtojmofnamppbdaaGreatPrg
import Derived.Test.YtojmofnamppbdaaGreatOwA
import Derived.StillTailTactics
namespace Go.Proofs.YtojmofnamppbdaaGreat
open Go.RowKit
set_option linter.unusedVariables false
set_option maxRecDepth 100000
theorem Tryz.infoIns:(Tryz.prog.info? 50).map (fun i=>(i.zero,i.size,i.bytes))=some (some (.agg #[.int .i64 0,.int .i64 0,.int .i64 0,.int .i64 0]),4,32):=by kernel_rfl
theorem Tryz.infoInsS:(Tryz.prog.info? 48).map (fun i=>(i.zero,i.size,i.bytes))=some (some (.slice none 0 0),1,24):=by kernel_rfl
end Go.Proofs.YtojmofnamppbdaaGreat
namespace Go.Proofs.YtojmofnamppbdaaGreat
open Go.RowKit
set_option linter.unusedVariables false
set_option maxRecDepth 100000
end Go.Proofs.YtojmofnamppbdaaGreat
