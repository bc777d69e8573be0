/- The numbers under which this seat's program holds the functions and types of sync.Mutex, and that it holds them. Conditions: none. -/
import Derived.Test.YtegpkcbmgjoicaaGreatProg
import Derived.Conc.MuLone
import Derived.KernelRfl
namespace Go.Proofs.YtegpkcbmgjoicaaGreat
abbrev muLink : Go.Conc.Locks.MuLink := { lock := 35, unlock := 36, ilock := 64, iunlock := 65, lockSlow := 79, unlockSlow := 82, disable := 75, enable := 77, acquire := 78, relMerge := 80, cas32 := 76, add32 := 81, tMutex := 58, tIMutex := 56, tPMutex := 117, tPIMutex := 127, tPI32 := 129, tUP := 131, tNoCopy := 53, tU32 := 54 }
theorem muLib : Go.Conc.Locks.MuLib Tryz.prog muLink :=
  ⟨Tryz.func35, Tryz.func36, Tryz.func64, Tryz.func65, Tryz.func75, Tryz.func77, Tryz.func78, Tryz.func80, Tryz.func76, Tryz.func81, Tryz.underlying56, Tryz.runUnderlying56, Tryz.sizeOf56, Tryz.isAgg56, Tryz.zeroValue56, Tryz.underlying58, Tryz.runUnderlying58, Tryz.sizeOf58, Tryz.isAgg58, Tryz.zeroValue58, Tryz.underlying117, Tryz.runUnderlying117, Tryz.sizeOf117, Tryz.isAgg117, Tryz.zeroValue117, Tryz.underlying127, Tryz.runUnderlying127, Tryz.sizeOf127, Tryz.isAgg127, Tryz.zeroValue127, Tryz.underlying129, Tryz.runUnderlying129, Tryz.sizeOf129, Tryz.isAgg129, Tryz.zeroValue129, Tryz.underlying131, Tryz.runUnderlying131, Tryz.sizeOf131, Tryz.isAgg131, Tryz.zeroValue131, Tryz.underlying53, Tryz.runUnderlying53, Tryz.sizeOf53, Tryz.isAgg53, Tryz.zeroValue53, Tryz.underlying21, Tryz.runUnderlying21, Tryz.sizeOf21, Tryz.isAgg21, Tryz.zeroValue21, (by kernel_rfl)⟩
end Go.Proofs.YtegpkcbmgjoicaaGreat
