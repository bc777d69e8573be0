/- The numbers under which this seat's program holds the functions and types of sync.Mutex, and that it holds them. Conditions: none. -/
import Derived.Test.YtegpkcbmgjoicaaProg
import Derived.Conc.MuLone
import Derived.KernelRfl
namespace Go.Proofs.Ytegpkcbmgjoicaa
abbrev muLink : Go.Conc.Locks.MuLink := { lock := 23, unlock := 24, ilock := 41, iunlock := 42, lockSlow := 57, unlockSlow := 60, disable := 53, enable := 55, acquire := 56, relMerge := 58, cas32 := 54, add32 := 59, tMutex := 61, tIMutex := 59, tPMutex := 95, tPIMutex := 106, tPI32 := 108, tUP := 110, tNoCopy := 56, tU32 := 57 }
theorem muLib : Go.Conc.Locks.MuLib Try.prog muLink :=
  ⟨Try.func23, Try.func24, Try.func41, Try.func42, Try.func53, Try.func55, Try.func56, Try.func58, Try.func54, Try.func59, Try.underlying59, Try.runUnderlying59, Try.sizeOf59, Try.isAgg59, Try.zeroValue59, Try.underlying61, Try.runUnderlying61, Try.sizeOf61, Try.isAgg61, Try.zeroValue61, Try.underlying95, Try.runUnderlying95, Try.sizeOf95, Try.isAgg95, Try.zeroValue95, Try.underlying106, Try.runUnderlying106, Try.sizeOf106, Try.isAgg106, Try.zeroValue106, Try.underlying108, Try.runUnderlying108, Try.sizeOf108, Try.isAgg108, Try.zeroValue108, Try.underlying110, Try.runUnderlying110, Try.sizeOf110, Try.isAgg110, Try.zeroValue110, Try.underlying56, Try.runUnderlying56, Try.sizeOf56, Try.isAgg56, Try.zeroValue56, Try.underlying21, Try.runUnderlying21, Try.sizeOf21, Try.isAgg21, Try.zeroValue21, (by kernel_rfl)⟩
end Go.Proofs.Ytegpkcbmgjoicaa
