/- The numbers under which this seat's program holds the functions and types of sync.Mutex, and that it holds them. Conditions: none. -/
import Derived.Test.YtdaklffbfadghaaGreatProg
import Derived.Conc.MuLone
import Derived.KernelRfl
namespace Go.Proofs.YtdaklffbfadghaaGreat
abbrev muLink : Go.Conc.Locks.MuLink := { lock := 57, unlock := 58, ilock := 93, iunlock := 94, lockSlow := 115, unlockSlow := 118, disable := 111, enable := 113, acquire := 114, relMerge := 116, cas32 := 112, add32 := 117, tMutex := 90, tIMutex := 88, tPMutex := 143, tPIMutex := 154, tPI32 := 156, tUP := 158, tNoCopy := 85, tU32 := 86 }
theorem muLib : Go.Conc.Locks.MuLib Tryz.prog muLink :=
  ⟨Tryz.func57, Tryz.func58, Tryz.func93, Tryz.func94, Tryz.func111, Tryz.func113, Tryz.func114, Tryz.func116, Tryz.func112, Tryz.func117, Tryz.underlying88, Tryz.runUnderlying88, Tryz.sizeOf88, Tryz.isAgg88, Tryz.zeroValue88, Tryz.underlying90, Tryz.runUnderlying90, Tryz.sizeOf90, Tryz.isAgg90, Tryz.zeroValue90, Tryz.underlying143, Tryz.runUnderlying143, Tryz.sizeOf143, Tryz.isAgg143, Tryz.zeroValue143, Tryz.underlying154, Tryz.runUnderlying154, Tryz.sizeOf154, Tryz.isAgg154, Tryz.zeroValue154, Tryz.underlying156, Tryz.runUnderlying156, Tryz.sizeOf156, Tryz.isAgg156, Tryz.zeroValue156, Tryz.underlying158, Tryz.runUnderlying158, Tryz.sizeOf158, Tryz.isAgg158, Tryz.zeroValue158, Tryz.underlying85, Tryz.runUnderlying85, Tryz.sizeOf85, Tryz.isAgg85, Tryz.zeroValue85, Tryz.underlying21, Tryz.runUnderlying21, Tryz.sizeOf21, Tryz.isAgg21, Tryz.zeroValue21, (by kernel_rfl)⟩
end Go.Proofs.YtdaklffbfadghaaGreat
