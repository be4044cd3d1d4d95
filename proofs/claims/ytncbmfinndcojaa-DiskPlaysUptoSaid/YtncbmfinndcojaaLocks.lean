/-
  The numbers under which this program holds the functions and types of a mutex, and that it holds them.
-/
import Derived.Test.YtncbmfinndcojaaProg
import Derived.Conc.MuLone
import Derived.KernelRfl
namespace Go.Proofs
abbrev Try.muLink : Go.Conc.Locks.MuLink := { lock := 31, unlock := 32, ilock := 61, iunlock := 62, lockSlow := 76, unlockSlow := 79, disable := 72, enable := 74, acquire := 75, relMerge := 77, cas32 := 73, add32 := 78, tMutex := 73, tIMutex := 71, tPMutex := 99, tPIMutex := 102, tPI32 := 104, tUP := 106, tNoCopy := 68, tU32 := 69 }
theorem Try.muLib : Go.Conc.Locks.MuLib Try.prog Try.muLink :=
  ⟨Try.func31, Try.func32, Try.func61, Try.func62, Try.func72, Try.func74, Try.func75, Try.func77, Try.func73, Try.func78, Try.underlying71, Try.runUnderlying71, Try.sizeOf71, Try.isAgg71, Try.zeroValue71, Try.underlying73, Try.runUnderlying73, Try.sizeOf73, Try.isAgg73, Try.zeroValue73, Try.underlying99, Try.runUnderlying99, Try.sizeOf99, Try.isAgg99, Try.zeroValue99, Try.underlying102, Try.runUnderlying102, Try.sizeOf102, Try.isAgg102, Try.zeroValue102, Try.underlying104, Try.runUnderlying104, Try.sizeOf104, Try.isAgg104, Try.zeroValue104, Try.underlying106, Try.runUnderlying106, Try.sizeOf106, Try.isAgg106, Try.zeroValue106, Try.underlying68, Try.runUnderlying68, Try.sizeOf68, Try.isAgg68, Try.zeroValue68, Try.underlying21, Try.runUnderlying21, Try.sizeOf21, Try.isAgg21, Try.zeroValue21, (by kernel_rfl)⟩
end Go.Proofs
