/-
  The numbers under which this program holds the functions and types of a mutex, and that it holds them.
-/
import Derived.Test.YtipololccbdojaaGreatDoorProg
import Derived.Conc.MuLone
import Derived.KernelRfl
namespace Go.Proofs
abbrev Tryz.muLink : Go.Conc.Locks.MuLink := { lock := 55, unlock := 56, ilock := 99, iunlock := 100, lockSlow := 126, unlockSlow := 129, disable := 122, enable := 124, acquire := 125, relMerge := 127, cas32 := 123, add32 := 128, tMutex := 104, tIMutex := 102, tPMutex := 160, tPIMutex := 195, tPI32 := 197, tUP := 135, tNoCopy := 99, tU32 := 100 }
theorem Tryz.muLib : Go.Conc.Locks.MuLib Tryz.prog Tryz.muLink :=
  ⟨Tryz.func55, Tryz.func56, Tryz.func99, Tryz.func100, Tryz.func122, Tryz.func124, Tryz.func125, Tryz.func127, Tryz.func123, Tryz.func128, Tryz.underlying102, Tryz.runUnderlying102, Tryz.sizeOf102, Tryz.isAgg102, Tryz.zeroValue102, Tryz.underlying104, Tryz.runUnderlying104, Tryz.sizeOf104, Tryz.isAgg104, Tryz.zeroValue104, Tryz.underlying160, Tryz.runUnderlying160, Tryz.sizeOf160, Tryz.isAgg160, Tryz.zeroValue160, Tryz.underlying195, Tryz.runUnderlying195, Tryz.sizeOf195, Tryz.isAgg195, Tryz.zeroValue195, Tryz.underlying197, Tryz.runUnderlying197, Tryz.sizeOf197, Tryz.isAgg197, Tryz.zeroValue197, Tryz.underlying135, Tryz.runUnderlying135, Tryz.sizeOf135, Tryz.isAgg135, Tryz.zeroValue135, Tryz.underlying99, Tryz.runUnderlying99, Tryz.sizeOf99, Tryz.isAgg99, Tryz.zeroValue99, Tryz.underlying21, Tryz.runUnderlying21, Tryz.sizeOf21, Tryz.isAgg21, Tryz.zeroValue21, (by kernel_rfl)⟩
end Go.Proofs
