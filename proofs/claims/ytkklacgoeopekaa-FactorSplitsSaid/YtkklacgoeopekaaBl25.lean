/- bits.Len at this program, by the library's contract: it returns how many bits a number has. -/
import Derived.Shelf.Small.Bits
import Derived.Test.YtkklacgoeopekaaRet
namespace Go.Proofs.Ytkklacgoeopekaa
open Go.RowKit
open Go.Shelf
def lays125_ren : Go.Shelf.Ren := ⟨fun | 125 => 58 | 128 => 77 | 129 => 78 | n => n, fun | 46 => 86 | 3 => 3 | 51 => 22 | 53 => 32 | 4 => 4 | 5 => 5 | 9 => 9 | n => n, fun | n => n⟩
theorem lays125 : Go.Proofs.Lays.n125 Try.prog lays125_ren := {
  mixed := by kernel_rfl
  f125 := Try.func58.trans (congrArg some (by kernel_rfl))
  f128 := Try.func77.trans (congrArg some (by kernel_rfl))
  f129 := Try.func78.trans (congrArg some (by kernel_rfl))
  t3 := Try.underlying3
  a3 := Try.isAgg3
  z3 := Try.sizeOf3
  v3 := Try.zeroValue3
  t4 := Try.underlying4
  a4 := Try.isAgg4
  z4 := Try.sizeOf4
  v4 := Try.zeroValue4
  t5 := Try.underlying5
  a5 := Try.isAgg5
  z5 := Try.sizeOf5
  v5 := Try.zeroValue5
  t9 := Try.underlying9
  a9 := Try.isAgg9
  z9 := Try.sizeOf9
  v9 := Try.zeroValue9
  t46 := Try.underlying86
  a46 := Try.isAgg86
  z46 := Try.sizeOf86
  v46 := Try.zeroValue86
  t51 := Try.underlying22
  a51 := Try.isAgg22
  z51 := Try.sizeOf22
  v51 := Try.zeroValue22
  t53 := Try.underlying32
  a53 := Try.isAgg32
  z53 := Try.sizeOf32
  v53 := Try.zeroValue32 }
theorem bitsLen_any (x : Nat) (w : World) (h : x ≤ 1000000) : Calls Try.prog 58 #[.int .u64 (x : Int)] w (RetP w (.int .i64 ((Lib.bitLen x : Nat) : Int))) :=
  (Any.bits_Len lays125 (x : Int) w (by omega) (by omega)).mono fun e w' h2 => ⟨h2.1, h2.2.symm⟩
end Go.Proofs.Ytkklacgoeopekaa
