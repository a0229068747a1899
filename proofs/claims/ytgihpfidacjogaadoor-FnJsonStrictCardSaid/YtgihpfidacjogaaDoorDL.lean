/- A text of the proof of FnJsonStrict: DL. -/
import Derived.Test.YtgihpfidacjogaaDoorSlU
import Derived.Test.YtgihpfidacjogaaDoorProg
import Derived.Ground.NamesProg
import Derived.Shelf.Lay
set_option linter.unusedVariables false
set_option linter.unusedSimpArgs false
namespace Go.Proofs
open Go.Shelf
shelf_lay Lays.n137 Nm 137 at Tryd as Tryd.lays137
shelf_lay Lays.n160 Nm 160 at Tryd as Tryd.lays160
shelf_lay Lays.n156 Nm 156 at Tryd as Tryd.lays156
theorem Tryd.extra156 : Builder.Extra Tryd.prog Tryd.lays156_ren where
  sizeBuilder := by kernel_rfl
  liesBuilder := by kernel_rfl
  t5 := Tryd.lays137.t5
  a5 := Tryd.lays137.a5
  z5 := Tryd.lays137.z5
  v5 := Tryd.lays137.v5
  infoByte := by kernel_rfl
  cellsByte := by kernel_rfl
  sizeByte := by kernel_rfl
  neB5 := by decide
end Go.Proofs
namespace Fw
open Go Go.SL Go.Proofs
theorem strings_IndexByte_ok {s : List UInt8} {c : UInt8} {y : Int} (h : strings_IndexByte s c = some y) (g : Nat → Nat) : Fn Tryd.prog 40 (stoF g []) [aS s, aU c] (stoF g []) (aI y) := Fn.indexByteF Tryd.lays137 (by kernel_rfl) h _
theorem strings_Trim_ok {s cs y : List UInt8} (h : strings_Trim s cs = some y) (g : Nat → Nat) : Fn Tryd.prog 43 (stoF g []) [aS s, aS cs] (stoF g []) (aS y) := Fn.trimF Tryd.lays160 (by kernel_rfl) (by kernel_rfl) h _
theorem strings_Join_ok {xs : List (List UInt8)} {sep y : List UInt8} (h : strings_Join xs sep = some y) (g : Nat → Nat) : Fn Tryd.prog 35 (stoF g []) [aL 1 eS xs, aS sep] (stoF g []) (aS y) := Fn.joinF Tryd.lays156 Tryd.extra156 (by kernel_rfl) h _
end Fw
