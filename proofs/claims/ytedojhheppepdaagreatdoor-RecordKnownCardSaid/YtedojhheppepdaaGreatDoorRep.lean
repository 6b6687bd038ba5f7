/-
  strings.Repeat at this program, off the library's shelf: what it tells, at every state of the evaluator. For at least two copies of a text that is not empty, of at most 140737488355328 bytes in all.
-/
import Derived.Shelf.Strings.Repeat
import Derived.Shelf.Lay
import Derived.Ground.NamesProg
import Derived.Test.YtedojhheppepdaaGreatDoorProg
import Derived.Test.YtedojhheppepdaaGreatDoorEv29
import Derived.KernelRfl
namespace Go.Proofs
open Go.Shelf Go.RowKit

shelf_lay Lays.n105 Nm 105 at Tryz as Tryz.laysRepeat

theorem Tryz.extraRepeat : Builder.Extra Tryz.prog Tryz.laysRepeat_ren where
  sizeBuilder := by kernel_rfl
  liesBuilder := by kernel_rfl
  t5 := Tryz.laysRepeat.t5
  a5 := Tryz.laysRepeat.a5
  z5 := Tryz.laysRepeat.z5
  v5 := Tryz.laysRepeat.v5
  infoByte := by kernel_rfl
  cellsByte := by kernel_rfl
  sizeByte := by kernel_rfl
  neB5 := by decide

theorem Tryz.repeat_sim (gl : List Nat) (s : ByteArray) (c : Nat) (hc2 : 2 ≤ c) (hc : c ≤ 9223372036854775807) (hlen : s.size * c ≤ 140737488355328) (h0 : 0 < s.size) (σ : Go.Ev.St) :
    Go.Ev.SimF Tryz.prog gl (Tryz.laysRepeat_ren.f 105) #[.string s, .int .i64 (c : Nat)] σ (.string ⟨(Lib.repeatL s.data.toList c).toArray⟩) σ :=
  Go.Ev.SimF.of_below (fun w => Any.strings_Repeat_main Tryz.laysRepeat Tryz.extraRepeat s c w hc2 hc hlen h0) rfl rfl σ
theorem Tryz.repeat_num : Tryz.laysRepeat_ren.f 105 = 37 := by kernel_rfl
end Go.Proofs
