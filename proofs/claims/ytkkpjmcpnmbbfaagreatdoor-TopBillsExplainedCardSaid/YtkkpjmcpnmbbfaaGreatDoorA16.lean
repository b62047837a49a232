/- Small equations of cells that a walk uses. -/
import Derived.Test.YtkkpjmcpnmbbfaaGreatDoorA15
namespace Go.AI
theorem cells_agg {cs : List AV} : (AV.agg cs).cells = cs := stpO rfl
theorem cells_int {q : IntKind} {n : Int} : (AV.int q n).cells = [.int q n] := stpO rfl
theorem cells_str {s : List UInt8} : (AV.str s).cells = [.str s] := stpO rfl
theorem cells_sl {s : List AV} : (AV.sl s).cells = [.sl s] := stpO rfl
theorem cells_own {i : Nat} : (AV.own i).cells = [.own i] := stpO rfl
theorem cells_fn {f : FuncId} {cs : List AV} : (AV.fn f cs).cells = [.fn f cs] := stpO rfl
end Go.AI
