import Derived.Test.YtonjgggklniliaaGreatA15
namespace Go.AI
theorem cells_agg {cs : List AV} : (AV.agg cs).cells = cs := stpO rfl
theorem cells_int {q : IntKind} {n : Int} : (AV.int q n).cells = [.int q n] := stpO rfl
theorem cells_bool {b : Bool} : (AV.bool b).cells = [.bool b] := stpO rfl
theorem cells_str {s : List UInt8} : (AV.str s).cells = [.str s] := stpO rfl
theorem cells_sl {s : List AV} : (AV.sl s).cells = [.sl s] := stpO rfl
theorem cells_pp {s : List AV} {o : Nat} : (AV.pp s o).cells = [.pp s o] := stpO rfl
theorem cells_own {i : Nat} : (AV.own i).cells = [.own i] := stpO rfl
theorem cells_ad {i j o : Nat} : (AV.ad i j o).cells = [.ad i j o] := stpO rfl
theorem cells_fn {f : FuncId} {cs : List AV} : (AV.fn f cs).cells = [.fn f cs] := stpO rfl
end Go.AI
