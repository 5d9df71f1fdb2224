/- The tables of the seat's types, its functions' modes. Written by wip/bin/Gen.lean. -/
import Derived.Test.YteahcmobjegpnaaE9
import Derived.Test.YteahcmobjegpnaaProg
namespace Go.Proofs.Yteahcmobjegpnaa.Eng
open Go.RowKit
set_option maxRecDepth 100000
def tabs : Tabs := [
  ⟨.other, [], 0⟩,
  ⟨.other, [], 0⟩,
  ⟨.one (.int .i64), [.int .i64], 8⟩,
  ⟨.one (.int .i64), [.int .i64], 8⟩,
  ⟨.one (.bool), [.bool], 1⟩,
  ⟨.one (.int .u8), [.int .u8], 1⟩,
  ⟨.one (.int .u8), [.int .u8], 1⟩,
  ⟨.st [(2, 0), (3, 1), (4, 2), (6, 3)], [.int .i64, .int .i64, .bool, .int .u8], 24⟩,
  ⟨.st [(2, 0), (3, 1), (4, 2), (6, 3)], [.int .i64, .int .i64, .bool, .int .u8], 24⟩,
  ⟨.one (.str), [.str], 16⟩,
  ⟨.one (.str), [.str], 16⟩,
  ⟨.one (.str), [.str], 16⟩,
  ⟨.one (.int .u64), [.int .u64], 8⟩,
  ⟨.st [(9, 0), (12, 1)], [.str, .int .u64], 24⟩,
  ⟨.st [(9, 0), (12, 1)], [.str, .int .u64], 24⟩,
  ⟨.other, [], 0⟩,
  ⟨.other, [], 0⟩,
  ⟨.other, [], 0⟩,
  ⟨.other, [], 0⟩,
  ⟨.other, [], 0⟩,
  ⟨.other, [], 0⟩,
  ⟨.one (.int .i32), [.int .i32], 4⟩,
  ⟨.one (.slc 3), [.slc 3], 24⟩,
  ⟨.st [(22, 0), (22, 1), (3, 2)], [.slc 3, .slc 3, .int .i64], 56⟩,
  ⟨.st [(22, 0), (22, 1), (3, 2)], [.slc 3, .slc 3, .int .i64], 56⟩,
  ⟨.one (.slc 42), [.slc 42], 24⟩,
  ⟨.other, [], 0⟩,
  ⟨.other, [], 0⟩,
  ⟨.one (.slc 46), [.slc 46], 24⟩,
  ⟨.other, [], 0⟩,
  ⟨.other, [], 0⟩,
  ⟨.st [(22, 0), (22, 1), (3, 2)], [.slc 3, .slc 3, .int .i64], 56⟩,
  ⟨.other, [], 0⟩,
  ⟨.other, [], 0⟩,
  ⟨.other, [], 0⟩,
  ⟨.other, [], 0⟩,
  ⟨.other, [], 0⟩,
  ⟨.other, [], 0⟩,
  ⟨.other, [], 0⟩,
  ⟨.other, [], 0⟩,
  ⟨.other, [], 0⟩,
  ⟨.st [(3, 0), (3, 1), (3, 2), (3, 3), (22, 4), (4, 5)], [.int .i64, .int .i64, .int .i64, .int .i64, .slc 3, .bool], 64⟩,
  ⟨.st [(3, 0), (3, 1), (3, 2), (3, 3), (22, 4), (4, 5)], [.int .i64, .int .i64, .int .i64, .int .i64, .slc 3, .bool], 64⟩,
  ⟨.other, [], 0⟩,
  ⟨.other, [], 0⟩,
  ⟨.other, [], 0⟩,
  ⟨.st [(3, 0), (3, 1), (3, 2), (3, 3), (22, 4), (4, 5)], [.int .i64, .int .i64, .int .i64, .int .i64, .slc 3, .bool], 64⟩,
  ⟨.other, [], 0⟩,
  ⟨.other, [], 0⟩,
  ⟨.other, [], 0⟩,
  ⟨.other, [], 0⟩,
  ⟨.other, [], 0⟩,
  ⟨.other, [], 0⟩,
  ⟨.other, [], 0⟩,
  ⟨.other, [], 0⟩,
  ⟨.other, [], 0⟩,
  ⟨.other, [], 0⟩,
  ⟨.other, [], 0⟩,
  ⟨.other, [], 0⟩,
  ⟨.other, [], 0⟩,
  ⟨.other, [], 0⟩,
  ⟨.other, [], 0⟩,
  ⟨.other, [], 0⟩,
  ⟨.other, [], 0⟩,
  ⟨.other, [], 0⟩,
  ⟨.other, [], 0⟩,
  ⟨.other, [], 0⟩,
  ⟨.other, [], 0⟩,
  ⟨.one (.int .u32), [.int .u32], 4⟩,
  ⟨.one (.int .u8), [.int .u8], 1⟩,
  ⟨.one (.int .u8), [.int .u8], 1⟩,
  ⟨.other, [], 0⟩,
  ⟨.other, [], 0⟩,
  ⟨.one (.int .i32), [.int .i32], 4⟩,
  ⟨.one (.int .i32), [.int .i32], 4⟩,
  ⟨.other, [], 0⟩,
  ⟨.other, [], 0⟩,
  ⟨.other, [], 0⟩]
def hintL : FuncId → List (Nat × HintR)
  | 5 => [(5, ⟨[0, 1, 5], [], []⟩)]
  | 8 => [(3, ⟨[0, 3, 4], [], []⟩)]
  | 10 => [(4, ⟨[0, 1, 5], [], []⟩)]
  | 13 => [(2, ⟨[0, 1, 5], [], []⟩)]
  | 14 => [(2, ⟨[0, 1, 5], [], []⟩)]
  | 17 => [(3, ⟨[0, 3, 4], [], []⟩)]
  | 18 => [(2, ⟨[1, 2, 5, 23, 24, 25, 26, 27, 28, 31, 32, 33, 34, 37, 38, 39, 40, 41, 42, 43, 44, 45, 46, 47, 48, 49, 52, 53, 54, 55, 56, 57, 58, 59, 62, 63, 64, 65, 66, 67, 70, 71, 72, 73, 74, 75, 80, 81, 82], [], []⟩)]
  | 21 => [(2, ⟨[0, 1, 5], [], []⟩)]
  | 22 => [(3, ⟨[0, 3, 4], [], []⟩)]
  | 24 => [(3, ⟨[3, 7, 8, 9], [], []⟩)]
  | 25 => [(2, ⟨[1, 2, 7, 8, 9, 25, 26, 27], [], []⟩)]
  | 30 => [(4, ⟨[0, 1, 5], [], []⟩)]
  | 31 => [(2, ⟨[0, 1, 5], [], []⟩)]
  | 32 => [(2, ⟨[0, 1, 5], [], []⟩)]
  | 35 => [(2, ⟨[0, 1, 5], [], []⟩)]
  | 36 => [(3, ⟨[0, 1, 5, 6, 22, 23, 24, 25, 26, 27], [], []⟩)]
  | 41 => [(2, ⟨[0, 1, 7, 8], [], []⟩)]
  | 43 => [(2, ⟨[0, 1, 5, 20, 21, 22, 23, 24, 25, 26, 27, 28, 29, 30, 31, 32, 33], [], []⟩)]
  | 47 => [(3, ⟨[1, 5, 9, 10, 11, 20, 21, 22], [], []⟩)]
  | 48 => [(2, ⟨[0, 1, 2, 9, 10, 11, 22, 23, 24, 25, 26, 27, 28, 29, 30, 31, 32], [], []⟩)]
  | 50 => [(2, ⟨[0, 1, 7, 8], [], []⟩)]
  | _ => []
def sig : FuncId → Sig
  | 12 => ⟨[.m], []⟩
  | 13 => ⟨[.m], []⟩
  | 31 => ⟨[.m], []⟩
  | _ => ⟨[], []⟩
def eqL : List TypeId := [7, 8]
def eqT (t : TypeId) : Bool := eqL.elem t
def prims : List (FuncId × Prim) := []
def conf : Conf := ⟨tabs, eqT, sig, fun g r => (hintL g).lookup r, fun g => prims.lookup g⟩
end Go.Proofs.Yteahcmobjegpnaa.Eng
