/- The functions' equations, written by a printer of ours (wip/bin/Sym.lean, emit2.py) for this claim. -/
import Derived.Test.YtlkcpabdpmenpaaSem
namespace Go.Proofs.Ytlkcpabdpmenpaa.Eng
open Go.RowKit
set_option linter.unusedVariables false
set_option maxRecDepth 100000
set_option maxHeartbeats 0
variable [Sm]
noncomputable def laws_FnTrails.c (a0 : LL) : O := Sm.D 3 [.c (.rd 5 a0)] []
noncomputable def laws_FnTrails.l0 (x0 x1 : LL) (x2 : Int) : O := Sm.I 3 [] [1, 1, 1, 1, 1, 0, 1, 0, 1, 0] ⟨slots 154 [(0, .c (.rd 5 x0)), (5, .c (.rd 26 x1)), (7, .c (.i x2))], [], 0⟩
noncomputable def laws_FnTrails.l1 (x0 : Int) (x1 x2 x3 : LL) : O := Sm.I 3 [] [1, 1, 1, 1, 1, 1, 1, 1, 0, 1, 0] ⟨slots 154 [(10, .c (.al 0 [] 26)), (11, .c (.al 1 [] 26)), (12, .c (.al 2 [] 26)), (13, .c (.i x0))], [.row 26 true x1, .row 26 true x2, .row 26 true x3], 0⟩
noncomputable def laws_big.c (a0 : LL) : O := Sm.D 5 [.c (.rd 5 a0)] []
noncomputable def spec_DrawAppendEntry.c (a0 : LL) : O := Sm.D 6 [.c (.rd 5 a0)] []
noncomputable def spec_DrawAppendEntry.l0 (x0 x1 x2 x3 x4 x5 x6 x7 x8 : Int) (x9 x10 : LL) : O := Sm.I 6 [] [1, 1, 1, 0, 1, 0, 0] ⟨slots 42 [(3, .bx 0 0), (4, .po 1 [] 77 0 0), (5, .c (.al 2 [] 26))], [.box 26 [.i x0, .i x1, .i x2, .i x3, .i x4, .i x5, .i x6, .i x7, .i x8], .row 77 false x9, .row 26 true x10], 0⟩
noncomputable def impl_AppendEntry.c (a0 : LL) (a1 a2 a3 a4 a5 a6 a7 a8 a9 : Int) : O := Sm.D 7 [.c (.rd 26 a0), .ag [.i a1, .i a2, .i a3, .i a4, .i a5, .i a6, .i a7, .i a8, .i a9]] []
noncomputable def impl_IsTrail.c (a0 : LL) : O := Sm.D 8 [.c (.rd 26 a0)] []
noncomputable def impl_IsTrail.l0 (x0 : LL) (x1 x2 : Int) (x3 : LL) : O := Sm.I 8 [] [1, 1, 0, 1, 0] ⟨slots 35 [(3, .c (.al 0 [] 26)), (9, .c (.rd 26 x0)), (10, .c (.i x1)), (11, .c (.i x2))], [.row 26 true x3], 0⟩
noncomputable def impl_IsExtension.c (a0 a1 : LL) : O := Sm.D 9 [.c (.rd 26 a0), .c (.rd 26 a1)] []
noncomputable def spec_IsTrail.c (a0 : LL) : O := Sm.D 10 [.c (.rd 26 a0)] []
noncomputable def spec_IsTrail.l0 (x0 : LL) (x1 : Int) (x2 : LL) : O := Sm.I 10 [] [1, 1, 1, 0, 1, 0] ⟨slots 40 [(0, .c (.rd 26 x0)), (3, .c (.al 0 [] 26)), (4, .c (.i x1))], [.row 26 true x2], 0⟩
noncomputable def spec_DrawJoinTrails.c (a0 : LL) : O := Sm.D 11 [.c (.rd 5 a0)] []
noncomputable def impl_JoinTrails.c (a0 a1 : LL) : O := Sm.D 12 [.c (.rd 26 a0), .c (.rd 26 a1)] []
noncomputable def impl_JoinTrails.l0 (x0 x1 x2 : LL) : O := Sm.I 12 [] [1, 1, 0, 0] ⟨slots 51 [(0, .c (.rd 26 x0)), (1, .c (.rd 26 x1)), (5, .c (.al 0 [] 26))], [.row 26 true x2], 0⟩
noncomputable def impl_CountEntries.c (a0 : LL) (a1 a2 : Int) : O := Sm.D 13 [.c (.rd 26 a0), .c (.i a1), .c (.i a2)] []
noncomputable def impl_CountEntries.l0 (x0 x1 x2 : Int) (x3 : LL) (x4 x5 : Int) : O := Sm.I 13 [] [1, 1, 0, 1, 0] ⟨slots 30 [(1, .c (.i x0)), (2, .c (.i x1)), (7, .c (.i x2)), (10, .c (.rd 26 x3)), (11, .c (.i x4)), (12, .c (.i x5))], [], 0⟩
noncomputable def spec_l1New.c (a0 : LL) : O := Sm.D 24 [.c (.rd 5 a0)] []
noncomputable def spec_l1New.l0 (x0 : LL) (x1 x2 : Int) : O := Sm.I 24 [] [1, 1, 0, 1, 0] ⟨slots 32 [(0, .c (.rd 5 x0)), (3, .c (.i x1)), (4, .c (.i x2))], [], 0⟩
noncomputable def spec_l34Trail.c (a0 : LL) : O := Sm.D 25 [.po 0 [] 77 0 0] [.row 77 false a0]
noncomputable def spec_l34Trail.l0 (x0 x1 : Int) (x2 x3 : LL) : O := Sm.I 25 (rootTypes [.row 77 false []]) [1, 1, 1, 0, 1, 0] ⟨slots 26 [(0, .po 0 [] 77 0 0), (3, .c (.al 1 [] 26)), (4, .c (.i x0)), (5, .c (.i x1))], [.row 77 false x2, .row 26 true x3], 1⟩
noncomputable def spec_l1Once.c (a0 : Int) (a1 : LL) : O := Sm.D 26 [.po 0 [] 77 0 0, .c (.i a0)] [.row 77 false a1]
noncomputable def spec_AppendEntry.c (a0 : LL) (a1 a2 a3 a4 a5 a6 a7 a8 a9 : Int) : O := Sm.D 27 [.c (.rd 26 a0), .ag [.i a1, .i a2, .i a3, .i a4, .i a5, .i a6, .i a7, .i a8, .i a9]] []
noncomputable def spec_l1Below.c (a0 : Int) (a1 : LL) : O := Sm.D 29 [.po 0 [] 77 0 0, .c (.i a0)] [.row 77 false a1]
noncomputable def spec_l34Entry.c (a0 : Int) (a1 : LL) : O := Sm.D 28 [.po 0 [] 77 0 0, .c (.i a0)] [.row 77 false a1]
noncomputable def spec_l1Int.c (a0 a1 : LL) : O := Sm.D 30 [.po 0 [] 77 0 0, .c (.al 1 [] 3)] [.row 77 false a0, .row 3 true a1]
noncomputable def spec_l4Time.c (a0 : LL) : O := Sm.D 31 [.po 0 [] 77 0 0] [.row 77 false a0]
noncomputable def impl_InRange.c (a0 a1 a2 : Int) : O := Sm.D 32 [.c (.i a0), .c (.i a1), .c (.i a2)] []
noncomputable def impl_IsTime.c (a0 : Int) : O := Sm.D 33 [.c (.i a0)] []
noncomputable def impl_LastMark.c (a0 : LL) : O := Sm.D 35 [.c (.rd 26 a0)] []
noncomputable def impl_EntryInts.c (a0 a1 a2 a3 a4 a5 a6 a7 a8 : Int) : O := Sm.D 36 [.ag [.i a0, .i a1, .i a2, .i a3, .i a4, .i a5, .i a6, .i a7, .i a8]] []
noncomputable def impl_Hash.c (a0 : LL) : O := Sm.D 34 [.c (.rd 3 a0)] []
noncomputable def impl_Hash.l0 (x0 : Int) (x1 : LL) (x2 x3 : Int) : O := Sm.I 34 [] [1, 1, 0, 1, 0] ⟨slots 21 [(3, .c (.i x0)), (6, .c (.rd 3 x1)), (7, .c (.i x2)), (8, .c (.i x3))], [], 0⟩
noncomputable def slices_Equal_Entry.c (a0 a1 : LL) : O := Sm.D 37 [.c (.rd 26 a0), .c (.rd 26 a1)] []
noncomputable def slices_Equal_Entry.l0 (x0 x1 : LL) (x2 x3 : Int) : O := Sm.I 37 [] [1, 1, 0, 1, 0] ⟨slots 26 [(0, .c (.rd 26 x0)), (1, .c (.rd 26 x1)), (12, .c (.i x2)), (13, .c (.i x3))], [], 0⟩
noncomputable def spec_l5Name.c (a0 : Int) (a1 : LL) : O := Sm.D 40 [.po 0 [] 77 0 0, .c (.i a0)] [.row 77 false a1]
noncomputable def spec_l1In.c (a0 a1 a2 : Int) : O := Sm.D 46 [.c (.i a0), .c (.i a1), .c (.i a2)] []
noncomputable def spec_IsTime.c (a0 : Int) : O := Sm.D 54 [.c (.i a0)] []
noncomputable def spec_LastMark.c (a0 : LL) : O := Sm.D 56 [.c (.rd 26 a0)] []
noncomputable def spec_EntryInts.c (a0 a1 a2 a3 a4 a5 a6 a7 a8 : Int) : O := Sm.D 57 [.ag [.i a0, .i a1, .i a2, .i a3, .i a4, .i a5, .i a6, .i a7, .i a8]] []
noncomputable def spec_Hash.c (a0 : LL) : O := Sm.D 55 [.c (.rd 3 a0)] []
noncomputable def spec_Hash.l0 (x0 : LL) (x1 x2 : Int) : O := Sm.I 55 [] [1, 1, 0, 1, 0] ⟨slots 22 [(0, .c (.rd 3 x0)), (3, .c (.i x1)), (4, .c (.i x2))], [], 0⟩
noncomputable def spec_l1Byte.c (a0 : LL) : O := Sm.D 58 [.po 0 [] 77 0 0] [.row 77 false a0]
noncomputable def impl_Mod.c (a0 a1 : Int) : O := Sm.D 59 [.c (.i a0), .c (.i a1)] []
noncomputable def spec_Mod.c (a0 a1 : Int) : O := Sm.D 68 [.c (.i a0), .c (.i a1)] []
end Go.Proofs.Ytlkcpabdpmenpaa.Eng
