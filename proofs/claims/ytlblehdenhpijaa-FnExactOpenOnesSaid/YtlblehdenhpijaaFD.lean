/- The functions' equations, written by a printer of ours (wip/bin/Sym.lean, emit.py) for this claim. -/
import Derived.Test.YtlblehdenhpijaaE38
import Derived.Test.YtlblehdenhpijaaTab
namespace Go.Proofs.Ytlblehdenhpijaa.Eng
open Go.RowKit
set_option linter.unusedVariables false
set_option maxRecDepth 100000
set_option maxHeartbeats 0
variable {D : Den} {I : Iter}
noncomputable def laws_FnExactEventName.c (D : Den) (a0 : Int) : Option Ret := D 3 [.c (.int IntKind.i64 a0)] []
noncomputable def laws_FnExactOpenOnes.c (D : Den) (a0 : List (List U)) : Option Ret := D 9 [.c (.rd 79 a0)] []
noncomputable def laws_FnExactCloseSession.c (D : Den) (a0 : List (List U)) (a1 : Int) : Option Ret := D 12 [.c (.rd 79 a0), .c (.int IntKind.i64 a1)] []
noncomputable def spec_EventName.c (D : Den) (a0 : Int) : Option Ret := D 15 [.c (.int IntKind.i64 a0)] []
noncomputable def impl_EventName.c (D : Den) (a0 : Int) : Option Ret := D 16 [.c (.int IntKind.i64 a0)] []
noncomputable def laws_szSessionS.c (D : Den) (a0 : List (List U)) (a1 : Int) : Option Ret := D 32 [.c (.rd 79 a0), .c (.int IntKind.i64 a1)] []
noncomputable def laws_toSessionS.c (D : Den) (a0 : List (List U)) : Option Ret := D 34 [.c (.rd 79 a0)] []
noncomputable def laws_toSessionS.l0 (D : Den) (I : Iter) (x0 : List (List U)) (x1 : Int) (x2 : List (List U)) : Option Ret := conf.loopI Go.Proofs.Try.prog D I 34 (rootTypes []) [1, 1, 0, 1, 0] ⟨slots 23 [(0, .c (.rd 79 x0)), (3, .c (.al 0 [] 74)), (4, .c (.int IntKind.i64 x1))], [.row 74 true x2], 0⟩
noncomputable def spec_OpenOnes.c (D : Den) (a0 : List (List U)) : Option Ret := D 37 [.c (.rd 74 a0)] []
noncomputable def spec_OpenOnes.l0 (D : Den) (I : Iter) (x0 : List (List U)) (x1 : Int) (x2 : List (List U)) : Option Ret := conf.loopI Go.Proofs.Try.prog D I 37 (rootTypes []) [1, 1, 0, 1, 0] ⟨slots 26 [(0, .c (.rd 74 x0)), (3, .c (.al 0 [] 3)), (4, .c (.int IntKind.i64 x1))], [.row 3 true x2], 0⟩
noncomputable def impl_OpenOnes.c (D : Den) (a0 : List (List U)) : Option Ret := D 38 [.c (.rd 74 a0)] []
noncomputable def impl_OpenOnes.l0 (D : Den) (I : Iter) (x0 : List (List U)) (x1 : Int) (x2 : Int) (x3 : List (List U)) : Option Ret := conf.loopI Go.Proofs.Try.prog D I 38 (rootTypes []) [1, 1, 0, 1, 0] ⟨slots 22 [(3, .c (.al 0 [] 3)), (7, .c (.rd 74 x0)), (8, .c (.int IntKind.i64 x1)), (9, .c (.int IntKind.i64 x2))], [.row 3 true x3], 0⟩
noncomputable def laws_eqIntS.c (D : Den) (a0 : List (List U)) (a1 : List (List U)) : Option Ret := D 20 [.c (.rd 3 a0), .c (.rd 3 a1)] []
noncomputable def laws_eqIntS.l0 (D : Den) (I : Iter) (x0 : List (List U)) (x1 : List (List U)) (x2 : Int) : Option Ret := conf.loopI Go.Proofs.Try.prog D I 20 (rootTypes []) [1, 1, 0, 1, 0] ⟨slots 26 [(0, .c (.rd 3 x0)), (1, .c (.rd 3 x1)), (5, .c (.int IntKind.i64 x2))], [], 0⟩
noncomputable def laws_eqSessionS.c (D : Den) (a0 : List (List U)) (a1 : List (List U)) : Option Ret := D 36 [.c (.rd 74 a0), .c (.rd 74 a1)] []
noncomputable def laws_eqSessionS.l0 (D : Den) (I : Iter) (x0 : List (List U)) (x1 : List (List U)) (x2 : Int) : Option Ret := conf.loopI Go.Proofs.Try.prog D I 36 (rootTypes []) [1, 1, 0, 1, 0] ⟨slots 27 [(0, .c (.rd 74 x0)), (1, .c (.rd 74 x1)), (5, .c (.int IntKind.i64 x2))], [], 0⟩
noncomputable def laws_markSessionS.c (D : Den) (a0 : Int) (a1 : List (List U)) : Option Ret := D 39 [.c (.al 0 [] 74), .c (.int IntKind.i64 a0)] [.row 74 true a1]
noncomputable def laws_markSessionS.l0 (D : Den) (I : Iter) (x0 : Int) (x1 : Int) (x2 : List (List U)) : Option Ret := conf.loopI Go.Proofs.Try.prog D I 39 (rootTypes [.row 74 true []]) [1, 0, 1, 0] ⟨slots 91 [(0, .c (.al 0 [] 74)), (1, .c (.int IntKind.i64 x0)), (5, .c (.int IntKind.i64 x1))], [.row 74 true x2], 1⟩
noncomputable def laws_markIntS.c (D : Den) (a0 : Int) (a1 : List (List U)) : Option Ret := D 21 [.c (.al 0 [] 3), .c (.int IntKind.i64 a0)] [.row 3 true a1]
noncomputable def laws_markIntS.l0 (D : Den) (I : Iter) (x0 : Int) (x1 : Int) (x2 : List (List U)) : Option Ret := conf.loopI Go.Proofs.Try.prog D I 21 (rootTypes [.row 3 true []]) [1, 0, 1, 0] ⟨slots 19 [(0, .c (.al 0 [] 3)), (1, .c (.int IntKind.i64 x0)), (5, .c (.int IntKind.i64 x1))], [.row 3 true x2], 1⟩
noncomputable def laws_heldIntS.c (D : Den) (a0 : List (List U)) (a1 : Int) : Option Ret := D 22 [.c (.rd 3 a0), .c (.int IntKind.i64 a1)] []
noncomputable def laws_heldIntS.l0 (D : Den) (I : Iter) (x0 : List (List U)) (x1 : Int) (x2 : Int) : Option Ret := conf.loopI Go.Proofs.Try.prog D I 22 (rootTypes []) [1, 0, 1, 0] ⟨slots 21 [(0, .c (.rd 3 x0)), (1, .c (.int IntKind.i64 x1)), (5, .c (.int IntKind.i64 x2))], [], 0⟩
noncomputable def spec_CloseSession.c (D : Den) (a0 : List (List U)) (a1 : Int) : Option Ret := D 46 [.c (.rd 74 a0), .c (.int IntKind.i64 a1)] []
noncomputable def impl_CloseSession.c (D : Den) (a0 : List (List U)) (a1 : Int) : Option Ret := D 47 [.c (.rd 74 a0), .c (.int IntKind.i64 a1)] []
noncomputable def laws_heldSessionS.c (D : Den) (a0 : List (List U)) (a1 : Int) : Option Ret := D 48 [.c (.rd 74 a0), .c (.int IntKind.i64 a1)] []
noncomputable def laws_heldSessionS.l0 (D : Den) (I : Iter) (x0 : List (List U)) (x1 : Int) (x2 : Int) : Option Ret := conf.loopI Go.Proofs.Try.prog D I 48 (rootTypes []) [1, 0, 1, 0] ⟨slots 111 [(0, .c (.rd 74 x0)), (1, .c (.int IntKind.i64 x1)), (5, .c (.int IntKind.i64 x2))], [], 0⟩
noncomputable def spec_l1In.c (D : Den) (a0 : Int) (a1 : Int) (a2 : Int) : Option Ret := D 54 [.c (.int IntKind.i64 a0), .c (.int IntKind.i64 a1), .c (.int IntKind.i64 a2)] []
noncomputable def impl_InRange.c (D : Den) (a0 : Int) (a1 : Int) (a2 : Int) : Option Ret := D 55 [.c (.int IntKind.i64 a0), .c (.int IntKind.i64 a1), .c (.int IntKind.i64 a2)] []
noncomputable def laws_toSession.c (D : Den) (a0 : Int) (a1 : Int) (a2 : Int) (a3 : Int) (a4 : Int) (a5 : Int) (a6 : Int) (a7 : Int) (a8 : Int) (a9 : Bool) : Option Ret := D 59 [.ag [.int IntKind.i64 a0, .int IntKind.i64 a1, .int IntKind.i64 a2, .int IntKind.i64 a3, .int IntKind.i64 a4, .int IntKind.i64 a5, .int IntKind.i64 a6, .int IntKind.i64 a7, .int IntKind.i64 a8, .bool a9]] []
noncomputable def laws_eqSession.c (D : Den) (a0 : Int) (a1 : Int) (a2 : Int) (a3 : Int) (a4 : Int) (a5 : Int) (a6 : Int) (a7 : Int) (a8 : Int) (a9 : Bool) (a10 : Int) (a11 : Int) (a12 : Int) (a13 : Int) (a14 : Int) (a15 : Int) (a16 : Int) (a17 : Int) (a18 : Int) (a19 : Bool) : Option Ret := D 61 [.ag [.int IntKind.i64 a0, .int IntKind.i64 a1, .int IntKind.i64 a2, .int IntKind.i64 a3, .int IntKind.i64 a4, .int IntKind.i64 a5, .int IntKind.i64 a6, .int IntKind.i64 a7, .int IntKind.i64 a8, .bool a9], .ag [.int IntKind.i64 a10, .int IntKind.i64 a11, .int IntKind.i64 a12, .int IntKind.i64 a13, .int IntKind.i64 a14, .int IntKind.i64 a15, .int IntKind.i64 a16, .int IntKind.i64 a17, .int IntKind.i64 a18, .bool a19]] []
noncomputable def laws_toRequest.c (D : Den) (a0 : Int) (a1 : Int) (a2 : Int) (a3 : Int) (a4 : Int) (a5 : Int) : Option Ret := D 74 [.ag [.int IntKind.i64 a0, .int IntKind.i64 a1, .int IntKind.i64 a2, .int IntKind.i64 a3, .int IntKind.i64 a4, .int IntKind.i64 a5]] []
noncomputable def laws_eqRequest.c (D : Den) (a0 : Int) (a1 : Int) (a2 : Int) (a3 : Int) (a4 : Int) (a5 : Int) (a6 : Int) (a7 : Int) (a8 : Int) (a9 : Int) (a10 : Int) (a11 : Int) : Option Ret := D 76 [.ag [.int IntKind.i64 a0, .int IntKind.i64 a1, .int IntKind.i64 a2, .int IntKind.i64 a3, .int IntKind.i64 a4, .int IntKind.i64 a5], .ag [.int IntKind.i64 a6, .int IntKind.i64 a7, .int IntKind.i64 a8, .int IntKind.i64 a9, .int IntKind.i64 a10, .int IntKind.i64 a11]] []
end Go.Proofs.Ytlblehdenhpijaa.Eng
