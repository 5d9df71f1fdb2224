/- The functions' equations, written by a printer of ours (wip/bin/Sym.lean, emit2.py) for this claim. -/
import Derived.Test.YteahcmobjegpnaaSem
namespace Go.Proofs.Yteahcmobjegpnaa.Eng
open Go.RowKit
set_option linter.unusedVariables false
set_option maxRecDepth 100000
set_option maxHeartbeats 0
variable [Sm]
noncomputable def laws_FnExactUseEmergency.c (a0 a1 : LL) (a2 : Int) (a3 : LL) (a4 a5 a6 : Int) : O := Sm.D 3 [.ag [.rd 3 a0, .rd 3 a1, .i a2], .c (.rd 42 a3), .c (.i a4), .c (.i a5), .c (.i a6)] []
noncomputable def laws_szPlan.c (a0 a1 : LL) (a2 a3 : Int) : O := Sm.D 4 [.ag [.rd 3 a0, .rd 3 a1, .i a2], .c (.i a3)] []
noncomputable def laws_szEmergencyS.c (a0 : LL) (a1 : Int) : O := Sm.D 5 [.c (.rd 42 a0), .c (.i a1)] []
noncomputable def laws_szEmergencyS.l0 (x0 : LL) (x1 x2 : Int) : O := Sm.I 5 [] [1, 1, 1, 0, 1, 0] ⟨slots 27 [(0, .c (.rd 42 x0)), (1, .c (.i x1)), (5, .c (.i x2))], [], 0⟩
noncomputable def laws_toPlan.c (a0 a1 : LL) (a2 : Int) : O := Sm.D 7 [.ag [.rd 3 a0, .rd 3 a1, .i a2]] []
noncomputable def laws_toEmergencyS.c (a0 : LL) : O := Sm.D 8 [.c (.rd 42 a0)] []
noncomputable def laws_toEmergencyS.l0 (x0 : LL) (x1 : Int) (x2 : LL) : O := Sm.I 8 [] [1, 1, 0, 1, 0] ⟨slots 23 [(0, .c (.rd 42 x0)), (3, .c (.al 0 [] 46)), (4, .c (.i x1))], [.row 46 true x2], 0⟩
noncomputable def spec_UseEmergency.c (a0 a1 : LL) (a2 : Int) (a3 : LL) (a4 a5 a6 : Int) : O := Sm.D 6 [.ag [.rd 3 a0, .rd 3 a1, .i a2], .c (.rd 46 a3), .c (.i a4), .c (.i a5), .c (.i a6)] []
noncomputable def impl_UseEmergency.c (a0 a1 : LL) (a2 : Int) (a3 : LL) (a4 a5 a6 : Int) : O := Sm.D 9 [.ag [.rd 3 a0, .rd 3 a1, .i a2], .c (.rd 46 a3), .c (.i a4), .c (.i a5), .c (.i a6)] []
noncomputable def laws_eqEmergencyS.c (a0 a1 : LL) : O := Sm.D 10 [.c (.rd 46 a0), .c (.rd 46 a1)] []
noncomputable def laws_eqEmergencyS.l0 (x0 x1 : LL) (x2 : Int) : O := Sm.I 10 [] [1, 1, 0, 1, 0] ⟨slots 27 [(0, .c (.rd 46 x0)), (1, .c (.rd 46 x1)), (5, .c (.i x2))], [], 0⟩
noncomputable def laws_eqPlan.c (a0 a1 : LL) (a2 : Int) (a3 a4 : LL) (a5 : Int) : O := Sm.D 11 [.ag [.rd 3 a0, .rd 3 a1, .i a2], .ag [.rd 3 a3, .rd 3 a4, .i a5]] []
noncomputable def laws_markPlan.c (a0 a1 : Int) (a2 a3 : LL) : O := Sm.D 12 [.ag [.al 0 [] 3, .al 1 [] 3, .i a0], .c (.i a1)] [.row 3 true a2, .row 3 true a3]
noncomputable def laws_markEmergencyS.c (a0 : Int) (a1 : LL) : O := Sm.D 13 [.c (.al 0 [] 46), .c (.i a0)] [.row 46 true a1]
noncomputable def laws_markEmergencyS.l0 (x0 x1 : Int) (x2 : LL) : O := Sm.I 13 (rootTypes [.row 46 true []]) [1, 0, 1, 0] ⟨slots 57 [(0, .c (.al 0 [] 46)), (1, .c (.i x0)), (5, .c (.i x1))], [.row 46 true x2], 1⟩
noncomputable def laws_heldEmergencyS.c (a0 : LL) (a1 : Int) : O := Sm.D 14 [.c (.rd 46 a0), .c (.i a1)] []
noncomputable def laws_heldEmergencyS.l0 (x0 : LL) (x1 x2 : Int) : O := Sm.I 14 [] [1, 0, 1, 0] ⟨slots 69 [(0, .c (.rd 46 x0)), (1, .c (.i x1)), (5, .c (.i x2))], [], 0⟩
noncomputable def laws_szIntS.c (a0 : LL) (a1 : Int) : O := Sm.D 15 [.c (.rd 3 a0), .c (.i a1)] []
noncomputable def laws_szEmergency.c (a0 a1 a2 a3 : Int) (a4 : LL) (a5 : Bool) (a6 : Int) : O := Sm.D 16 [.ag [.i a0, .i a1, .i a2, .i a3, .rd 3 a4, .bool a5], .c (.i a6)] []
noncomputable def laws_toIntS.c (a0 : LL) : O := Sm.D 22 [.c (.rd 3 a0)] []
noncomputable def laws_toIntS.l0 (x0 : LL) (x1 : Int) (x2 : LL) : O := Sm.I 22 [] [1, 1, 0, 1, 0] ⟨slots 22 [(0, .c (.rd 3 x0)), (3, .c (.al 0 [] 3)), (4, .c (.i x1))], [.row 3 true x2], 0⟩
noncomputable def laws_toEmergency.c (a0 a1 a2 a3 : Int) (a4 : LL) (a5 : Bool) : O := Sm.D 23 [.ag [.i a0, .i a1, .i a2, .i a3, .rd 3 a4, .bool a5]] []
noncomputable def spec_l33Copy.c (a0 : LL) : O := Sm.D 17 [.c (.rd 46 a0)] []
noncomputable def spec_l33Copy.l0 (x0 : LL) (x1 : Int) (x2 : LL) : O := Sm.I 17 [] [1, 1, 0, 1, 0] ⟨slots 30 [(0, .c (.rd 46 x0)), (3, .c (.al 0 [] 46)), (4, .c (.i x1))], [.row 46 true x2], 0⟩
noncomputable def spec_AreEmergencies.c (a0 a1 : LL) (a2 : Int) (a3 : LL) : O := Sm.D 18 [.ag [.rd 3 a0, .rd 3 a1, .i a2], .c (.rd 46 a3)] []
noncomputable def spec_AreEmergencies.l0 (x0 : LL) (x1 : Int) (x2 x3 : LL) (x4 : Int) : O := Sm.I 18 [] [1, 0, 1, 0] ⟨slots 84 [(1, .c (.rd 46 x0)), (2, .bx 0 0), (5, .c (.i x1))], [.box 31 [.rd 3 x2, .rd 3 x3, .i x4]], 0⟩
noncomputable def spec_l1In.c (a0 a1 a2 : Int) : O := Sm.D 19 [.c (.i a0), .c (.i a1), .c (.i a2)] []
noncomputable def spec_IsWithin.c (a0 a1 a2 : Int) : O := Sm.D 20 [.c (.i a0), .c (.i a1), .c (.i a2)] []
noncomputable def spec_l13Has.c (a0 : LL) (a1 : Int) : O := Sm.D 21 [.c (.rd 3 a0), .c (.i a1)] []
noncomputable def spec_l13Has.l0 (x0 : LL) (x1 x2 : Int) : O := Sm.I 21 [] [1, 0, 1, 0] ⟨slots 18 [(0, .c (.rd 3 x0)), (1, .c (.i x1)), (5, .c (.i x2))], [], 0⟩
noncomputable def impl_copyEmergencies.c (a0 : LL) : O := Sm.D 24 [.c (.rd 46 a0)] []
noncomputable def impl_copyEmergencies.l0 (x0 : LL) (x1 x2 : Int) (x3 : LL) : O := Sm.I 24 [] [1, 1, 0, 1, 0] ⟨slots 24 [(3, .c (.al 0 [] 46)), (7, .c (.rd 46 x0)), (8, .c (.i x1)), (9, .c (.i x2))], [.row 46 true x3], 0⟩
noncomputable def impl_AreEmergencies.c (a0 a1 : LL) (a2 : Int) (a3 : LL) : O := Sm.D 25 [.ag [.rd 3 a0, .rd 3 a1, .i a2], .c (.rd 46 a3)] []
noncomputable def impl_AreEmergencies.l0 (x0 x1 : LL) (x2 x3 : Int) (x4 x5 : LL) (x6 : Int) : O := Sm.I 25 [] [1, 0, 1, 0] ⟨slots 29 [(1, .c (.rd 46 x0)), (2, .bx 0 0), (7, .c (.rd 46 x1)), (8, .c (.i x2)), (9, .c (.i x3))], [.box 31 [.rd 3 x4, .rd 3 x5, .i x6]], 0⟩
noncomputable def impl_InRange.c (a0 a1 a2 : Int) : O := Sm.D 26 [.c (.i a0), .c (.i a1), .c (.i a2)] []
noncomputable def impl_IsWithin.c (a0 a1 a2 : Int) : O := Sm.D 27 [.c (.i a0), .c (.i a1), .c (.i a2)] []
noncomputable def slices_Contains_int.c (a0 : LL) (a1 : Int) : O := Sm.D 28 [.c (.rd 3 a0), .c (.i a1)] []
noncomputable def laws_eqEmergency.c (a0 a1 a2 a3 : Int) (a4 : LL) (a5 : Bool) (a6 a7 a8 a9 : Int) (a10 : LL) (a11 : Bool) : O := Sm.D 29 [.ag [.i a0, .i a1, .i a2, .i a3, .rd 3 a4, .bool a5], .ag [.i a6, .i a7, .i a8, .i a9, .rd 3 a10, .bool a11]] []
noncomputable def laws_eqIntS.c (a0 a1 : LL) : O := Sm.D 30 [.c (.rd 3 a0), .c (.rd 3 a1)] []
noncomputable def laws_eqIntS.l0 (x0 x1 : LL) (x2 : Int) : O := Sm.I 30 [] [1, 1, 0, 1, 0] ⟨slots 26 [(0, .c (.rd 3 x0)), (1, .c (.rd 3 x1)), (5, .c (.i x2))], [], 0⟩
noncomputable def laws_markIntS.c (a0 : Int) (a1 : LL) : O := Sm.D 31 [.c (.al 0 [] 3), .c (.i a0)] [.row 3 true a1]
noncomputable def laws_markIntS.l0 (x0 x1 : Int) (x2 : LL) : O := Sm.I 31 (rootTypes [.row 3 true []]) [1, 0, 1, 0] ⟨slots 19 [(0, .c (.al 0 [] 3)), (1, .c (.i x0)), (5, .c (.i x1))], [.row 3 true x2], 1⟩
noncomputable def laws_heldIntS.c (a0 : LL) (a1 : Int) : O := Sm.D 32 [.c (.rd 3 a0), .c (.i a1)] []
noncomputable def laws_heldIntS.l0 (x0 : LL) (x1 x2 : Int) : O := Sm.I 32 [] [1, 0, 1, 0] ⟨slots 21 [(0, .c (.rd 3 x0)), (1, .c (.i x1)), (5, .c (.i x2))], [], 0⟩
noncomputable def spec_IsTime.c (a0 : Int) : O := Sm.D 33 [.c (.i a0)] []
noncomputable def spec_EndOf.c (a0 a1 : Int) : O := Sm.D 34 [.c (.i a0), .c (.i a1)] []
noncomputable def spec_l30Under.c (a0 a1 : LL) : O := Sm.D 35 [.c (.rd 3 a0), .c (.rd 3 a1)] []
noncomputable def spec_l30Under.l0 (x0 x1 : LL) (x2 : Int) : O := Sm.I 35 [] [1, 0, 1, 0] ⟨slots 19 [(0, .c (.rd 3 x0)), (1, .c (.rd 3 x1)), (5, .c (.i x2))], [], 0⟩
noncomputable def spec_DebtsOf.c (a0 : LL) (a1 : Int) : O := Sm.D 36 [.c (.rd 46 a0), .c (.i a1)] []
noncomputable def spec_DebtsOf.l0 (x0 : LL) (x1 x2 : Int) (x3 : LL) : O := Sm.I 36 [] [1, 1, 0, 1, 0] ⟨slots 38 [(0, .c (.rd 46 x0)), (1, .c (.i x1)), (5, .c (.al 0 [] 3)), (6, .c (.i x2))], [.row 3 true x3], 0⟩
noncomputable def spec_IsPlan.c (a0 a1 : LL) (a2 : Int) : O := Sm.D 37 [.ag [.rd 3 a0, .rd 3 a1, .i a2]] []
noncomputable def impl_isEmergency.c (a0 a1 : LL) (a2 a3 a4 a5 a6 : Int) (a7 : LL) (a8 : Bool) (a9 : LL) : O := Sm.D 38 [.ag [.rd 3 a0, .rd 3 a1, .i a2], .ag [.i a3, .i a4, .i a5, .i a6, .rd 3 a7, .bool a8], .c (.rd 46 a9)] []
noncomputable def impl_IsPlan.c (a0 a1 : LL) (a2 : Int) : O := Sm.D 39 [.ag [.rd 3 a0, .rd 3 a1, .i a2]] []
noncomputable def impl_IsTime.c (a0 : Int) : O := Sm.D 40 [.c (.i a0)] []
noncomputable def slices_Index_int.c (a0 : LL) (a1 : Int) : O := Sm.D 41 [.c (.rd 3 a0), .c (.i a1)] []
noncomputable def slices_Index_int.l0 (x0 : LL) (x1 x2 x3 : Int) : O := Sm.I 41 [] [1, 0, 1, 0] ⟨slots 19 [(0, .c (.rd 3 x0)), (1, .c (.i x1)), (7, .c (.i x2)), (8, .c (.i x3))], [], 0⟩
noncomputable def spec_Min.c (a0 a1 : Int) : O := Sm.D 42 [.c (.i a0), .c (.i a1)] []
noncomputable def spec_l33Names.c (a0 : LL) (a1 : Int) : O := Sm.D 43 [.c (.rd 3 a0), .c (.i a1)] []
noncomputable def spec_l33Names.l0 (x0 : LL) (x1 x2 : Int) : O := Sm.I 43 [] [1, 0, 1, 0] ⟨slots 35 [(0, .c (.rd 3 x0)), (1, .c (.i x1)), (5, .c (.i x2))], [], 0⟩
noncomputable def impl_EndOf.c (a0 a1 : Int) : O := Sm.D 44 [.c (.i a0), .c (.i a1)] []
noncomputable def slices_ContainsFunc__impl_isEmergency_1.c (a0 a1 a2 : LL) (a3 : Int) : O := Sm.D 45 [.c (.rd 3 a0), .fn 46 [.pr 31 [.lst a1, .lst a2, .int a3] 0]] []
noncomputable def impl_DebtsOf.c (a0 : LL) (a1 : Int) : O := Sm.D 47 [.c (.rd 46 a0), .c (.i a1)] []
noncomputable def impl_DebtsOf.l0 (x0 : Int) (x1 : LL) (x2 x3 : Int) (x4 : LL) : O := Sm.I 47 [] [1, 1, 0, 1, 0] ⟨slots 31 [(1, .c (.i x0)), (5, .c (.al 0 [] 3)), (9, .c (.rd 46 x1)), (10, .c (.i x2)), (11, .c (.i x3))], [.row 3 true x4], 0⟩
noncomputable def impl_isAscending.c (a0 : LL) (a1 a2 : Int) : O := Sm.D 48 [.c (.rd 3 a0), .c (.i a1), .c (.i a2)] []
noncomputable def impl_isAscending.l0 (x0 : LL) (x1 x2 : Int) (x3 : LL) (x4 x5 : Int) : O := Sm.I 48 [] [1, 0, 1, 0] ⟨slots 35 [(0, .c (.rd 3 x0)), (1, .c (.i x1)), (2, .c (.i x2)), (9, .c (.rd 3 x3)), (10, .c (.i x4)), (11, .c (.i x5))], [], 0⟩
noncomputable def spec_HasKind.c (a0 a1 : Int) : O := Sm.D 49 [.c (.i a0), .c (.i a1)] []
noncomputable def slices_IndexFunc__impl_isEmergency_1.c (a0 a1 a2 : LL) (a3 : Int) : O := Sm.D 50 [.c (.rd 3 a0), .fn 46 [.pr 31 [.lst a1, .lst a2, .int a3] 0]] []
noncomputable def slices_IndexFunc__impl_isEmergency_1.l0 (x0 x1 x2 : LL) (x3 x4 x5 : Int) : O := Sm.I 50 [] [1, 0, 1, 0] ⟨slots 19 [(0, .c (.rd 3 x0)), (1, .fn 46 [.pr 31 [.lst x1, .lst x2, .int x3] 0]), (7, .c (.i x4)), (8, .c (.i x5))], [], 0⟩
noncomputable def spec_IsName.c (a0 : Int) : O := Sm.D 51 [.c (.i a0)] []
noncomputable def impl_isEmergency_1.c (a0 : Int) (a1 a2 : LL) (a3 : Int) : O := Sm.D 46 [.c (.i a0), .pr 31 [.lst a1, .lst a2, .int a3] 0] []
end Go.Proofs.Yteahcmobjegpnaa.Eng
