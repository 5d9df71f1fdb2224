/- FaultOf: the reference and the program give the same. -/
import Derived.Test.YtbanfmadialnkaaGreatH
import Derived.Test.YtbanfmadialnkaaGreatPX4
namespace Go.Proofs.YtbanfmadialnkaaGreat.Eng
open Go.RowKit
set_option linter.unusedVariables false
set_option linter.unusedSimpArgs false
set_option linter.unusedSectionVars false
set_option maxRecDepth 100000
variable [Sm]
theorem M0 (oh : Int) (jR : List (List U)) (jS : List (List U)) (jT : List (List U)) (jU : List (List U)) (oi : Int) (jV : List (List U)) (jW : List (List U)) (jX : List (List U)) (jY : List (List U)) (om : Int) (jZ : List (List U)) (ka : List (List U)) (kb : List (List U)) (kc : List (List U)) (kd : List (List U)) (ke : List (List U)) (oo : Int) (kf : List (List U)) (kg : List (List U)) (vO : WR ao.ct 276 jR) (AA : ai jR ≤ 1048576) (vP : WR ao.ct 130 jS) (AB : ai jS ≤ 1048576) (vQ : WR ao.ct 280 jT) (AD : ai jT ≤ 1048576) (vR : WR ao.ct 274 jU) (AE : ai jU ≤ 1048576) (vS : WR ao.ct 137 jV) (AF : ai jV ≤ 1048576) (tp : WR ao.ct 133 jW) (AG : ai jW ≤ 1048576) (vT : WR ao.ct 4 jX) (Dk : ai jX ≤ 1048576) (tq : WR ao.ct 167 jY) (AH : ai jY ≤ 1048576) (vU : WR ao.ct 192 jZ) (AI : ai jZ ≤ 1048576) (vV : WR ao.ct 195 ka) (AJ : ai ka ≤ 1048576) (vW : WR ao.ct 198 kb) (AK : ai kb ≤ 1048576) (vX : WR ao.ct 183 kc) (AL : ai kc ≤ 1048576) (vY : WR ao.ct 3 kd) (AM : ai kd ≤ 1048576) (vZ : WR ao.ct 3 ke) (AN : ai ke ≤ 1048576) (tr : WR ao.ct 180 kf) (AO : ai kf ≤ 1048576) (v7 : WR ao.ct 206 kg) (AP : ai kg ≤ 1048576) : ∃ (r0 : ByteArray), tu.c oh jR jS jT jU oi jV jW jX jY om jZ ka kb kc kd ke oo kf kg = some ⟨[[.str r0]], []⟩ ∧ tv.c oh jR jS jT jU oi jV jW jX jY om jZ ka kb kc kd ke oo kf kg = some ⟨[[.str r0]], []⟩ := by
 exact M3 oh jR jS jT jU oi jV jW jX jY om jZ ka kb kc kd ke oo kf kg tp tr tq AH AA AB AD AE AF AG AI AJ AK AL AM AN AO AP
end Go.Proofs.YtbanfmadialnkaaGreat.Eng
/- half -/
