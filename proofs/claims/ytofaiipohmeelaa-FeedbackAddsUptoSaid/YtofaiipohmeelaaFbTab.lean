/-
  The table of the loaded program's functions: the printed codes are its own. Calls that are evaluated by themselves: law11_awake
-/
import Derived.Test.YtofaiipohmeelaaFbCode
import Derived.Test.YtofaiipohmeelaaAmArgs
import Derived.Test.YtofaiipohmeelaaProg
import Derived.KernelRfl
set_option linter.all false
namespace Go.Proofs.Ytofaiipohmeelaa.Am

def fuelT (f : FuncId) : Option Nat := cond (Nat.beq f f_law11_awake) (some 4000) (none)
noncomputable def tabT : Tab := tabOf Go.Proofs.Try.prog fuelT

theorem tab_sound : ∀ n, SoundE Go.Proofs.Try.prog (tabT.ev n) := tabOf_sound (by kernel_rfl) fuelT

theorem t_gosem_cut_init : (cFun Go.Proofs.Try.prog f_gosem_cut_init).map AFun.left = some c_gosem_cut_init := by kernel_rfl
theorem t_law11_FeedbackLoops : (cFun Go.Proofs.Try.prog f_law11_FeedbackLoops).map AFun.left = some c_law11_FeedbackLoops := by kernel_rfl
theorem t_law11_FeedbackNames : (cFun Go.Proofs.Try.prog f_law11_FeedbackNames).map AFun.left = some c_law11_FeedbackNames := by kernel_rfl
theorem t_law11_FeedbackParts : (cFun Go.Proofs.Try.prog f_law11_FeedbackParts).map AFun.left = some c_law11_FeedbackParts := by kernel_rfl
theorem t_law11_FeedbackRuns : (cFun Go.Proofs.Try.prog f_law11_FeedbackRuns).map AFun.left = some c_law11_FeedbackRuns := by kernel_rfl
theorem t_law11_FeedbackAdds : (cFun Go.Proofs.Try.prog f_law11_FeedbackAdds).map AFun.left = some c_law11_FeedbackAdds := by kernel_rfl
theorem t_law11_FeedbackReach : (cFun Go.Proofs.Try.prog f_law11_FeedbackReach).map AFun.left = some c_law11_FeedbackReach := by kernel_rfl
theorem t_law11_taps : (cFun Go.Proofs.Try.prog f_law11_taps).map AFun.left = some c_law11_taps := by kernel_rfl
theorem t_ref11_New : (cFun Go.Proofs.Try.prog f_ref11_New).map AFun.left = some c_ref11_New := by kernel_rfl
theorem t_feedback_New : (cFun Go.Proofs.Try.prog f_feedback_New).map AFun.left = some c_feedback_New := by kernel_rfl
theorem t_law11_samples : (cFun Go.Proofs.Try.prog f_law11_samples).map AFun.left = some c_law11_samples := by kernel_rfl
theorem t_ref11_Loop_Step : (cFun Go.Proofs.Try.prog f_ref11_Loop_Step).map AFun.left = some c_ref11_Loop_Step := by kernel_rfl
theorem t_feedback_Loop_Step : (cFun Go.Proofs.Try.prog f_feedback_Loop_Step).map AFun.left = some c_feedback_Loop_Step := by kernel_rfl
theorem t_law11_alike : (cFun Go.Proofs.Try.prog f_law11_alike).map AFun.left = some c_law11_alike := by kernel_rfl
theorem t_ref11_Loop_Reset : (cFun Go.Proofs.Try.prog f_ref11_Loop_Reset).map AFun.left = some c_ref11_Loop_Reset := by kernel_rfl
theorem t_feedback_Loop_Reset : (cFun Go.Proofs.Try.prog f_feedback_Loop_Reset).map AFun.left = some c_feedback_Loop_Reset := by kernel_rfl
theorem t_feedback_Loop_Bare : (cFun Go.Proofs.Try.prog f_feedback_Loop_Bare).map AFun.left = some c_feedback_Loop_Bare := by kernel_rfl
theorem t_feedback_Loop_Broken : (cFun Go.Proofs.Try.prog f_feedback_Loop_Broken).map AFun.left = some c_feedback_Loop_Broken := by kernel_rfl
theorem t_feedback_Check : (cFun Go.Proofs.Try.prog f_feedback_Check).map AFun.left = some c_feedback_Check := by kernel_rfl
theorem t_law11_size : (cFun Go.Proofs.Try.prog f_law11_size).map AFun.left = some c_law11_size := by kernel_rfl
theorem t_law11_may : (cFun Go.Proofs.Try.prog f_law11_may).map AFun.left = some c_law11_may := by kernel_rfl
theorem t_law11_near : (cFun Go.Proofs.Try.prog f_law11_near).map AFun.left = some c_law11_near := by kernel_rfl
theorem t_feedback_Run : (cFun Go.Proofs.Try.prog f_feedback_Run).map AFun.left = some c_feedback_Run := by kernel_rfl
theorem t_law11_same : (cFun Go.Proofs.Try.prog f_law11_same).map AFun.left = some c_law11_same := by kernel_rfl
theorem t_ref11_Turn : (cFun Go.Proofs.Try.prog f_ref11_Turn).map AFun.left = some c_ref11_Turn := by kernel_rfl
theorem t_ref11_Run : (cFun Go.Proofs.Try.prog f_ref11_Run).map AFun.left = some c_ref11_Run := by kernel_rfl
theorem t_feedback_Residue : (cFun Go.Proofs.Try.prog f_feedback_Residue).map AFun.left = some c_feedback_Residue := by kernel_rfl
theorem t_law11_rows : (cFun Go.Proofs.Try.prog f_law11_rows).map AFun.left = some c_law11_rows := by kernel_rfl
theorem t_law11_fresh : (cFun Go.Proofs.Try.prog f_law11_fresh).map AFun.left = some c_law11_fresh := by kernel_rfl
theorem t_ref02_Same : (cFun Go.Proofs.Try.prog f_ref02_Same).map AFun.left = some c_ref02_Same := by kernel_rfl
theorem t_feedback_Echo : (cFun Go.Proofs.Try.prog f_feedback_Echo).map AFun.left = some c_feedback_Echo := by kernel_rfl
theorem t_ref04_All : (cFun Go.Proofs.Try.prog f_ref04_All).map AFun.left = some c_ref04_All := by kernel_rfl
theorem t_ref11_First : (cFun Go.Proofs.Try.prog f_ref11_First).map AFun.left = some c_ref11_First := by kernel_rfl
theorem t_law11_answer : (cFun Go.Proofs.Try.prog f_law11_answer).map AFun.left = some c_law11_answer := by kernel_rfl
theorem t_ref11_Same : (cFun Go.Proofs.Try.prog f_ref11_Same).map AFun.left = some c_ref11_Same := by kernel_rfl
theorem t_math_Float64frombits : (cFun Go.Proofs.Try.prog f_math_Float64frombits).map AFun.left = some c_math_Float64frombits := by kernel_rfl
theorem t_ref04_Edge : (cFun Go.Proofs.Try.prog f_ref04_Edge).map AFun.left = some c_ref04_Edge := by kernel_rfl
theorem t_ref11_Check : (cFun Go.Proofs.Try.prog f_ref11_Check).map AFun.left = some c_ref11_Check := by kernel_rfl
theorem t_points_Edge : (cFun Go.Proofs.Try.prog f_points_Edge).map AFun.left = some c_points_Edge := by kernel_rfl
theorem t_feedback_first : (cFun Go.Proofs.Try.prog f_feedback_first).map AFun.left = some c_feedback_first := by kernel_rfl
theorem t_ref02_May : (cFun Go.Proofs.Try.prog f_ref02_May).map AFun.left = some c_ref02_May := by kernel_rfl
theorem t_ref11_mul : (cFun Go.Proofs.Try.prog f_ref11_mul).map AFun.left = some c_ref11_mul := by kernel_rfl
theorem t_ref05_Decide : (cFun Go.Proofs.Try.prog f_ref05_Decide).map AFun.left = some c_ref05_Decide := by kernel_rfl
theorem t_grid_Check : (cFun Go.Proofs.Try.prog f_grid_Check).map AFun.left = some c_grid_Check := by kernel_rfl
theorem t_feedback_times : (cFun Go.Proofs.Try.prog f_feedback_times).map AFun.left = some c_feedback_times := by kernel_rfl
theorem t_feedback_turned : (cFun Go.Proofs.Try.prog f_feedback_turned).map AFun.left = some c_feedback_turned := by kernel_rfl
theorem t_slice_Decide : (cFun Go.Proofs.Try.prog f_slice_Decide).map AFun.left = some c_slice_Decide := by kernel_rfl
theorem t_feedback_taps : (cFun Go.Proofs.Try.prog f_feedback_taps).map AFun.left = some c_feedback_taps := by kernel_rfl
theorem t_feedback_run : (cFun Go.Proofs.Try.prog f_feedback_run).map AFun.left = some c_feedback_run := by kernel_rfl
theorem t_ref02_Check : (cFun Go.Proofs.Try.prog f_ref02_Check).map AFun.left = some c_ref02_Check := by kernel_rfl
theorem t_grid_On : (cFun Go.Proofs.Try.prog f_grid_On).map AFun.left = some c_grid_On := by kernel_rfl
theorem t_ref04_Points : (cFun Go.Proofs.Try.prog f_ref04_Points).map AFun.left = some c_ref04_Points := by kernel_rfl
theorem t_ref04_Number : (cFun Go.Proofs.Try.prog f_ref04_Number).map AFun.left = some c_ref04_Number := by kernel_rfl
theorem t_ref11_Taps : (cFun Go.Proofs.Try.prog f_ref11_Taps).map AFun.left = some c_ref11_Taps := by kernel_rfl
theorem t_points_of : (cFun Go.Proofs.Try.prog f_points_of).map AFun.left = some c_points_of := by kernel_rfl
theorem t_ref02_On : (cFun Go.Proofs.Try.prog f_ref02_On).map AFun.left = some c_ref02_On := by kernel_rfl
theorem t_ref02_Finite : (cFun Go.Proofs.Try.prog f_ref02_Finite).map AFun.left = some c_ref02_Finite := by kernel_rfl
theorem t_ref05_Axis : (cFun Go.Proofs.Try.prog f_ref05_Axis).map AFun.left = some c_ref05_Axis := by kernel_rfl
theorem t_ref04_Label : (cFun Go.Proofs.Try.prog f_ref04_Label).map AFun.left = some c_ref04_Label := by kernel_rfl
theorem t_ref05_Cut : (cFun Go.Proofs.Try.prog f_ref05_Cut).map AFun.left = some c_ref05_Cut := by kernel_rfl
theorem t_ref05_gap : (cFun Go.Proofs.Try.prog f_ref05_gap).map AFun.left = some c_ref05_gap := by kernel_rfl
theorem t_grid_may : (cFun Go.Proofs.Try.prog f_grid_may).map AFun.left = some c_grid_may := by kernel_rfl
theorem t_slice_decide : (cFun Go.Proofs.Try.prog f_slice_decide).map AFun.left = some c_slice_decide := by kernel_rfl
theorem t_feedback_step : (cFun Go.Proofs.Try.prog f_feedback_step).map AFun.left = some c_feedback_step := by kernel_rfl
theorem t_math_Abs : (cFun Go.Proofs.Try.prog f_math_Abs).map AFun.left = some c_math_Abs := by kernel_rfl
theorem t_grid_within : (cFun Go.Proofs.Try.prog f_grid_within).map AFun.left = some c_grid_within := by kernel_rfl
theorem t_math_Floor : (cFun Go.Proofs.Try.prog f_math_Floor).map AFun.left = some c_math_Floor := by kernel_rfl
theorem t_ref04_in : (cFun Go.Proofs.Try.prog f_ref04_in).map AFun.left = some c_ref04_in := by kernel_rfl
theorem t_ref04_label : (cFun Go.Proofs.Try.prog f_ref04_label).map AFun.left = some c_ref04_label := by kernel_rfl
theorem t_ref11_step : (cFun Go.Proofs.Try.prog f_ref11_step).map AFun.left = some c_ref11_step := by kernel_rfl
theorem t_ref11_size : (cFun Go.Proofs.Try.prog f_ref11_size).map AFun.left = some c_ref11_size := by kernel_rfl
theorem t_points_square : (cFun Go.Proofs.Try.prog f_points_square).map AFun.left = some c_points_square := by kernel_rfl
theorem t_points_cross : (cFun Go.Proofs.Try.prog f_points_cross).map AFun.left = some c_points_cross := by kernel_rfl
theorem t_ref05_cut : (cFun Go.Proofs.Try.prog f_ref05_cut).map AFun.left = some c_ref05_cut := by kernel_rfl
theorem t_slice_nan : (cFun Go.Proofs.Try.prog f_slice_nan).map AFun.left = some c_slice_nan := by kernel_rfl
theorem t_math_IsInf : (cFun Go.Proofs.Try.prog f_math_IsInf).map AFun.left = some c_math_IsInf := by kernel_rfl
theorem t_slice_ways : (cFun Go.Proofs.Try.prog f_slice_ways).map AFun.left = some c_slice_ways := by kernel_rfl
theorem t_math_Float64bits : (cFun Go.Proofs.Try.prog f_math_Float64bits).map AFun.left = some c_math_Float64bits := by kernel_rfl
theorem t_math_archFloor : (cFun Go.Proofs.Try.prog f_math_archFloor).map AFun.left = some c_math_archFloor := by kernel_rfl
theorem t_math_floor : (cFun Go.Proofs.Try.prog f_math_floor).map AFun.left = some c_math_floor := by kernel_rfl
theorem t_ref04_size : (cFun Go.Proofs.Try.prog f_ref04_size).map AFun.left = some c_ref04_size := by kernel_rfl
theorem t_ref04_Bits : (cFun Go.Proofs.Try.prog f_ref04_Bits).map AFun.left = some c_ref04_Bits := by kernel_rfl
theorem t_ref01_Gray : (cFun Go.Proofs.Try.prog f_ref01_Gray).map AFun.left = some c_ref01_Gray := by kernel_rfl
theorem t_points_square_c1 : (cFun Go.Proofs.Try.prog f_points_square_c1).map AFun.left = some c_points_square_c1 := by kernel_rfl
theorem t_bits_Ungray : (cFun Go.Proofs.Try.prog f_bits_Ungray).map AFun.left = some c_bits_Ungray := by kernel_rfl
theorem t_points_square_c2 : (cFun Go.Proofs.Try.prog f_points_square_c2).map AFun.left = some c_points_square_c2 := by kernel_rfl
theorem t_points_cross_c1 : (cFun Go.Proofs.Try.prog f_points_cross_c1).map AFun.left = some c_points_cross_c1 := by kernel_rfl
theorem t_math_IsNaN : (cFun Go.Proofs.Try.prog f_math_IsNaN).map AFun.left = some c_math_IsNaN := by kernel_rfl
theorem t_slice_axes : (cFun Go.Proofs.Try.prog f_slice_axes).map AFun.left = some c_slice_axes := by kernel_rfl
theorem t_slice_nearest : (cFun Go.Proofs.Try.prog f_slice_nearest).map AFun.left = some c_slice_nearest := by kernel_rfl
theorem t_math_Modf : (cFun Go.Proofs.Try.prog f_math_Modf).map AFun.left = some c_math_Modf := by kernel_rfl
theorem t_ref01_gray : (cFun Go.Proofs.Try.prog f_ref01_gray).map AFun.left = some c_ref01_gray := by kernel_rfl
theorem t_slice_Axis : (cFun Go.Proofs.Try.prog f_slice_Axis).map AFun.left = some c_slice_Axis := by kernel_rfl
theorem t_points_Label : (cFun Go.Proofs.Try.prog f_points_Label).map AFun.left = some c_points_Label := by kernel_rfl
theorem t_points_All : (cFun Go.Proofs.Try.prog f_points_All).map AFun.left = some c_points_All := by kernel_rfl
theorem t_slice_cut : (cFun Go.Proofs.Try.prog f_slice_cut).map AFun.left = some c_slice_cut := by kernel_rfl
theorem t_math_Inf : (cFun Go.Proofs.Try.prog f_math_Inf).map AFun.left = some c_math_Inf := by kernel_rfl
theorem t_slice_gap : (cFun Go.Proofs.Try.prog f_slice_gap).map AFun.left = some c_slice_gap := by kernel_rfl
theorem t_math_Trunc : (cFun Go.Proofs.Try.prog f_math_Trunc).map AFun.left = some c_math_Trunc := by kernel_rfl
theorem t_math_Copysign : (cFun Go.Proofs.Try.prog f_math_Copysign).map AFun.left = some c_math_Copysign := by kernel_rfl
theorem t_ref01_power : (cFun Go.Proofs.Try.prog f_ref01_power).map AFun.left = some c_ref01_power := by kernel_rfl
theorem t_math_Max : (cFun Go.Proofs.Try.prog f_math_Max).map AFun.left = some c_math_Max := by kernel_rfl
theorem t_math_Min : (cFun Go.Proofs.Try.prog f_math_Min).map AFun.left = some c_math_Min := by kernel_rfl
theorem t_math_Ceil : (cFun Go.Proofs.Try.prog f_math_Ceil).map AFun.left = some c_math_Ceil := by kernel_rfl
theorem t_math_archTrunc : (cFun Go.Proofs.Try.prog f_math_archTrunc).map AFun.left = some c_math_archTrunc := by kernel_rfl
theorem t_math_trunc : (cFun Go.Proofs.Try.prog f_math_trunc).map AFun.left = some c_math_trunc := by kernel_rfl
theorem t_math_archMax : (cFun Go.Proofs.Try.prog f_math_archMax).map AFun.left = some c_math_archMax := by kernel_rfl
theorem t_math_max : (cFun Go.Proofs.Try.prog f_math_max).map AFun.left = some c_math_max := by kernel_rfl
theorem t_math_archMin : (cFun Go.Proofs.Try.prog f_math_archMin).map AFun.left = some c_math_archMin := by kernel_rfl
theorem t_math_min : (cFun Go.Proofs.Try.prog f_math_min).map AFun.left = some c_math_min := by kernel_rfl
theorem t_math_archCeil : (cFun Go.Proofs.Try.prog f_math_archCeil).map AFun.left = some c_math_archCeil := by kernel_rfl
theorem t_math_ceil : (cFun Go.Proofs.Try.prog f_math_ceil).map AFun.left = some c_math_ceil := by kernel_rfl
theorem t_math_NaN : (cFun Go.Proofs.Try.prog f_math_NaN).map AFun.left = some c_math_NaN := by kernel_rfl
theorem t_math_Signbit : (cFun Go.Proofs.Try.prog f_math_Signbit).map AFun.left = some c_math_Signbit := by kernel_rfl
theorem codes : Cs tabT where
  gosem_cut_init := has_of t_gosem_cut_init rfl
  law11_FeedbackLoops := has_of t_law11_FeedbackLoops rfl
  law11_FeedbackNames := has_of t_law11_FeedbackNames rfl
  law11_FeedbackParts := has_of t_law11_FeedbackParts rfl
  law11_FeedbackRuns := has_of t_law11_FeedbackRuns rfl
  law11_FeedbackAdds := has_of t_law11_FeedbackAdds rfl
  law11_FeedbackReach := has_of t_law11_FeedbackReach rfl
  law11_taps := has_of t_law11_taps rfl
  ref11_New := has_of t_ref11_New rfl
  feedback_New := has_of t_feedback_New rfl
  law11_samples := has_of t_law11_samples rfl
  ref11_Loop_Step := has_of t_ref11_Loop_Step rfl
  feedback_Loop_Step := has_of t_feedback_Loop_Step rfl
  law11_alike := has_of t_law11_alike rfl
  ref11_Loop_Reset := has_of t_ref11_Loop_Reset rfl
  feedback_Loop_Reset := has_of t_feedback_Loop_Reset rfl
  feedback_Loop_Bare := has_of t_feedback_Loop_Bare rfl
  feedback_Loop_Broken := has_of t_feedback_Loop_Broken rfl
  feedback_Check := has_of t_feedback_Check rfl
  law11_size := has_of t_law11_size rfl
  law11_may := has_of t_law11_may rfl
  law11_near := has_of t_law11_near rfl
  feedback_Run := has_of t_feedback_Run rfl
  law11_same := has_of t_law11_same rfl
  ref11_Turn := has_of t_ref11_Turn rfl
  ref11_Run := has_of t_ref11_Run rfl
  feedback_Residue := has_of t_feedback_Residue rfl
  law11_rows := has_of t_law11_rows rfl
  law11_fresh := has_of t_law11_fresh rfl
  ref02_Same := has_of t_ref02_Same rfl
  feedback_Echo := has_of t_feedback_Echo rfl
  ref04_All := has_of t_ref04_All rfl
  ref11_First := has_of t_ref11_First rfl
  law11_answer := has_of t_law11_answer rfl
  ref11_Same := has_of t_ref11_Same rfl
  math_Float64frombits := has_of t_math_Float64frombits rfl
  ref04_Edge := has_of t_ref04_Edge rfl
  ref11_Check := has_of t_ref11_Check rfl
  points_Edge := has_of t_points_Edge rfl
  feedback_first := has_of t_feedback_first rfl
  ref02_May := has_of t_ref02_May rfl
  ref11_mul := has_of t_ref11_mul rfl
  ref05_Decide := has_of t_ref05_Decide rfl
  grid_Check := has_of t_grid_Check rfl
  feedback_times := has_of t_feedback_times rfl
  feedback_turned := has_of t_feedback_turned rfl
  slice_Decide := has_of t_slice_Decide rfl
  feedback_taps := has_of t_feedback_taps rfl
  feedback_run := has_of t_feedback_run rfl
  ref02_Check := has_of t_ref02_Check rfl
  grid_On := has_of t_grid_On rfl
  ref04_Points := has_of t_ref04_Points rfl
  ref04_Number := has_of t_ref04_Number rfl
  ref11_Taps := has_of t_ref11_Taps rfl
  points_of := has_of t_points_of rfl
  ref02_On := has_of t_ref02_On rfl
  ref02_Finite := has_of t_ref02_Finite rfl
  ref05_Axis := has_of t_ref05_Axis rfl
  ref04_Label := has_of t_ref04_Label rfl
  ref05_Cut := has_of t_ref05_Cut rfl
  ref05_gap := has_of t_ref05_gap rfl
  grid_may := has_of t_grid_may rfl
  slice_decide := has_of t_slice_decide rfl
  feedback_step := has_of t_feedback_step rfl
  math_Abs := has_of t_math_Abs rfl
  grid_within := has_of t_grid_within rfl
  math_Floor := has_of t_math_Floor rfl
  ref04_in := has_of t_ref04_in rfl
  ref04_label := has_of t_ref04_label rfl
  ref11_step := has_of t_ref11_step rfl
  ref11_size := has_of t_ref11_size rfl
  points_square := has_of t_points_square rfl
  points_cross := has_of t_points_cross rfl
  ref05_cut := has_of t_ref05_cut rfl
  slice_nan := has_of t_slice_nan rfl
  math_IsInf := has_of t_math_IsInf rfl
  slice_ways := has_of t_slice_ways rfl
  math_Float64bits := has_of t_math_Float64bits rfl
  math_archFloor := has_of t_math_archFloor rfl
  math_floor := has_of t_math_floor rfl
  ref04_size := has_of t_ref04_size rfl
  ref04_Bits := has_of t_ref04_Bits rfl
  ref01_Gray := has_of t_ref01_Gray rfl
  points_square_c1 := has_of t_points_square_c1 rfl
  bits_Ungray := has_of t_bits_Ungray rfl
  points_square_c2 := has_of t_points_square_c2 rfl
  points_cross_c1 := has_of t_points_cross_c1 rfl
  math_IsNaN := has_of t_math_IsNaN rfl
  slice_axes := has_of t_slice_axes rfl
  slice_nearest := has_of t_slice_nearest rfl
  math_Modf := has_of t_math_Modf rfl
  ref01_gray := has_of t_ref01_gray rfl
  slice_Axis := has_of t_slice_Axis rfl
  points_Label := has_of t_points_Label rfl
  points_All := has_of t_points_All rfl
  slice_cut := has_of t_slice_cut rfl
  math_Inf := has_of t_math_Inf rfl
  slice_gap := has_of t_slice_gap rfl
  math_Trunc := has_of t_math_Trunc rfl
  math_Copysign := has_of t_math_Copysign rfl
  ref01_power := has_of t_ref01_power rfl
  math_Max := has_of t_math_Max rfl
  math_Min := has_of t_math_Min rfl
  math_Ceil := has_of t_math_Ceil rfl
  math_archTrunc := has_of t_math_archTrunc rfl
  math_trunc := has_of t_math_trunc rfl
  math_archMax := has_of t_math_archMax rfl
  math_max := has_of t_math_max rfl
  math_archMin := has_of t_math_archMin rfl
  math_min := has_of t_math_min rfl
  math_archCeil := has_of t_math_archCeil rfl
  math_ceil := has_of t_math_ceil rfl
  math_NaN := has_of t_math_NaN rfl
  math_Signbit := has_of t_math_Signbit rfl


theorem awake_shut (h : Heap) : shutOv (cFun Go.Proofs.Try.prog) fuelT f_law11_awake [] h = some (.bool true, h) := by kernel_rfl
theorem awake_ok (h : Heap) (K : AV → Heap → Prop) : CQ tabT f_law11_awake [] h K ↔ K (.bool true) h := shut_tells awake_shut h K

end Go.Proofs.Ytofaiipohmeelaa.Am
