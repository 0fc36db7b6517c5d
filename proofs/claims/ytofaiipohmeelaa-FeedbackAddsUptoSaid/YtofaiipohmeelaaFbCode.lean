/-
  The codes of the functions, printed by program out of the loaded program.
-/
import Derived.Test.YtofaiipohmeelaaAmWalk
set_option linter.all false
namespace Go.Proofs.Ytofaiipohmeelaa.Am
def f_gosem_cut_init : FuncId := 2
def f_law11_FeedbackLoops : FuncId := 3
def f_law11_FeedbackNames : FuncId := 4
def f_law11_FeedbackParts : FuncId := 5
def f_law11_FeedbackRuns : FuncId := 6
def f_law11_FeedbackAdds : FuncId := 7
def f_law11_FeedbackReach : FuncId := 8
def f_law11_taps : FuncId := 9
def f_ref11_New : FuncId := 10
def f_feedback_New : FuncId := 11
def f_law11_samples : FuncId := 12
def f_ref11_Loop_Step : FuncId := 13
def f_feedback_Loop_Step : FuncId := 14
def f_law11_alike : FuncId := 15
def f_ref11_Loop_Reset : FuncId := 16
def f_feedback_Loop_Reset : FuncId := 17
def f_feedback_Loop_Bare : FuncId := 18
def f_feedback_Loop_Broken : FuncId := 19
def f_feedback_Check : FuncId := 20
def f_law11_awake : FuncId := 21
def f_law11_size : FuncId := 22
def f_law11_may : FuncId := 23
def f_law11_near : FuncId := 24
def f_feedback_Run : FuncId := 25
def f_law11_same : FuncId := 26
def f_ref11_Turn : FuncId := 27
def f_ref11_Run : FuncId := 28
def f_feedback_Residue : FuncId := 29
def f_law11_rows : FuncId := 30
def f_law11_fresh : FuncId := 31
def f_ref02_Same : FuncId := 32
def f_feedback_Echo : FuncId := 33
def f_ref04_All : FuncId := 34
def f_ref11_First : FuncId := 35
def f_law11_answer : FuncId := 36
def f_ref11_Same : FuncId := 37
def f_math_Float64frombits : FuncId := 38
def f_ref04_Edge : FuncId := 39
def f_ref11_Check : FuncId := 40
def f_points_Edge : FuncId := 41
def f_feedback_first : FuncId := 42
def f_ref02_May : FuncId := 43
def f_ref11_mul : FuncId := 44
def f_ref05_Decide : FuncId := 45
def f_grid_Check : FuncId := 46
def f_feedback_times : FuncId := 47
def f_feedback_turned : FuncId := 48
def f_slice_Decide : FuncId := 49
def f_feedback_taps : FuncId := 50
def f_feedback_run : FuncId := 51
def f_ref02_Check : FuncId := 52
def f_grid_On : FuncId := 53
def f_ref04_Points : FuncId := 54
def f_ref04_Number : FuncId := 55
def f_ref11_Taps : FuncId := 56
def f_points_of : FuncId := 57
def f_ref02_On : FuncId := 58
def f_ref02_Finite : FuncId := 59
def f_ref05_Axis : FuncId := 60
def f_ref04_Label : FuncId := 61
def f_ref05_Cut : FuncId := 62
def f_ref05_gap : FuncId := 63
def f_grid_may : FuncId := 64
def f_slice_decide : FuncId := 65
def f_feedback_step : FuncId := 66
def f_math_Abs : FuncId := 67
def f_grid_within : FuncId := 68
def f_math_Floor : FuncId := 69
def f_ref04_in : FuncId := 70
def f_ref04_label : FuncId := 71
def f_ref11_step : FuncId := 72
def f_ref11_size : FuncId := 73
def f_points_square : FuncId := 74
def f_points_cross : FuncId := 75
def f_ref05_cut : FuncId := 76
def f_slice_nan : FuncId := 77
def f_math_IsInf : FuncId := 78
def f_slice_ways : FuncId := 79
def f_math_Float64bits : FuncId := 80
def f_math_archFloor : FuncId := 81
def f_math_floor : FuncId := 82
def f_ref04_size : FuncId := 83
def f_ref04_Bits : FuncId := 84
def f_ref01_Gray : FuncId := 85
def f_points_square_c1 : FuncId := 86
def f_bits_Ungray : FuncId := 87
def f_points_square_c2 : FuncId := 88
def f_points_cross_c1 : FuncId := 89
def f_math_IsNaN : FuncId := 90
def f_slice_axes : FuncId := 91
def f_slice_nearest : FuncId := 92
def f_math_Modf : FuncId := 93
def f_ref01_gray : FuncId := 94
def f_slice_Axis : FuncId := 95
def f_points_Label : FuncId := 96
def f_points_All : FuncId := 97
def f_slice_cut : FuncId := 98
def f_math_Inf : FuncId := 99
def f_slice_gap : FuncId := 100
def f_math_Trunc : FuncId := 101
def f_math_Copysign : FuncId := 102
def f_ref01_power : FuncId := 103
def f_math_Max : FuncId := 104
def f_math_Min : FuncId := 105
def f_math_Ceil : FuncId := 106
def f_math_archTrunc : FuncId := 107
def f_math_trunc : FuncId := 108
def f_math_archMax : FuncId := 109
def f_math_max : FuncId := 110
def f_math_archMin : FuncId := 111
def f_math_min : FuncId := 112
def f_math_archCeil : FuncId := 113
def f_math_ceil : FuncId := 114
def f_math_NaN : FuncId := 115
def f_math_Signbit : FuncId := 116
def b_gosem_cut_init : AC := (.reg [⟨(some 0), .call 1 [], none⟩])
def c_gosem_cut_init : AFun := .code 1 [] b_gosem_cut_init
def c_law11_FeedbackLoops_L0 : AC := (.seq (.seq (.reg [⟨(some 82), .mv (.t 21), none⟩, ⟨(some 83), .mv (.t 11), none⟩, ⟨(some 84), .lenSl (.t 83), none⟩, ⟨(some 85), .bin .lss (.t 82) (.t 84), none⟩])
 (.cond (.t 85) .skip
 (.exit 0)))
 (.seq (.block 1 (.reg [⟨(some 88), .mv (.t 11), none⟩, ⟨(some 89), .mv (.t 21), none⟩, ⟨(some 90), .indexSl (.t 88) (.t 89) 1, none⟩, ⟨none, .store (.t 90) (.c (.cpx 0 0)) 1, none⟩]))
 (.reg [⟨(some 86), .mv (.t 21), none⟩, ⟨(some 87), .bin .add (.t 86) (.c (.int .i64 (1))), none⟩, ⟨(some 21), .mv (.t 87), none⟩])))
def c_law11_FeedbackLoops_L2 : AC := (.seq (.seq (.reg [⟨(some 91), .mv (.t 22), none⟩, ⟨(some 92), .mv (.t 4), none⟩, ⟨(some 93), .lenSl (.t 92), none⟩, ⟨(some 94), .bin .lss (.t 91) (.t 93), none⟩, ⟨(some 95), .mv (.t 94), none⟩, ⟨(some 96), .mv (.t 22), (some (95, true))⟩, ⟨(some 97), .bin .lss (.t 96) (.c (.int .i64 (200))), (some (95, true))⟩, ⟨(some 98), .pick (.t 95) (.t 97) (.c (.bool false)), none⟩])
 (.cond (.t 98) .skip
 (.exit 2)))
 (.seq (.block 3 (.seq (.reg [⟨(some 101), .mv (.t 17), none⟩, ⟨(some 23), .mv (.t 101), none⟩])
 (.seq (.reg [⟨(some 102), .mv (.t 13), none⟩, ⟨(some 24), .mv (.t 102), none⟩])
 (.seq (.seq (.reg [⟨(some 103), .mv (.t 4), none⟩, ⟨(some 104), .mv (.t 22), none⟩, ⟨(some 105), .indexSl (.t 103) (.t 104) 5, none⟩, ⟨(some 106), .fieldAddr (.t 105) 1, none⟩, ⟨(some 107), .load (.t 106) 1 false, none⟩, ⟨(some 108), .bin .neq (.t 107) (.c (.int .i64 (0))), none⟩])
 (.cond (.t 108) (.seq (.reg [⟨(some 109), .mv (.t 19), none⟩, ⟨(some 23), .mv (.t 109), none⟩])
 (.reg [⟨(some 110), .mv (.t 15), none⟩, ⟨(some 24), .mv (.t 110), none⟩]))
 .skip))
 (.seq (.seq (.reg [⟨(some 111), .mv (.t 24), none⟩, ⟨(some 112), .eq false (.prim .ptr) (.t 111) (.c .nilPtr), none⟩])
 (.cond (.t 112) (.exit 3)
 .skip))
 (.seq (.seq (.reg [⟨(some 113), .mv (.t 4), none⟩, ⟨(some 114), .mv (.t 22), none⟩, ⟨(some 115), .indexSl (.t 113) (.t 114) 5, none⟩, ⟨(some 116), .fieldAddr (.t 115) 0, none⟩, ⟨(some 117), .load (.t 116) 1 false, none⟩])
 (.block 4 (.seq (.reg [⟨(some 119), .bin .eql (.t 117) (.c (.int .i64 (0))), none⟩, ⟨(some 118), .mv (.t 119), none⟩])
 (.cond (.t 118) (.seq (.reg [⟨(some 120), .mv (.t 4), none⟩, ⟨(some 121), .mv (.t 22), none⟩, ⟨(some 122), .indexSl (.t 120) (.t 121) 5, none⟩, ⟨(some 123), .fieldAddr (.t 122) 2, none⟩, ⟨(some 124), .load (.t 123) 3 true, none⟩, ⟨(some 125), .buildSl [(.int .i32 (0)), (.int .i32 (0)), (.bool false)] 3 1 [(0, 3, (.t 124))] 35, none⟩, ⟨(some 126), .call f_law11_samples [(.t 125)], none⟩, ⟨(some 127), .indexSl (.t 126) (.c (.int .i64 (0))) 2, none⟩, ⟨(some 128), .load (.t 127) 2 true, none⟩, ⟨(some 25), .alloc [(.cpx 0 0), (.bool false)] 39, none⟩, ⟨none, .store (.t 25) (.t 128) 2, none⟩])
 (.seq (.reg [⟨(some 130), .mv (.t 24), none⟩, ⟨(some 131), .load (.t 25) 2 true, none⟩, ⟨(some 132), .call f_ref11_Loop_Step [(.t 130), (.t 131)], none⟩, ⟨(some 129), .mv (.t 132), none⟩, ⟨(some 133), .extract (.t 129) 0, none⟩, ⟨(some 134), .extract (.t 129) 1, none⟩, ⟨(some 26), .alloc [(.int .i64 (0)), (.cpx 0 0), (.bool false)] 44, none⟩, ⟨none, .store (.t 26) (.t 133) 3, none⟩, ⟨(some 27), .mv (.t 134), none⟩])
 (.seq (.reg [⟨(some 136), .mv (.t 23), none⟩, ⟨(some 137), .load (.t 25) 2 true, none⟩, ⟨(some 138), .call f_feedback_Loop_Step [(.t 136), (.t 137)], none⟩, ⟨(some 135), .mv (.t 138), none⟩, ⟨(some 139), .extract (.t 135) 0, none⟩, ⟨(some 140), .extract (.t 135) 1, none⟩, ⟨(some 28), .alloc [(.int .i64 (0)), (.cpx 0 0), (.bool false)] 47, none⟩, ⟨none, .store (.t 28) (.t 139) 3, none⟩, ⟨(some 29), .mv (.t 140), none⟩])
 (.seq (.reg [⟨(some 141), .mv (.t 29), none⟩, ⟨(some 142), .mv (.t 27), none⟩, ⟨(some 143), .bin .neq (.t 141) (.t 142), none⟩, ⟨(some 144), .mv (.t 143), none⟩, ⟨(some 145), .load (.t 28) 3 true, (some (144, false))⟩, ⟨(some 146), .load (.t 26) 3 true, (some (144, false))⟩, ⟨(some 147), .call f_law11_alike [(.t 145), (.t 146)], (some (144, false))⟩, ⟨(some 148), .un .not (.t 147), (some (144, false))⟩, ⟨(some 149), .pick (.t 144) (.c (.bool true)) (.t 148), none⟩])
 (.cond (.t 149) (.seq (.reg [⟨(some 10), .mv (.c (.bool false)), none⟩])
 .ret)
 .skip)))))
 (.seq (.reg [⟨(some 151), .bin .eql (.t 117) (.c (.int .i64 (1))), none⟩, ⟨(some 150), .mv (.t 151), none⟩])
 (.cond (.t 150) (.seq (.reg [⟨(some 152), .mv (.t 24), none⟩, ⟨(some 153), .call f_ref11_Loop_Reset [(.t 152)], none⟩])
 (.seq (.reg [⟨(some 154), .mv (.t 23), none⟩, ⟨(some 155), .call f_feedback_Loop_Reset [(.t 154)], none⟩, ⟨(some 156), .bin .neq (.t 155) (.c (.int .i64 (0))), none⟩])
 (.cond (.t 156) (.seq (.reg [⟨(some 10), .mv (.c (.bool false)), none⟩])
 .ret)
 .skip)))
 .skip))))))
 (.seq (.reg [⟨(some 158), .mv (.t 23), none⟩, ⟨(some 159), .call f_feedback_Loop_Bare [(.t 158)], none⟩, ⟨(some 157), .mv (.t 159), none⟩, ⟨(some 160), .extract (.t 157) 0, none⟩, ⟨(some 161), .extract (.t 157) 1, none⟩, ⟨(some 30), .mv (.t 160), none⟩, ⟨(some 31), .mv (.t 161), none⟩])
 (.seq (.seq (dr [(⟨(some 162), .mv (.t 23), none⟩, .plain), (⟨(some 163), .call f_feedback_Loop_Broken [(.t 162)], none⟩, .mark), (⟨(some 164), .mv (.t 24), none⟩, .plain), (⟨(some 165), .nilck (.t 164), none⟩, .plain), (⟨(some 166), .fieldAddr (.t 165) 3, none⟩, .plain), (⟨(some 167), .load (.t 166) 1 false, none⟩, .quiet), (⟨(some 168), .eq true (.prim .bool) (.t 163) (.t 167), none⟩, .plain)])
 (.cond (.t 168) (.seq (.reg [⟨(some 10), .mv (.c (.bool false)), none⟩])
 .ret)
 .skip))
 (.seq (.reg [⟨(some 169), .mv (.t 24), none⟩, ⟨(some 170), .nilck (.t 169), none⟩, ⟨(some 171), .fieldAddr (.t 170) 4, none⟩, ⟨(some 172), .load (.t 171) 1 false, none⟩, ⟨(some 173), .mv (.t 172), none⟩, ⟨(some 174), .mv (.t 24), (some (173, true))⟩, ⟨(some 175), .nilck (.t 174), (some (173, true))⟩, ⟨(some 176), .fieldAddr (.t 175) 3, (some (173, true))⟩, ⟨(some 177), .load (.t 176) 1 false, (some (173, true))⟩, ⟨(some 178), .un .not (.t 177), (some (173, true))⟩, ⟨(some 179), .pick (.t 173) (.t 178) (.c (.bool false)), none⟩])
 (.cond (.t 179) (.seq (.reg [⟨(some 180), .mv (.t 31), none⟩, ⟨(some 181), .bin .neq (.t 180) (.c (.int .i64 (0))), none⟩, ⟨(some 182), .mv (.t 181), none⟩, ⟨(some 183), .mv (.t 30), (some (182, false))⟩, ⟨(some 184), .mv (.t 24), (some (182, false))⟩, ⟨(some 185), .nilck (.t 184), (some (182, false))⟩, ⟨(some 186), .fieldAddr (.t 185) 5, (some (182, false))⟩, ⟨(some 187), .load (.t 186) 1 false, (some (182, false))⟩, ⟨(some 188), .bin .neq (.t 183) (.t 187), (some (182, false))⟩, ⟨(some 189), .pick (.t 182) (.c (.bool true)) (.t 188), none⟩])
 (.cond (.t 189) (.seq (.reg [⟨(some 10), .mv (.c (.bool false)), none⟩])
 .ret)
 .skip))
 (.seq (.reg [⟨(some 190), .mv (.t 31), none⟩, ⟨(some 191), .bin .neq (.t 190) (.c (.int .i64 (6))), none⟩, ⟨(some 192), .mv (.t 191), none⟩, ⟨(some 193), .mv (.t 30), (some (192, false))⟩, ⟨(some 194), .bin .neq (.t 193) (.c (.cpx 0 0)), (some (192, false))⟩, ⟨(some 195), .pick (.t 192) (.c (.bool true)) (.t 194), none⟩])
 (.cond (.t 195) (.seq (.reg [⟨(some 10), .mv (.c (.bool false)), none⟩])
 .ret)
 .skip))))))))))))
 (.reg [⟨(some 99), .mv (.t 22), none⟩, ⟨(some 100), .bin .add (.t 99) (.c (.int .i64 (1))), none⟩, ⟨(some 22), .mv (.t 100), none⟩])))
def c_law11_FeedbackLoops_R3 : AC := (.seq (.reg [⟨(some 10), .mv (.c (.bool true)), none⟩])
 .ret)
def c_law11_FeedbackLoops_R1 : AC := (.seq (.seq (.reg [⟨(some 22), .mv (.c (.int .i64 (0))), none⟩])
 (.block 2 (.loop c_law11_FeedbackLoops_L2)))
 c_law11_FeedbackLoops_R3)
def b_law11_FeedbackLoops : AC := (.seq (.reg [⟨(some 10), .mv (.c (.bool false)), none⟩])
 (.seq (.reg [⟨(some 32), .mv (.t 2), none⟩, ⟨(some 33), .call f_law11_taps [(.t 32)], none⟩, ⟨(some 11), .mv (.t 33), none⟩])
 (.seq (.reg [⟨(some 34), .mv (.t 3), none⟩, ⟨(some 35), .call f_law11_taps [(.t 34)], none⟩, ⟨(some 12), .mv (.t 35), none⟩])
 (.seq (.reg [⟨(some 37), .mv (.t 0), none⟩, ⟨(some 38), .mv (.t 11), none⟩, ⟨(some 39), .call f_ref11_New [(.t 37), (.t 38)], none⟩, ⟨(some 36), .mv (.t 39), none⟩, ⟨(some 40), .extract (.t 36) 0, none⟩, ⟨(some 41), .extract (.t 36) 1, none⟩, ⟨(some 13), .mv (.t 40), none⟩, ⟨(some 14), .mv (.t 41), none⟩])
 (.seq (.reg [⟨(some 43), .mv (.t 1), none⟩, ⟨(some 44), .mv (.t 12), none⟩, ⟨(some 45), .call f_ref11_New [(.t 43), (.t 44)], none⟩, ⟨(some 42), .mv (.t 45), none⟩, ⟨(some 46), .extract (.t 42) 0, none⟩, ⟨(some 47), .extract (.t 42) 1, none⟩, ⟨(some 15), .mv (.t 46), none⟩, ⟨(some 16), .mv (.t 47), none⟩])
 (.seq (.reg [⟨(some 49), .mv (.t 0), none⟩, ⟨(some 50), .mv (.t 11), none⟩, ⟨(some 51), .call f_feedback_New [(.t 49), (.t 50)], none⟩, ⟨(some 48), .mv (.t 51), none⟩, ⟨(some 52), .extract (.t 48) 0, none⟩, ⟨(some 53), .extract (.t 48) 1, none⟩, ⟨(some 17), .mv (.t 52), none⟩, ⟨(some 18), .mv (.t 53), none⟩])
 (.seq (.reg [⟨(some 55), .mv (.t 1), none⟩, ⟨(some 56), .mv (.t 12), none⟩, ⟨(some 57), .call f_feedback_New [(.t 55), (.t 56)], none⟩, ⟨(some 54), .mv (.t 57), none⟩, ⟨(some 58), .extract (.t 54) 0, none⟩, ⟨(some 59), .extract (.t 54) 1, none⟩, ⟨(some 19), .mv (.t 58), none⟩, ⟨(some 20), .mv (.t 59), none⟩])
 (.seq (.seq (.reg [⟨(some 60), .mv (.t 18), none⟩, ⟨(some 61), .mv (.t 14), none⟩, ⟨(some 62), .bin .neq (.t 60) (.t 61), none⟩, ⟨(some 63), .mv (.t 62), none⟩, ⟨(some 64), .mv (.t 20), (some (63, false))⟩, ⟨(some 65), .mv (.t 16), (some (63, false))⟩, ⟨(some 66), .bin .neq (.t 64) (.t 65), (some (63, false))⟩, ⟨(some 67), .pick (.t 63) (.c (.bool true)) (.t 66), none⟩, ⟨(some 68), .mv (.t 67), none⟩, ⟨(some 69), .mv (.t 17), (some (68, false))⟩, ⟨(some 70), .eq false (.prim .ptr) (.t 69) (.c .nilPtr), (some (68, false))⟩, ⟨(some 71), .mv (.t 13), (some (68, false))⟩, ⟨(some 72), .eq false (.prim .ptr) (.t 71) (.c .nilPtr), (some (68, false))⟩, ⟨(some 73), .eq true (.prim .bool) (.t 70) (.t 72), (some (68, false))⟩, ⟨(some 74), .pick (.t 68) (.c (.bool true)) (.t 73), none⟩, ⟨(some 75), .mv (.t 74), none⟩, ⟨(some 76), .mv (.t 19), (some (75, false))⟩, ⟨(some 77), .eq false (.prim .ptr) (.t 76) (.c .nilPtr), (some (75, false))⟩, ⟨(some 78), .mv (.t 15), (some (75, false))⟩, ⟨(some 79), .eq false (.prim .ptr) (.t 78) (.c .nilPtr), (some (75, false))⟩, ⟨(some 80), .eq true (.prim .bool) (.t 77) (.t 79), (some (75, false))⟩, ⟨(some 81), .pick (.t 75) (.c (.bool true)) (.t 80), none⟩])
 (.cond (.t 81) (.seq (.reg [⟨(some 10), .mv (.c (.bool false)), none⟩])
 .ret)
 .skip))
 (.seq (.seq (.reg [⟨(some 21), .mv (.c (.int .i64 (0))), none⟩])
 (.block 0 (.loop c_law11_FeedbackLoops_L0)))
 c_law11_FeedbackLoops_R1)))))))))
def c_law11_FeedbackLoops : AFun := .code 196 [(.tmp 10)] b_law11_FeedbackLoops
def b_law11_FeedbackNames : AC := (.seq (.reg [⟨(some 0), .mv (.c (.bool false)), none⟩])
 (.seq (.reg [⟨(some 1), .mv (.c .nilPtr), none⟩])
 (.seq (.reg [⟨(some 13), .mv (.t 1), none⟩, ⟨(some 14), .build [(.cpx 0 0), (.bool false)] [], none⟩, ⟨(some 15), .call f_feedback_Loop_Step [(.t 13), (.t 14)], none⟩, ⟨(some 12), .mv (.t 15), none⟩, ⟨(some 16), .extract (.t 12) 0, none⟩, ⟨(some 17), .extract (.t 12) 1, none⟩, ⟨(some 2), .alloc [(.int .i64 (0)), (.cpx 0 0), (.bool false)] 47, none⟩, ⟨none, .store (.t 2) (.t 16) 3, none⟩, ⟨(some 3), .mv (.t 17), none⟩])
 (.seq (.reg [⟨(some 19), .mv (.t 1), none⟩, ⟨(some 20), .call f_feedback_Loop_Bare [(.t 19)], none⟩, ⟨(some 18), .mv (.t 20), none⟩, ⟨(some 21), .extract (.t 18) 0, none⟩, ⟨(some 22), .extract (.t 18) 1, none⟩, ⟨(some 4), .mv (.t 21), none⟩, ⟨(some 5), .mv (.t 22), none⟩])
 (.seq (.reg [⟨(some 24), .buildSl [(.cpx 0 0)] 1 1 [(0, 1, (.c (.cpx 4607182418800017408 0)))] 33, none⟩, ⟨(some 25), .call f_feedback_New [(.c (.int .i64 (4))), (.t 24)], none⟩, ⟨(some 23), .mv (.t 25), none⟩, ⟨(some 26), .extract (.t 23) 0, none⟩, ⟨(some 27), .extract (.t 23) 1, none⟩, ⟨(some 6), .mv (.t 26), none⟩, ⟨(some 7), .mv (.t 27), none⟩])
 (.seq (.seq (.reg [⟨(some 28), .mv (.t 7), none⟩, ⟨(some 29), .bin .neq (.t 28) (.c (.int .i64 (0))), none⟩, ⟨(some 30), .mv (.t 29), none⟩, ⟨(some 31), .mv (.t 6), (some (30, false))⟩, ⟨(some 32), .eq false (.prim .ptr) (.t 31) (.c .nilPtr), (some (30, false))⟩, ⟨(some 33), .pick (.t 30) (.c (.bool true)) (.t 32), none⟩])
 (.cond (.t 33) (.seq (.reg [⟨(some 0), .mv (.c (.bool false)), none⟩])
 .ret)
 .skip))
 (.seq (.reg [⟨(some 35), .mv (.t 6), none⟩, ⟨(some 36), .call f_feedback_Loop_Bare [(.t 35)], none⟩, ⟨(some 34), .mv (.t 36), none⟩, ⟨(some 37), .extract (.t 34) 0, none⟩, ⟨(some 38), .extract (.t 34) 1, none⟩, ⟨(some 8), .mv (.t 37), none⟩, ⟨(some 9), .mv (.t 38), none⟩])
 (.seq (.reg [⟨(some 40), .mv (.t 6), none⟩, ⟨(some 41), .build [(.cpx 0 0), (.bool false)] [(0, 1, (.c (.cpx 4607182418800017408 0))), (1, 1, (.c (.bool true)))], none⟩, ⟨(some 42), .call f_feedback_Loop_Step [(.t 40), (.t 41)], none⟩, ⟨(some 39), .mv (.t 42), none⟩, ⟨(some 43), .extract (.t 39) 0, none⟩, ⟨(some 44), .extract (.t 39) 1, none⟩, ⟨(some 10), .alloc [(.int .i64 (0)), (.cpx 0 0), (.bool false)] 47, none⟩, ⟨none, .store (.t 10) (.t 43) 3, none⟩, ⟨(some 11), .mv (.t 44), none⟩])
 (.seq (.reg [⟨(some 45), .load (.t 2) 3 true, none⟩, ⟨(some 46), .build [(.int .i64 (0)), (.cpx 0 0), (.bool false)] [], none⟩, ⟨(some 47), .eq false (.parts [(0, 1, false, (.prim .int)), (1, 1, false, (.prim .cpx)), (2, 1, false, (.prim .bool))]) (.t 45) (.t 46), none⟩, ⟨(some 48), .mv (.t 47), none⟩, ⟨(some 49), .mv (.t 3), (some (48, true))⟩, ⟨(some 50), .bin .eql (.t 49) (.c (.int .i64 (2))), (some (48, true))⟩, ⟨(some 51), .pick (.t 48) (.t 50) (.c (.bool false)), none⟩, ⟨(some 52), .mv (.t 51), none⟩, ⟨(some 53), .mv (.t 4), (some (52, true))⟩, ⟨(some 54), .bin .eql (.t 53) (.c (.cpx 0 0)), (some (52, true))⟩, ⟨(some 55), .pick (.t 52) (.t 54) (.c (.bool false)), none⟩, ⟨(some 56), .mv (.t 55), none⟩, ⟨(some 57), .mv (.t 5), (some (56, true))⟩, ⟨(some 58), .bin .eql (.t 57) (.c (.int .i64 (2))), (some (56, true))⟩, ⟨(some 59), .pick (.t 56) (.t 58) (.c (.bool false)), none⟩, ⟨(some 60), .mv (.t 59), none⟩, ⟨(some 61), .mv (.t 1), (some (60, true))⟩, ⟨(some 62), .call f_feedback_Loop_Reset [(.t 61)], (some (60, true))⟩, ⟨(some 63), .bin .eql (.t 62) (.c (.int .i64 (2))), (some (60, true))⟩, ⟨(some 64), .pick (.t 60) (.t 63) (.c (.bool false)), none⟩, ⟨(some 65), .mv (.t 64), none⟩, ⟨(some 66), .mv (.t 1), (some (65, true))⟩, ⟨(some 67), .call f_feedback_Loop_Broken [(.t 66)], (some (65, true))⟩, ⟨(some 68), .un .not (.t 67), (some (65, true))⟩, ⟨(some 69), .pick (.t 65) (.t 68) (.c (.bool false)), none⟩, ⟨(some 70), .mv (.t 69), none⟩, ⟨(some 71), .mv (.t 9), (some (70, true))⟩, ⟨(some 72), .bin .eql (.t 71) (.c (.int .i64 (6))), (some (70, true))⟩, ⟨(some 73), .pick (.t 70) (.t 72) (.c (.bool false)), none⟩, ⟨(some 74), .mv (.t 73), none⟩, ⟨(some 75), .mv (.t 11), (some (74, true))⟩, ⟨(some 76), .bin .eql (.t 75) (.c (.int .i64 (7))), (some (74, true))⟩, ⟨(some 77), .pick (.t 74) (.t 76) (.c (.bool false)), none⟩, ⟨(some 78), .mv (.t 77), none⟩, ⟨(some 79), .call f_feedback_Check [(.c .nilSl)], (some (78, true))⟩, ⟨(some 80), .bin .eql (.t 79) (.c (.int .i64 (8))), (some (78, true))⟩, ⟨(some 81), .pick (.t 78) (.t 80) (.c (.bool false)), none⟩, ⟨(some 82), .mv (.t 81), none⟩, ⟨(some 83), .buildSl [(.cpx 0 0)] 1 1 [(0, 1, (.c (.cpx 4593671619917905920 0)))] 33, (some (82, true))⟩, ⟨(some 84), .call f_feedback_Check [(.t 83)], (some (82, true))⟩, ⟨(some 85), .bin .eql (.t 84) (.c (.int .i64 (110))), (some (82, true))⟩, ⟨(some 86), .pick (.t 82) (.t 85) (.c (.bool false)), none⟩, ⟨(some 87), .mv (.t 86), none⟩, ⟨(some 88), .pick (.t 87) (.c (.bool true)) (.c (.bool false)), none⟩, ⟨(some 89), .mv (.t 88), none⟩, ⟨(some 90), .pick (.t 89) (.c (.bool true)) (.c (.bool false)), none⟩, ⟨(some 0), .mv (.t 90), none⟩])
 .ret)))))))))
def c_law11_FeedbackNames : AFun := .code 91 [(.tmp 0)] b_law11_FeedbackNames
def c_law11_FeedbackParts_L0 : AC := (.seq (.seq (.reg [⟨(some 131), .mv (.t 24), none⟩, ⟨(some 132), .mv (.t 22), none⟩, ⟨(some 133), .lenSl (.t 132), none⟩, ⟨(some 134), .bin .lss (.t 131) (.t 133), none⟩])
 (.cond (.t 134) .skip
 (.exit 0)))
 (.seq (.block 1 (.seq (.reg [⟨(some 137), .mv (.t 22), none⟩, ⟨(some 138), .mv (.t 24), none⟩, ⟨(some 139), .indexSl (.t 137) (.t 138) 3, none⟩, ⟨(some 140), .load (.t 139) 3 true, none⟩, ⟨(some 141), .build [(.int .i64 (0)), (.cpx 0 0), (.bool false)] [(2, 1, (.c (.bool true)))], none⟩, ⟨(some 142), .eq true (.parts [(0, 1, false, (.prim .int)), (1, 1, false, (.prim .cpx)), (2, 1, false, (.prim .bool))]) (.t 140) (.t 141), none⟩])
 (.cond (.t 142) (.seq (.reg [⟨(some 14), .mv (.c (.bool false)), none⟩])
 .ret)
 .skip)))
 (.reg [⟨(some 135), .mv (.t 24), none⟩, ⟨(some 136), .bin .add (.t 135) (.c (.int .i64 (1))), none⟩, ⟨(some 24), .mv (.t 136), none⟩])))
def c_law11_FeedbackParts_R1 : AC := (.reg [⟨(some 143), .mv (.t 17), none⟩, ⟨(some 144), .mv (.t 5), none⟩, ⟨(some 145), .load (.t 21) 2 true, none⟩, ⟨(some 146), .indexSl (.t 143) (.t 144) 2, none⟩, ⟨none, .store (.t 146) (.t 145) 2, none⟩])
def c_law11_FeedbackParts_L3 : AC := (.seq (.seq (.reg [⟨(some 151), .mv (.t 26), none⟩, ⟨(some 152), .mv (.t 16), none⟩, ⟨(some 153), .lenSl (.t 152), none⟩, ⟨(some 154), .bin .lss (.t 151) (.t 153), none⟩])
 (.cond (.t 154) .skip
 (.exit 2)))
 (.seq (.block 3 (.reg [⟨(some 157), .mv (.t 25), none⟩, ⟨(some 158), .mv (.t 16), none⟩, ⟨(some 159), .mv (.t 26), none⟩, ⟨(some 160), .indexSl (.t 158) (.t 159) 1, none⟩, ⟨(some 161), .load (.t 160) 1 false, none⟩, ⟨(some 162), .mv (.t 6), none⟩, ⟨(some 163), .call f_ref11_Turn [(.t 161), (.t 162)], none⟩, ⟨(some 164), .buildSl [(.cpx 0 0)] 1 1 [(0, 1, (.t 163))] 33, none⟩, ⟨(some 165), .app (.t 157) (.t 164) 1 16 33, none⟩, ⟨(some 25), .mv (.t 165), none⟩]))
 (.reg [⟨(some 155), .mv (.t 26), none⟩, ⟨(some 156), .bin .add (.t 155) (.c (.int .i64 (1))), none⟩, ⟨(some 26), .mv (.t 156), none⟩])))
def c_law11_FeedbackParts_L5 : AC := (.seq (.seq (.reg [⟨(some 166), .mv (.t 27), none⟩, ⟨(some 167), .mv (.t 17), none⟩, ⟨(some 168), .lenSl (.t 167), none⟩, ⟨(some 169), .bin .lss (.t 166) (.t 168), none⟩])
 (.cond (.t 169) .skip
 (.exit 4)))
 (.seq (.block 5 (.reg [⟨(some 172), .mv (.t 17), none⟩, ⟨(some 173), .mv (.t 27), none⟩, ⟨(some 174), .mv (.t 17), none⟩, ⟨(some 175), .mv (.t 27), none⟩, ⟨(some 176), .indexSl (.t 174) (.t 175) 2, none⟩, ⟨(some 177), .fieldAddr (.t 176) 0, none⟩, ⟨(some 178), .load (.t 177) 1 false, none⟩, ⟨(some 179), .mv (.t 6), none⟩, ⟨(some 180), .call f_ref11_Turn [(.t 178), (.t 179)], none⟩, ⟨(some 181), .indexSl (.t 172) (.t 173) 2, none⟩, ⟨(some 182), .fieldAddr (.t 181) 0, none⟩, ⟨none, .store (.t 182) (.t 180) 1, none⟩]))
 (.reg [⟨(some 170), .mv (.t 27), none⟩, ⟨(some 171), .bin .add (.t 170) (.c (.int .i64 (1))), none⟩, ⟨(some 27), .mv (.t 171), none⟩])))
def c_law11_FeedbackParts_R6 : AC := (.seq (.reg [⟨(some 184), .mv (.t 15), none⟩, ⟨(some 185), .mv (.t 25), none⟩, ⟨(some 186), .mv (.t 17), none⟩, ⟨(some 187), .call f_feedback_Run [(.t 184), (.t 185), (.t 186)], none⟩, ⟨(some 183), .mv (.t 187), none⟩, ⟨(some 188), .extract (.t 183) 0, none⟩, ⟨(some 189), .extract (.t 183) 1, none⟩, ⟨(some 28), .mv (.t 188), none⟩, ⟨(some 19), .mv (.t 189), none⟩])
 (.seq (.reg [⟨(some 190), .mv (.t 19), none⟩, ⟨(some 191), .bin .eql (.t 190) (.c (.int .i64 (0))), none⟩, ⟨(some 192), .mv (.t 191), none⟩, ⟨(some 193), .mv (.t 28), (some (192, true))⟩, ⟨(some 194), .mv (.t 18), (some (192, true))⟩, ⟨(some 195), .call f_law11_same [(.t 193), (.t 194)], (some (192, true))⟩, ⟨(some 196), .pick (.t 192) (.t 195) (.c (.bool false)), none⟩, ⟨(some 14), .mv (.t 196), none⟩])
 .ret))
def c_law11_FeedbackParts_R4 : AC := (.seq (.seq (.reg [⟨(some 27), .mv (.c (.int .i64 (0))), none⟩])
 (.block 4 (.loop c_law11_FeedbackParts_L5)))
 c_law11_FeedbackParts_R6)
def c_law11_FeedbackParts_R2 : AC := (.seq (.reg [⟨(some 147), .mv (.t 6), none⟩, ⟨(some 148), .bin .rem (.t 147) (.c (.int .i64 (4))), none⟩, ⟨(some 149), .bin .add (.t 148) (.c (.int .i64 (4))), none⟩, ⟨(some 150), .bin .rem (.t 149) (.c (.int .i64 (4))), none⟩, ⟨(some 6), .mv (.t 150), none⟩])
 (.seq (.reg [⟨(some 25), .mv (.c .nilSl), none⟩])
 (.seq (.seq (.reg [⟨(some 26), .mv (.c (.int .i64 (0))), none⟩])
 (.block 2 (.loop c_law11_FeedbackParts_L3)))
 c_law11_FeedbackParts_R4)))
def b_law11_FeedbackParts : AC := (.seq (.reg [⟨(some 14), .mv (.c (.bool false)), none⟩])
 (.seq (.seq (.reg [⟨(some 29), .call f_law11_awake [], none⟩, ⟨(some 30), .un .not (.t 29), none⟩])
 (.cond (.t 30) (.seq (.reg [⟨(some 14), .mv (.c (.bool false)), none⟩])
 .ret)
 .skip))
 (.seq (.reg [⟨(some 31), .mv (.t 0), none⟩, ⟨(some 32), .call f_law11_size [(.t 31)], none⟩, ⟨(some 15), .mv (.t 32), none⟩])
 (.seq (.reg [⟨(some 33), .mv (.t 1), none⟩, ⟨(some 34), .mv (.t 2), none⟩, ⟨(some 35), .mv (.t 3), none⟩, ⟨(some 36), .call f_law11_may [(.t 33), (.t 34), (.t 35)], none⟩, ⟨(some 16), .mv (.t 36), none⟩])
 (.seq (.seq (.reg [⟨(some 37), .mv (.t 4), none⟩, ⟨(some 38), .lenSl (.t 37), none⟩, ⟨(some 39), .bin .gtr (.t 38) (.c (.int .i64 (300))), none⟩])
 (.cond (.t 39) (.reg [⟨(some 40), .mv (.t 4), none⟩, ⟨(some 41), .slSl (.t 40) none (some (.c (.int .i64 (300)))) none 3, none⟩, ⟨(some 4), .mv (.t 41), none⟩])
 .skip))
 (.seq (.reg [⟨(some 42), .mv (.t 4), none⟩, ⟨(some 43), .call f_law11_near [(.t 42)], none⟩, ⟨(some 17), .mv (.t 43), none⟩])
 (.seq (.reg [⟨(some 45), .mv (.t 15), none⟩, ⟨(some 46), .mv (.t 16), none⟩, ⟨(some 47), .mv (.t 17), none⟩, ⟨(some 48), .call f_feedback_Run [(.t 45), (.t 46), (.t 47)], none⟩, ⟨(some 44), .mv (.t 48), none⟩, ⟨(some 49), .extract (.t 44) 0, none⟩, ⟨(some 50), .extract (.t 44) 1, none⟩, ⟨(some 18), .mv (.t 49), none⟩, ⟨(some 19), .mv (.t 50), none⟩])
 (.seq (.seq (.reg [⟨(some 51), .mv (.t 19), none⟩, ⟨(some 52), .bin .neq (.t 51) (.c (.int .i64 (0))), none⟩, ⟨(some 53), .mv (.t 52), none⟩, ⟨(some 54), .mv (.t 18), (some (53, false))⟩, ⟨(some 55), .lenSl (.t 54), (some (53, false))⟩, ⟨(some 56), .mv (.t 17), (some (53, false))⟩, ⟨(some 57), .lenSl (.t 56), (some (53, false))⟩, ⟨(some 58), .bin .neq (.t 55) (.t 57), (some (53, false))⟩, ⟨(some 59), .pick (.t 53) (.c (.bool true)) (.t 58), none⟩])
 (.cond (.t 59) (.seq (.reg [⟨(some 14), .mv (.c (.bool false)), none⟩])
 .ret)
 .skip))
 (.seq (.reg [⟨(some 60), .mv (.t 5), none⟩, ⟨(some 61), .mv (.t 17), none⟩, ⟨(some 62), .lenSl (.t 61), none⟩, ⟨(some 63), .bin .add (.t 62) (.c (.int .i64 (1))), none⟩, ⟨(some 64), .bin .rem (.t 60) (.t 63), none⟩, ⟨(some 65), .mv (.t 17), none⟩, ⟨(some 66), .lenSl (.t 65), none⟩, ⟨(some 67), .bin .add (.t 64) (.t 66), none⟩, ⟨(some 68), .bin .add (.t 67) (.c (.int .i64 (1))), none⟩, ⟨(some 69), .mv (.t 17), none⟩, ⟨(some 70), .lenSl (.t 69), none⟩, ⟨(some 71), .bin .add (.t 70) (.c (.int .i64 (1))), none⟩, ⟨(some 72), .bin .rem (.t 68) (.t 71), none⟩, ⟨(some 5), .mv (.t 72), none⟩])
 (.seq (.reg [⟨(some 74), .mv (.t 15), none⟩, ⟨(some 75), .mv (.t 16), none⟩, ⟨(some 76), .mv (.t 17), none⟩, ⟨(some 77), .mv (.t 5), none⟩, ⟨(some 78), .slSl (.t 76) none (some (.t 77)) none 2, none⟩, ⟨(some 79), .call f_feedback_Run [(.t 74), (.t 75), (.t 78)], none⟩, ⟨(some 73), .mv (.t 79), none⟩, ⟨(some 80), .extract (.t 73) 0, none⟩, ⟨(some 81), .extract (.t 73) 1, none⟩, ⟨(some 20), .mv (.t 80), none⟩, ⟨(some 19), .mv (.t 81), none⟩])
 (.seq (.seq (.reg [⟨(some 82), .mv (.t 19), none⟩, ⟨(some 83), .bin .neq (.t 82) (.c (.int .i64 (0))), none⟩, ⟨(some 84), .mv (.t 83), none⟩, ⟨(some 85), .mv (.t 20), (some (84, false))⟩, ⟨(some 86), .mv (.t 18), (some (84, false))⟩, ⟨(some 87), .mv (.t 5), (some (84, false))⟩, ⟨(some 88), .slSl (.t 86) none (some (.t 87)) none 3, (some (84, false))⟩, ⟨(some 89), .call f_law11_same [(.t 85), (.t 88)], (some (84, false))⟩, ⟨(some 90), .un .not (.t 89), (some (84, false))⟩, ⟨(some 91), .pick (.t 84) (.c (.bool true)) (.t 90), none⟩])
 (.cond (.t 91) (.seq (.reg [⟨(some 14), .mv (.c (.bool false)), none⟩])
 .ret)
 .skip))
 (.seq (.seq (.reg [⟨(some 92), .mv (.t 5), none⟩, ⟨(some 93), .mv (.t 17), none⟩, ⟨(some 94), .lenSl (.t 93), none⟩, ⟨(some 95), .bin .lss (.t 92) (.t 94), none⟩])
 (.cond (.t 95) (.seq (.reg [⟨(some 96), .mv (.t 17), none⟩, ⟨(some 97), .mv (.t 5), none⟩, ⟨(some 98), .indexSl (.t 96) (.t 97) 2, none⟩, ⟨(some 99), .load (.t 98) 2 true, none⟩, ⟨(some 21), .alloc [(.cpx 0 0), (.bool false)] 39, none⟩, ⟨none, .store (.t 21) (.t 99) 2, none⟩])
 (.seq (.reg [⟨(some 100), .mv (.t 17), none⟩, ⟨(some 101), .mv (.t 5), none⟩, ⟨(some 102), .build [(.cpx 0 0), (.bool false)] [(1, 1, (.c (.bool true)))], none⟩, ⟨(some 103), .indexSl (.t 100) (.t 101) 2, none⟩, ⟨none, .store (.t 103) (.t 102) 2, none⟩])
 (.seq (.reg [⟨(some 105), .mv (.t 15), none⟩, ⟨(some 106), .mv (.t 16), none⟩, ⟨(some 107), .mv (.t 17), none⟩, ⟨(some 108), .call f_feedback_Run [(.t 105), (.t 106), (.t 107)], none⟩, ⟨(some 104), .mv (.t 108), none⟩, ⟨(some 109), .extract (.t 104) 0, none⟩, ⟨(some 110), .extract (.t 104) 1, none⟩, ⟨(some 22), .mv (.t 109), none⟩, ⟨(some 23), .mv (.t 110), none⟩])
 (.seq (.seq (dr [(⟨(some 111), .mv (.t 23), none⟩, .plain), (⟨(some 112), .bin .neq (.t 111) (.c (.int .i64 (0))), none⟩, .plain), (⟨(some 113), .mv (.t 112), none⟩, .plain), (⟨(some 114), .mv (.t 22), (some (113, false))⟩, .plain), (⟨(some 115), .lenSl (.t 114), (some (113, false))⟩, .plain), (⟨(some 116), .mv (.t 17), (some (113, false))⟩, .plain), (⟨(some 117), .lenSl (.t 116), (some (113, false))⟩, .plain), (⟨(some 118), .bin .neq (.t 115) (.t 117), (some (113, false))⟩, .plain), (⟨(some 119), .pick (.t 113) (.c (.bool true)) (.t 118), none⟩, .plain), (⟨(some 120), .mv (.t 119), none⟩, .plain), (⟨(some 121), .mv (.t 22), (some (120, false))⟩, .plain), (⟨(some 122), .mv (.t 5), (some (120, false))⟩, .plain), (⟨(some 123), .slSl (.t 121) none (some (.t 122)) none 3, (some (120, false))⟩, .alone), (⟨(some 124), .mv (.t 18), (some (120, false))⟩, .plain), (⟨(some 125), .mv (.t 5), (some (120, false))⟩, .plain), (⟨(some 126), .slSl (.t 124) none (some (.t 125)) none 3, (some (120, false))⟩, .alone), (⟨(some 127), .call f_law11_same [(.t 123), (.t 126)], (some (120, false))⟩, .plain), (⟨(some 128), .un .not (.t 127), (some (120, false))⟩, .plain), (⟨(some 129), .pick (.t 120) (.c (.bool true)) (.t 128), none⟩, .plain)])
 (.cond (.t 129) (.seq (.reg [⟨(some 14), .mv (.c (.bool false)), none⟩])
 .ret)
 .skip))
 (.seq (.seq (.reg [⟨(some 130), .mv (.t 5), none⟩, ⟨(some 24), .mv (.t 130), none⟩])
 (.block 0 (.loop c_law11_FeedbackParts_L0)))
 c_law11_FeedbackParts_R1)))))
 .skip))
 c_law11_FeedbackParts_R2))))))))))))
def c_law11_FeedbackParts : AFun := .code 197 [(.tmp 14)] b_law11_FeedbackParts
def c_law11_FeedbackRuns_L0 : AC := (.seq (.seq (.reg [⟨(some 121), .mv (.t 20), none⟩, ⟨(some 122), .mv (.t 12), none⟩, ⟨(some 123), .lenSl (.t 122), none⟩, ⟨(some 124), .bin .lss (.t 121) (.t 123), none⟩])
 (.cond (.t 124) .skip
 (.exit 0)))
 (.seq (.block 1 (.reg [⟨(some 127), .mv (.t 12), none⟩, ⟨(some 128), .mv (.t 20), none⟩, ⟨(some 129), .build [(.int .i64 (0)), (.cpx 0 0), (.bool false)] [(0, 1, (.c (.int .i64 (-1))))], none⟩, ⟨(some 130), .indexSl (.t 127) (.t 128) 3, none⟩, ⟨none, .store (.t 130) (.t 129) 3, none⟩]))
 (.reg [⟨(some 125), .mv (.t 20), none⟩, ⟨(some 126), .bin .add (.t 125) (.c (.int .i64 (1))), none⟩, ⟨(some 20), .mv (.t 126), none⟩])))
def c_law11_FeedbackRuns_L2 : AC := (.seq (.seq (.reg [⟨(some 131), .mv (.t 21), none⟩, ⟨(some 132), .bin .lss (.t 131) (.c (.int .i64 (20))), none⟩])
 (.cond (.t 132) .skip
 (.exit 2)))
 (.seq (.block 3 (.reg [⟨(some 135), .mv (.t 12), none⟩, ⟨(some 136), .build [(.int .i64 (0)), (.cpx 0 0), (.bool false)] [(0, 1, (.c (.int .i64 (-2))))], none⟩, ⟨(some 137), .buildSl [(.int .i64 (0)), (.cpx 0 0), (.bool false)] 3 1 [(0, 3, (.t 136))] 47, none⟩, ⟨(some 138), .app (.t 135) (.t 137) 3 32 47, none⟩, ⟨(some 12), .mv (.t 138), none⟩]))
 (.reg [⟨(some 133), .mv (.t 21), none⟩, ⟨(some 134), .bin .add (.t 133) (.c (.int .i64 (1))), none⟩, ⟨(some 21), .mv (.t 134), none⟩])))
def c_law11_FeedbackRuns_R3 : AC := (.seq (.reg [⟨(some 139), .mv (.t 14), none⟩, ⟨(some 140), .mv (.t 9), none⟩, ⟨(some 141), .call f_law11_rows [(.t 139), (.t 140)], none⟩, ⟨(some 142), .mv (.t 141), none⟩, ⟨(some 143), .mv (.t 12), (some (142, true))⟩, ⟨(some 144), .lenSl (.t 143), (some (142, true))⟩, ⟨(some 145), .bin .geq (.t 144) (.c (.int .i64 (20))), (some (142, true))⟩, ⟨(some 146), .pick (.t 142) (.t 145) (.c (.bool false)), none⟩, ⟨(some 6), .mv (.t 146), none⟩])
 .ret)
def c_law11_FeedbackRuns_R1 : AC := (.seq (.seq (.reg [⟨(some 21), .mv (.c (.int .i64 (0))), none⟩])
 (.block 2 (.loop c_law11_FeedbackRuns_L2)))
 c_law11_FeedbackRuns_R3)
def b_law11_FeedbackRuns : AC := (.seq (.reg [⟨(some 6), .mv (.c (.bool false)), none⟩])
 (.seq (.reg [⟨(some 22), .mv (.t 1), none⟩, ⟨(some 23), .call f_law11_taps [(.t 22)], none⟩, ⟨(some 7), .mv (.t 23), none⟩])
 (.seq (.reg [⟨(some 24), .mv (.t 2), none⟩, ⟨(some 25), .call f_law11_samples [(.t 24)], none⟩, ⟨(some 8), .mv (.t 25), none⟩])
 (.seq (.reg [⟨(some 27), .mv (.t 0), none⟩, ⟨(some 28), .mv (.t 7), none⟩, ⟨(some 29), .mv (.t 8), none⟩, ⟨(some 30), .call f_ref11_Run [(.t 27), (.t 28), (.t 29)], none⟩, ⟨(some 26), .mv (.t 30), none⟩, ⟨(some 31), .extract (.t 26) 0, none⟩, ⟨(some 32), .extract (.t 26) 1, none⟩, ⟨(some 33), .extract (.t 26) 2, none⟩, ⟨(some 9), .mv (.t 31), none⟩, ⟨(some 10), .mv (.t 32), none⟩, ⟨(some 11), .mv (.t 33), none⟩])
 (.seq (.reg [⟨(some 35), .mv (.t 0), none⟩, ⟨(some 36), .mv (.t 7), none⟩, ⟨(some 37), .mv (.t 8), none⟩, ⟨(some 38), .call f_feedback_Run [(.t 35), (.t 36), (.t 37)], none⟩, ⟨(some 34), .mv (.t 38), none⟩, ⟨(some 39), .extract (.t 34) 0, none⟩, ⟨(some 40), .extract (.t 34) 1, none⟩, ⟨(some 12), .mv (.t 39), none⟩, ⟨(some 13), .mv (.t 40), none⟩])
 (.seq (.reg [⟨(some 42), .mv (.t 0), none⟩, ⟨(some 43), .mv (.t 7), none⟩, ⟨(some 44), .mv (.t 8), none⟩, ⟨(some 45), .call f_feedback_Run [(.t 42), (.t 43), (.t 44)], none⟩, ⟨(some 41), .mv (.t 45), none⟩, ⟨(some 46), .extract (.t 41) 0, none⟩, ⟨(some 47), .extract (.t 41) 1, none⟩, ⟨(some 14), .mv (.t 46), none⟩, ⟨(some 15), .mv (.t 47), none⟩])
 (.seq (.reg [⟨(some 49), .mv (.t 0), none⟩, ⟨(some 50), .mv (.t 7), none⟩, ⟨(some 51), .mv (.t 8), none⟩, ⟨(some 52), .call f_feedback_Residue [(.t 49), (.t 50), (.t 51)], none⟩, ⟨(some 48), .mv (.t 52), none⟩, ⟨(some 53), .extract (.t 48) 0, none⟩, ⟨(some 54), .extract (.t 48) 1, none⟩, ⟨(some 16), .mv (.t 53), none⟩, ⟨(some 17), .mv (.t 54), none⟩])
 (.seq (.reg [⟨(some 56), .mv (.t 0), none⟩, ⟨(some 57), .mv (.t 7), none⟩, ⟨(some 58), .mv (.t 8), none⟩, ⟨(some 59), .call f_feedback_Residue [(.t 56), (.t 57), (.t 58)], none⟩, ⟨(some 55), .mv (.t 59), none⟩, ⟨(some 60), .extract (.t 55) 0, none⟩, ⟨(some 61), .extract (.t 55) 1, none⟩, ⟨(some 18), .mv (.t 60), none⟩, ⟨(some 19), .mv (.t 61), none⟩])
 (.seq (.seq (.reg [⟨(some 62), .mv (.t 13), none⟩, ⟨(some 63), .mv (.t 11), none⟩, ⟨(some 64), .bin .neq (.t 62) (.t 63), none⟩, ⟨(some 65), .mv (.t 64), none⟩, ⟨(some 66), .mv (.t 17), (some (65, false))⟩, ⟨(some 67), .mv (.t 11), (some (65, false))⟩, ⟨(some 68), .bin .neq (.t 66) (.t 67), (some (65, false))⟩, ⟨(some 69), .pick (.t 65) (.c (.bool true)) (.t 68), none⟩, ⟨(some 70), .mv (.t 69), none⟩, ⟨(some 71), .mv (.t 12), (some (70, false))⟩, ⟨(some 72), .mv (.t 9), (some (70, false))⟩, ⟨(some 73), .call f_law11_rows [(.t 71), (.t 72)], (some (70, false))⟩, ⟨(some 74), .un .not (.t 73), (some (70, false))⟩, ⟨(some 75), .pick (.t 70) (.c (.bool true)) (.t 74), none⟩, ⟨(some 76), .mv (.t 75), none⟩, ⟨(some 77), .mv (.t 14), (some (76, false))⟩, ⟨(some 78), .mv (.t 9), (some (76, false))⟩, ⟨(some 79), .call f_law11_rows [(.t 77), (.t 78)], (some (76, false))⟩, ⟨(some 80), .un .not (.t 79), (some (76, false))⟩, ⟨(some 81), .pick (.t 76) (.c (.bool true)) (.t 80), none⟩, ⟨(some 82), .mv (.t 81), none⟩, ⟨(some 83), .mv (.t 16), (some (82, false))⟩, ⟨(some 84), .mv (.t 18), (some (82, false))⟩, ⟨(some 85), .mv (.t 10), (some (82, false))⟩, ⟨(some 86), .call f_law11_fresh [(.t 83), (.t 84), (.t 85)], (some (82, false))⟩, ⟨(some 87), .un .not (.t 86), (some (82, false))⟩, ⟨(some 88), .pick (.t 82) (.c (.bool true)) (.t 87), none⟩, ⟨(some 89), .mv (.t 88), none⟩, ⟨(some 90), .mv (.t 8), (some (89, false))⟩, ⟨(some 91), .mv (.t 2), (some (89, false))⟩, ⟨(some 92), .call f_law11_samples [(.t 91)], (some (89, false))⟩, ⟨(some 93), .call f_ref02_Same [(.t 90), (.t 92)], (some (89, false))⟩, ⟨(some 94), .un .not (.t 93), (some (89, false))⟩, ⟨(some 95), .pick (.t 89) (.c (.bool true)) (.t 94), none⟩, ⟨(some 96), .mv (.t 95), none⟩, ⟨(some 97), .mv (.t 8), (some (96, false))⟩, ⟨(some 98), .mv (.t 2), (some (96, false))⟩, ⟨(some 99), .lenSl (.t 98), (some (96, false))⟩, ⟨(some 100), .bin .add (.t 99) (.c (.int .i64 (1))), (some (96, false))⟩, ⟨(some 101), .slSl (.t 97) none (some (.t 100)) none 2, (some (96, false))⟩, ⟨(some 102), .mv (.t 2), (some (96, false))⟩, ⟨(some 103), .lenSl (.t 102), (some (96, false))⟩, ⟨(some 104), .indexSl (.t 101) (.t 103) 2, (some (96, false))⟩, ⟨(some 105), .fieldAddr (.t 104) 0, (some (96, false))⟩, ⟨(some 106), .load (.t 105) 1 false, (some (96, false))⟩, ⟨(some 107), .bin .neq (.t 106) (.c (.cpx 4651892959631900672 0)), (some (96, false))⟩, ⟨(some 108), .pick (.t 96) (.c (.bool true)) (.t 107), none⟩, ⟨(some 109), .mv (.t 108), none⟩, ⟨(some 110), .mv (.t 7), (some (109, false))⟩, ⟨(some 111), .mv (.t 1), (some (109, false))⟩, ⟨(some 112), .lenSl (.t 111), (some (109, false))⟩, ⟨(some 113), .bin .add (.t 112) (.c (.int .i64 (1))), (some (109, false))⟩, ⟨(some 114), .slSl (.t 110) none (some (.t 113)) none 1, (some (109, false))⟩, ⟨(some 115), .mv (.t 1), (some (109, false))⟩, ⟨(some 116), .lenSl (.t 115), (some (109, false))⟩, ⟨(some 117), .indexSl (.t 114) (.t 116) 1, (some (109, false))⟩, ⟨(some 118), .load (.t 117) 1 false, (some (109, false))⟩, ⟨(some 119), .bin .neq (.t 118) (.c (.cpx 4651892959631900672 0)), (some (109, false))⟩, ⟨(some 120), .pick (.t 109) (.c (.bool true)) (.t 119), none⟩])
 (.cond (.t 120) (.seq (.reg [⟨(some 6), .mv (.c (.bool false)), none⟩])
 .ret)
 .skip))
 (.seq (.seq (.reg [⟨(some 20), .mv (.c (.int .i64 (0))), none⟩])
 (.block 0 (.loop c_law11_FeedbackRuns_L0)))
 c_law11_FeedbackRuns_R1))))))))))
def c_law11_FeedbackRuns : AFun := .code 147 [(.tmp 6)] b_law11_FeedbackRuns
def c_law11_FeedbackAdds_L0 : AC := (.seq (.seq (.reg [⟨(some 53), .mv (.t 20), none⟩, ⟨(some 54), .mv (.t 14), none⟩, ⟨(some 55), .lenSl (.t 54), none⟩, ⟨(some 56), .bin .lss (.t 53) (.t 55), none⟩])
 (.cond (.t 56) .skip
 (.exit 0)))
 (.seq (.block 1 (.seq (.reg [⟨(some 21), .mv (.c (.cpx 0 0)), none⟩])
 (.seq (.seq (.reg [⟨(some 59), .mv (.t 20), none⟩, ⟨(some 60), .mv (.t 15), none⟩, ⟨(some 61), .lenSl (.t 60), none⟩, ⟨(some 62), .bin .lss (.t 59) (.t 61), none⟩])
 (.cond (.t 62) (.reg [⟨(some 63), .mv (.t 15), none⟩, ⟨(some 64), .mv (.t 20), none⟩, ⟨(some 65), .indexSl (.t 63) (.t 64) 2, none⟩, ⟨(some 66), .fieldAddr (.t 65) 0, none⟩, ⟨(some 67), .load (.t 66) 1 false, none⟩, ⟨(some 21), .mv (.t 67), none⟩])
 .skip))
 (.seq (.reg [⟨(some 68), .mv (.t 16), none⟩, ⟨(some 69), .mv (.t 14), none⟩, ⟨(some 70), .mv (.t 20), none⟩, ⟨(some 71), .indexSl (.t 69) (.t 70) 2, none⟩, ⟨(some 72), .fieldAddr (.t 71) 0, none⟩, ⟨(some 73), .load (.t 72) 1 false, none⟩, ⟨(some 74), .buildSl [(.cpx 0 0)] 1 1 [(0, 1, (.t 73))] 33, none⟩, ⟨(some 75), .app (.t 68) (.t 74) 1 16 33, none⟩, ⟨(some 16), .mv (.t 75), none⟩])
 (.seq (.reg [⟨(some 76), .mv (.t 17), none⟩, ⟨(some 77), .mv (.t 21), none⟩, ⟨(some 78), .buildSl [(.cpx 0 0)] 1 1 [(0, 1, (.t 77))] 33, none⟩, ⟨(some 79), .app (.t 76) (.t 78) 1 16 33, none⟩, ⟨(some 17), .mv (.t 79), none⟩])
 (.seq (dr [(⟨(some 80), .mv (.t 18), none⟩, .plain), (⟨(some 81), .mv (.t 14), none⟩, .plain), (⟨(some 82), .mv (.t 20), none⟩, .plain), (⟨(some 83), .indexSl (.t 81) (.t 82) 2, none⟩, .plain), (⟨(some 84), .fieldAddr (.t 83) 0, none⟩, .plain), (⟨(some 85), .load (.t 84) 1 false, none⟩, .alone), (⟨(some 86), .real (.t 85), none⟩, .plain), (⟨(some 87), .mv (.t 21), none⟩, .plain), (⟨(some 88), .real (.t 87), none⟩, .plain), (⟨(some 89), .bin .add (.t 86) (.t 88), none⟩, .plain), (⟨(some 90), .mv (.t 14), none⟩, .plain), (⟨(some 91), .mv (.t 20), none⟩, .plain), (⟨(some 92), .indexSl (.t 90) (.t 91) 2, none⟩, .plain), (⟨(some 93), .fieldAddr (.t 92) 0, none⟩, .plain), (⟨(some 94), .load (.t 93) 1 false, none⟩, .alone), (⟨(some 95), .imag (.t 94), none⟩, .plain), (⟨(some 96), .mv (.t 21), none⟩, .plain), (⟨(some 97), .imag (.t 96), none⟩, .plain), (⟨(some 98), .bin .add (.t 95) (.t 97), none⟩, .plain), (⟨(some 99), .cplx (.t 89) (.t 98), none⟩, .plain), (⟨(some 100), .buildSl [(.cpx 0 0)] 1 1 [(0, 1, (.t 99))] 33, none⟩, .plain), (⟨(some 101), .app (.t 80) (.t 100) 1 16 33, none⟩, .plain), (⟨(some 18), .mv (.t 101), none⟩, .plain)])
 (.reg [⟨(some 102), .mv (.t 19), none⟩, ⟨(some 103), .mv (.t 14), none⟩, ⟨(some 104), .mv (.t 20), none⟩, ⟨(some 105), .indexSl (.t 103) (.t 104) 2, none⟩, ⟨(some 106), .fieldAddr (.t 105) 0, none⟩, ⟨(some 107), .load (.t 106) 1 false, none⟩, ⟨(some 108), .buildSl [(.cpx 0 0)] 1 1 [(0, 1, (.t 107))] 33, none⟩, ⟨(some 109), .app (.t 102) (.t 108) 1 16 33, none⟩, ⟨(some 19), .mv (.t 109), none⟩])))))))
 (.reg [⟨(some 57), .mv (.t 20), none⟩, ⟨(some 58), .bin .add (.t 57) (.c (.int .i64 (1))), none⟩, ⟨(some 20), .mv (.t 58), none⟩])))
def c_law11_FeedbackAdds_L2 : AC := (.seq (.seq (.reg [⟨(some 176), .mv (.t 30), none⟩, ⟨(some 177), .mv (.t 16), none⟩, ⟨(some 178), .lenSl (.t 177), none⟩, ⟨(some 179), .bin .lss (.t 176) (.t 178), none⟩])
 (.cond (.t 179) .skip
 (.exit 2)))
 (.seq (.block 3 (.seq (dr [(⟨(some 182), .mv (.t 26), none⟩, .plain), (⟨(some 183), .mv (.t 30), none⟩, .plain), (⟨(some 184), .indexSl (.t 182) (.t 183) 1, none⟩, .plain), (⟨(some 185), .load (.t 184) 1 false, none⟩, .alone), (⟨(some 186), .mv (.t 22), none⟩, .plain), (⟨(some 187), .mv (.t 30), none⟩, .plain), (⟨(some 188), .indexSl (.t 186) (.t 187) 1, none⟩, .plain), (⟨(some 189), .load (.t 188) 1 false, none⟩, .alone), (⟨(some 190), .real (.t 189), none⟩, .plain), (⟨(some 191), .mv (.t 24), none⟩, .plain), (⟨(some 192), .mv (.t 30), none⟩, .plain), (⟨(some 193), .indexSl (.t 191) (.t 192) 1, none⟩, .plain), (⟨(some 194), .load (.t 193) 1 false, none⟩, .alone), (⟨(some 195), .real (.t 194), none⟩, .plain), (⟨(some 196), .bin .add (.t 190) (.t 195), none⟩, .plain), (⟨(some 197), .mv (.t 22), none⟩, .plain), (⟨(some 198), .mv (.t 30), none⟩, .plain), (⟨(some 199), .indexSl (.t 197) (.t 198) 1, none⟩, .plain), (⟨(some 200), .load (.t 199) 1 false, none⟩, .alone), (⟨(some 201), .imag (.t 200), none⟩, .plain), (⟨(some 202), .mv (.t 24), none⟩, .plain), (⟨(some 203), .mv (.t 30), none⟩, .plain), (⟨(some 204), .indexSl (.t 202) (.t 203) 1, none⟩, .plain), (⟨(some 205), .load (.t 204) 1 false, none⟩, .alone), (⟨(some 206), .imag (.t 205), none⟩, .plain), (⟨(some 207), .bin .add (.t 201) (.t 206), none⟩, .plain), (⟨(some 208), .cplx (.t 196) (.t 207), none⟩, .plain), (⟨(some 209), .bin .neq (.t 185) (.t 208), none⟩, .plain), (⟨(some 210), .mv (.t 209), none⟩, .plain), (⟨(some 211), .mv (.t 28), (some (210, false))⟩, .plain), (⟨(some 212), .mv (.t 30), (some (210, false))⟩, .plain), (⟨(some 213), .mv (.t 19), (some (210, false))⟩, .plain), (⟨(some 214), .lenSl (.t 213), (some (210, false))⟩, .plain), (⟨(some 215), .bin .add (.t 212) (.t 214), (some (210, false))⟩, .plain), (⟨(some 216), .mv (.t 16), (some (210, false))⟩, .plain), (⟨(some 217), .lenSl (.t 216), (some (210, false))⟩, .plain), (⟨(some 218), .bin .sub (.t 215) (.t 217), (some (210, false))⟩, .plain), (⟨(some 219), .indexSl (.t 211) (.t 218) 1, (some (210, false))⟩, .plain), (⟨(some 220), .load (.t 219) 1 false, (some (210, false))⟩, .alone), (⟨(some 221), .mv (.t 22), (some (210, false))⟩, .plain), (⟨(some 222), .mv (.t 30), (some (210, false))⟩, .plain), (⟨(some 223), .indexSl (.t 221) (.t 222) 1, (some (210, false))⟩, .plain), (⟨(some 224), .load (.t 223) 1 false, (some (210, false))⟩, .alone), (⟨(some 225), .bin .neq (.t 220) (.t 224), (some (210, false))⟩, .plain), (⟨(some 226), .pick (.t 210) (.c (.bool true)) (.t 225), none⟩, .plain)])
 (.cond (.t 226) (.seq (.reg [⟨(some 12), .mv (.c (.bool false)), none⟩])
 .ret)
 .skip)))
 (.reg [⟨(some 180), .mv (.t 30), none⟩, ⟨(some 181), .bin .add (.t 180) (.c (.int .i64 (1))), none⟩, ⟨(some 30), .mv (.t 181), none⟩])))
def c_law11_FeedbackAdds_L4 : AC := (.seq (.seq (.reg [⟨(some 227), .mv (.t 31), none⟩, ⟨(some 228), .mv (.t 19), none⟩, ⟨(some 229), .lenSl (.t 228), none⟩, ⟨(some 230), .mv (.t 16), none⟩, ⟨(some 231), .lenSl (.t 230), none⟩, ⟨(some 232), .bin .sub (.t 229) (.t 231), none⟩, ⟨(some 233), .bin .lss (.t 227) (.t 232), none⟩])
 (.cond (.t 233) .skip
 (.exit 4)))
 (.seq (.block 5 (.seq (.reg [⟨(some 236), .mv (.t 28), none⟩, ⟨(some 237), .mv (.t 31), none⟩, ⟨(some 238), .indexSl (.t 236) (.t 237) 1, none⟩, ⟨(some 239), .load (.t 238) 1 false, none⟩, ⟨(some 240), .bin .neq (.t 239) (.c (.cpx 0 0)), none⟩])
 (.cond (.t 240) (.seq (.reg [⟨(some 12), .mv (.c (.bool false)), none⟩])
 .ret)
 .skip)))
 (.reg [⟨(some 234), .mv (.t 31), none⟩, ⟨(some 235), .bin .add (.t 234) (.c (.int .i64 (1))), none⟩, ⟨(some 31), .mv (.t 235), none⟩])))
def c_law11_FeedbackAdds_R5 : AC := (.seq (.reg [⟨(some 12), .mv (.c (.bool true)), none⟩])
 .ret)
def c_law11_FeedbackAdds_R3 : AC := (.seq (.seq (.reg [⟨(some 31), .mv (.c (.int .i64 (0))), none⟩])
 (.block 4 (.loop c_law11_FeedbackAdds_L4)))
 c_law11_FeedbackAdds_R5)
def c_law11_FeedbackAdds_R1 : AC := (.seq (.reg [⟨(some 111), .mv (.t 13), none⟩, ⟨(some 112), .mv (.t 16), none⟩, ⟨(some 113), .call f_feedback_Echo [(.t 111), (.t 112)], none⟩, ⟨(some 110), .mv (.t 113), none⟩, ⟨(some 114), .extract (.t 110) 0, none⟩, ⟨(some 115), .extract (.t 110) 1, none⟩, ⟨(some 22), .mv (.t 114), none⟩, ⟨(some 23), .mv (.t 115), none⟩])
 (.seq (.reg [⟨(some 117), .mv (.t 13), none⟩, ⟨(some 118), .mv (.t 17), none⟩, ⟨(some 119), .call f_feedback_Echo [(.t 117), (.t 118)], none⟩, ⟨(some 116), .mv (.t 119), none⟩, ⟨(some 120), .extract (.t 116) 0, none⟩, ⟨(some 121), .extract (.t 116) 1, none⟩, ⟨(some 24), .mv (.t 120), none⟩, ⟨(some 25), .mv (.t 121), none⟩])
 (.seq (.reg [⟨(some 123), .mv (.t 13), none⟩, ⟨(some 124), .mv (.t 18), none⟩, ⟨(some 125), .call f_feedback_Echo [(.t 123), (.t 124)], none⟩, ⟨(some 122), .mv (.t 125), none⟩, ⟨(some 126), .extract (.t 122) 0, none⟩, ⟨(some 127), .extract (.t 122) 1, none⟩, ⟨(some 26), .mv (.t 126), none⟩, ⟨(some 27), .mv (.t 127), none⟩])
 (.seq (.reg [⟨(some 129), .mv (.t 13), none⟩, ⟨(some 130), .mv (.t 19), none⟩, ⟨(some 131), .call f_feedback_Echo [(.t 129), (.t 130)], none⟩, ⟨(some 128), .mv (.t 131), none⟩, ⟨(some 132), .extract (.t 128) 0, none⟩, ⟨(some 133), .extract (.t 128) 1, none⟩, ⟨(some 28), .mv (.t 132), none⟩, ⟨(some 29), .mv (.t 133), none⟩])
 (.seq (.seq (.reg [⟨(some 134), .mv (.t 23), none⟩, ⟨(some 135), .bin .neq (.t 134) (.c (.int .i64 (0))), none⟩, ⟨(some 136), .mv (.t 135), none⟩, ⟨(some 137), .mv (.t 25), (some (136, false))⟩, ⟨(some 138), .bin .neq (.t 137) (.c (.int .i64 (0))), (some (136, false))⟩, ⟨(some 139), .pick (.t 136) (.c (.bool true)) (.t 138), none⟩, ⟨(some 140), .mv (.t 139), none⟩, ⟨(some 141), .mv (.t 27), (some (140, false))⟩, ⟨(some 142), .bin .neq (.t 141) (.c (.int .i64 (0))), (some (140, false))⟩, ⟨(some 143), .pick (.t 140) (.c (.bool true)) (.t 142), none⟩, ⟨(some 144), .mv (.t 143), none⟩, ⟨(some 145), .mv (.t 29), (some (144, false))⟩, ⟨(some 146), .bin .neq (.t 145) (.c (.int .i64 (0))), (some (144, false))⟩, ⟨(some 147), .pick (.t 144) (.c (.bool true)) (.t 146), none⟩, ⟨(some 148), .mv (.t 147), none⟩, ⟨(some 149), .mv (.t 22), (some (148, false))⟩, ⟨(some 150), .lenSl (.t 149), (some (148, false))⟩, ⟨(some 151), .mv (.t 16), (some (148, false))⟩, ⟨(some 152), .lenSl (.t 151), (some (148, false))⟩, ⟨(some 153), .bin .neq (.t 150) (.t 152), (some (148, false))⟩, ⟨(some 154), .pick (.t 148) (.c (.bool true)) (.t 153), none⟩, ⟨(some 155), .mv (.t 154), none⟩, ⟨(some 156), .mv (.t 24), (some (155, false))⟩, ⟨(some 157), .lenSl (.t 156), (some (155, false))⟩, ⟨(some 158), .mv (.t 16), (some (155, false))⟩, ⟨(some 159), .lenSl (.t 158), (some (155, false))⟩, ⟨(some 160), .bin .neq (.t 157) (.t 159), (some (155, false))⟩, ⟨(some 161), .pick (.t 155) (.c (.bool true)) (.t 160), none⟩, ⟨(some 162), .mv (.t 161), none⟩, ⟨(some 163), .mv (.t 26), (some (162, false))⟩, ⟨(some 164), .lenSl (.t 163), (some (162, false))⟩, ⟨(some 165), .mv (.t 16), (some (162, false))⟩, ⟨(some 166), .lenSl (.t 165), (some (162, false))⟩, ⟨(some 167), .bin .neq (.t 164) (.t 166), (some (162, false))⟩, ⟨(some 168), .pick (.t 162) (.c (.bool true)) (.t 167), none⟩, ⟨(some 169), .mv (.t 168), none⟩, ⟨(some 170), .mv (.t 28), (some (169, false))⟩, ⟨(some 171), .lenSl (.t 170), (some (169, false))⟩, ⟨(some 172), .mv (.t 19), (some (169, false))⟩, ⟨(some 173), .lenSl (.t 172), (some (169, false))⟩, ⟨(some 174), .bin .neq (.t 171) (.t 173), (some (169, false))⟩, ⟨(some 175), .pick (.t 169) (.c (.bool true)) (.t 174), none⟩])
 (.cond (.t 175) (.seq (.reg [⟨(some 12), .mv (.c (.bool false)), none⟩])
 .ret)
 .skip))
 (.seq (.seq (.reg [⟨(some 30), .mv (.c (.int .i64 (0))), none⟩])
 (.block 2 (.loop c_law11_FeedbackAdds_L2)))
 c_law11_FeedbackAdds_R3))))))
def b_law11_FeedbackAdds : AC := (.seq (.reg [⟨(some 12), .mv (.c (.bool false)), none⟩])
 (.seq (.seq (.reg [⟨(some 32), .call f_law11_awake [], none⟩, ⟨(some 33), .un .not (.t 32), none⟩])
 (.cond (.t 33) (.seq (.reg [⟨(some 12), .mv (.c (.bool false)), none⟩])
 .ret)
 .skip))
 (.seq (.reg [⟨(some 34), .mv (.t 0), none⟩, ⟨(some 35), .mv (.t 1), none⟩, ⟨(some 36), .mv (.t 2), none⟩, ⟨(some 37), .call f_law11_may [(.t 34), (.t 35), (.t 36)], none⟩, ⟨(some 13), .mv (.t 37), none⟩])
 (.seq (.seq (.reg [⟨(some 38), .mv (.t 3), none⟩, ⟨(some 39), .lenSl (.t 38), none⟩, ⟨(some 40), .bin .gtr (.t 39) (.c (.int .i64 (300))), none⟩])
 (.cond (.t 40) (.reg [⟨(some 41), .mv (.t 3), none⟩, ⟨(some 42), .slSl (.t 41) none (some (.c (.int .i64 (300)))) none 3, none⟩, ⟨(some 3), .mv (.t 42), none⟩])
 .skip))
 (.seq (.reg [⟨(some 43), .mv (.t 3), none⟩, ⟨(some 44), .call f_law11_near [(.t 43)], none⟩, ⟨(some 14), .mv (.t 44), none⟩])
 (.seq (.reg [⟨(some 45), .mv (.t 4), none⟩, ⟨(some 46), .call f_law11_near [(.t 45)], none⟩, ⟨(some 15), .mv (.t 46), none⟩])
 (.seq (.reg [⟨(some 16), .mv (.c .nilSl), none⟩, ⟨(some 17), .mv (.c .nilSl), none⟩, ⟨(some 18), .mv (.c .nilSl), none⟩, ⟨(some 19), .mv (.c .nilSl), none⟩])
 (.seq (.reg [⟨(some 47), .mv (.t 19), none⟩, ⟨(some 48), .mv (.t 5), none⟩, ⟨(some 49), .bin .rem (.t 48) (.c (.int .i64 (20))), none⟩, ⟨(some 50), .bin .add (.t 49) (.c (.int .i64 (20))), none⟩, ⟨(some 51), .bin .rem (.t 50) (.c (.int .i64 (20))), none⟩, ⟨(some 52), .appz (.t 47) (.t 51) [(.cpx 0 0)] 1 16 33, none⟩, ⟨(some 19), .mv (.t 52), none⟩])
 (.seq (.seq (.reg [⟨(some 20), .mv (.c (.int .i64 (0))), none⟩])
 (.block 0 (.loop c_law11_FeedbackAdds_L0)))
 c_law11_FeedbackAdds_R1)))))))))
def c_law11_FeedbackAdds : AFun := .code 241 [(.tmp 12)] b_law11_FeedbackAdds
def c_law11_FeedbackReach_L0 : AC := (.seq (.seq (.reg [⟨(some 53), .mv (.t 18), none⟩, ⟨(some 54), .mv (.t 1), none⟩, ⟨(some 55), .lenSl (.t 54), none⟩, ⟨(some 56), .bin .lss (.t 53) (.t 55), none⟩])
 (.cond (.t 56) .skip
 (.exit 0)))
 (.seq (.block 1 (.reg [⟨(some 59), .mv (.t 17), none⟩, ⟨(some 60), .mv (.t 15), none⟩, ⟨(some 61), .mv (.t 1), none⟩, ⟨(some 62), .mv (.t 18), none⟩, ⟨(some 63), .indexSl (.t 61) (.t 62) 1, none⟩, ⟨(some 64), .load (.t 63) 1 false, none⟩, ⟨(some 65), .conv (.toInt .i64) (.t 64), none⟩, ⟨(some 66), .mv (.t 13), none⟩, ⟨(some 67), .bin .rem (.t 65) (.t 66), none⟩, ⟨(some 68), .indexSl (.t 60) (.t 67) 1, none⟩, ⟨(some 69), .load (.t 68) 1 false, none⟩, ⟨(some 70), .buildSl [(.cpx 0 0)] 1 1 [(0, 1, (.t 69))] 33, none⟩, ⟨(some 71), .app (.t 59) (.t 70) 1 16 33, none⟩, ⟨(some 17), .mv (.t 71), none⟩]))
 (.reg [⟨(some 57), .mv (.t 18), none⟩, ⟨(some 58), .bin .add (.t 57) (.c (.int .i64 (1))), none⟩, ⟨(some 18), .mv (.t 58), none⟩])))
def c_law11_FeedbackReach_L2 : AC := (.seq (.seq (.reg [⟨(some 97), .mv (.t 26), none⟩, ⟨(some 98), .mv (.t 17), none⟩, ⟨(some 99), .lenSl (.t 98), none⟩, ⟨(some 100), .bin .lss (.t 97) (.t 99), none⟩])
 (.cond (.t 100) .skip
 (.exit 2)))
 (.seq (.block 3 (.seq (.reg [⟨(some 103), .mv (.t 14), none⟩, ⟨(some 104), .mv (.t 17), none⟩, ⟨(some 105), .mv (.t 26), none⟩, ⟨(some 106), .call f_law11_answer [(.t 103), (.t 104), (.t 105)], none⟩, ⟨(some 27), .mv (.t 106), none⟩])
 (.seq (.seq (.reg [⟨(some 107), .mv (.t 22), none⟩, ⟨(some 108), .mv (.t 26), none⟩, ⟨(some 109), .indexSl (.t 107) (.t 108) 1, none⟩, ⟨(some 110), .load (.t 109) 1 false, none⟩, ⟨(some 111), .mv (.t 27), none⟩, ⟨(some 112), .bin .neq (.t 110) (.t 111), none⟩])
 (.cond (.t 112) (.seq (.reg [⟨(some 12), .mv (.c (.bool false)), none⟩])
 .ret)
 .skip))
 (.seq (.reg [⟨(some 28), .mv (.c (.cpx 0 0)), none⟩])
 (.seq (.seq (.reg [⟨(some 113), .mv (.t 5), none⟩, ⟨(some 114), .lenSl (.t 113), none⟩, ⟨(some 115), .bin .gtr (.t 114) (.c (.int .i64 (0))), none⟩])
 (.cond (.t 115) (.seq (.reg [⟨(some 116), .mv (.t 5), none⟩, ⟨(some 117), .mv (.t 26), none⟩, ⟨(some 118), .mv (.t 5), none⟩, ⟨(some 119), .lenSl (.t 118), none⟩, ⟨(some 120), .bin .rem (.t 117) (.t 119), none⟩, ⟨(some 121), .indexSl (.t 116) (.t 120) 2, none⟩, ⟨(some 122), .load (.t 121) 2 true, none⟩, ⟨(some 29), .alloc [(.int .i32 (0)), (.int .i32 (0))] 86, none⟩, ⟨none, .store (.t 29) (.t 122) 2, none⟩])
 (dr [(⟨(some 123), .fieldAddr (.t 29) 0, none⟩, .plain), (⟨(some 124), .load (.t 123) 1 false, none⟩, .alone), (⟨(some 125), .mv (.t 21), none⟩, .plain), (⟨(some 126), .bin .rem (.t 124) (.t 125), none⟩, .plain), (⟨(some 127), .conv .toFlt (.t 126), none⟩, .plain), (⟨(some 128), .bin .quo (.t 127) (.c (.flt 4661225614328463360)), none⟩, .plain), (⟨(some 129), .fieldAddr (.t 29) 1, none⟩, .plain), (⟨(some 130), .load (.t 129) 1 false, none⟩, .alone), (⟨(some 131), .mv (.t 21), none⟩, .plain), (⟨(some 132), .bin .rem (.t 130) (.t 131), none⟩, .plain), (⟨(some 133), .conv .toFlt (.t 132), none⟩, .plain), (⟨(some 134), .bin .quo (.t 133) (.c (.flt 4661225614328463360)), none⟩, .plain), (⟨(some 135), .cplx (.t 128) (.t 134), none⟩, .plain), (⟨(some 28), .mv (.t 135), none⟩, .plain)]))
 .skip))
 (.seq (.reg [⟨(some 136), .mv (.t 24), none⟩, ⟨(some 137), .mv (.t 27), none⟩, ⟨(some 138), .real (.t 137), none⟩, ⟨(some 139), .mv (.t 28), none⟩, ⟨(some 140), .real (.t 139), none⟩, ⟨(some 141), .bin .add (.t 138) (.t 140), none⟩, ⟨(some 142), .mv (.t 27), none⟩, ⟨(some 143), .imag (.t 142), none⟩, ⟨(some 144), .mv (.t 28), none⟩, ⟨(some 145), .imag (.t 144), none⟩, ⟨(some 146), .bin .add (.t 143) (.t 145), none⟩, ⟨(some 147), .cplx (.t 141) (.t 146), none⟩, ⟨(some 148), .build [(.cpx 0 0), (.bool false)] [(0, 1, (.t 147))], none⟩, ⟨(some 149), .buildSl [(.cpx 0 0), (.bool false)] 2 1 [(0, 2, (.t 148))] 39, none⟩, ⟨(some 150), .app (.t 136) (.t 149) 2 24 39, none⟩, ⟨(some 24), .mv (.t 150), none⟩])
 (.seq (.reg [⟨(some 151), .mv (.t 28), none⟩, ⟨(some 152), .mv (.t 20), none⟩, ⟨(some 153), .bin .sub (.c (.int .i64 (4))) (.t 152), none⟩, ⟨(some 154), .bin .rem (.t 153) (.c (.int .i64 (4))), none⟩, ⟨(some 155), .call f_ref11_Turn [(.t 151), (.t 154)], none⟩, ⟨(some 28), .mv (.t 155), none⟩])
 (.reg [⟨(some 156), .mv (.t 25), none⟩, ⟨(some 157), .mv (.t 28), none⟩, ⟨(some 158), .real (.t 157), none⟩, ⟨(some 159), .mv (.t 19), none⟩, ⟨(some 160), .bin .quo (.t 158) (.t 159), none⟩, ⟨(some 161), .mv (.t 28), none⟩, ⟨(some 162), .imag (.t 161), none⟩, ⟨(some 163), .mv (.t 19), none⟩, ⟨(some 164), .bin .quo (.t 162) (.t 163), none⟩, ⟨(some 165), .cplx (.t 160) (.t 164), none⟩, ⟨(some 166), .buildSl [(.cpx 0 0)] 1 1 [(0, 1, (.t 165))] 33, none⟩, ⟨(some 167), .app (.t 156) (.t 166) 1 16 33, none⟩, ⟨(some 25), .mv (.t 167), none⟩]))))))))
 (.reg [⟨(some 101), .mv (.t 26), none⟩, ⟨(some 102), .bin .add (.t 101) (.c (.int .i64 (1))), none⟩, ⟨(some 26), .mv (.t 102), none⟩])))
def c_law11_FeedbackReach_L4 : AC := (.seq (.seq (.reg [⟨(some 201), .mv (.t 34), none⟩, ⟨(some 202), .mv (.t 30), none⟩, ⟨(some 203), .lenSl (.t 202), none⟩, ⟨(some 204), .bin .lss (.t 201) (.t 203), none⟩])
 (.cond (.t 204) .skip
 (.exit 4)))
 (.seq (.block 5 (.seq (dr [(⟨(some 207), .mv (.t 30), none⟩, .plain), (⟨(some 208), .mv (.t 34), none⟩, .plain), (⟨(some 209), .indexSl (.t 207) (.t 208) 3, none⟩, .plain), (⟨(some 210), .fieldAddr (.t 209) 2, none⟩, .plain), (⟨(some 211), .load (.t 210) 1 false, none⟩, .plain), (⟨(some 212), .mv (.t 211), none⟩, .plain), (⟨(some 213), .mv (.t 30), (some (212, false))⟩, .plain), (⟨(some 214), .mv (.t 34), (some (212, false))⟩, .plain), (⟨(some 215), .indexSl (.t 213) (.t 214) 3, (some (212, false))⟩, .plain), (⟨(some 216), .fieldAddr (.t 215) 1, (some (212, false))⟩, .plain), (⟨(some 217), .load (.t 216) 1 false, (some (212, false))⟩, .alone), (⟨(some 218), .mv (.t 17), (some (212, false))⟩, .plain), (⟨(some 219), .mv (.t 34), (some (212, false))⟩, .plain), (⟨(some 220), .indexSl (.t 218) (.t 219) 1, (some (212, false))⟩, .plain), (⟨(some 221), .load (.t 220) 1 false, (some (212, false))⟩, .alone), (⟨(some 222), .bin .neq (.t 217) (.t 221), (some (212, false))⟩, .plain), (⟨(some 223), .pick (.t 212) (.c (.bool true)) (.t 222), none⟩, .plain), (⟨(some 224), .mv (.t 223), none⟩, .plain), (⟨(some 225), .mv (.t 30), (some (224, false))⟩, .plain), (⟨(some 226), .mv (.t 34), (some (224, false))⟩, .plain), (⟨(some 227), .indexSl (.t 225) (.t 226) 3, (some (224, false))⟩, .plain), (⟨(some 228), .fieldAddr (.t 227) 0, (some (224, false))⟩, .plain), (⟨(some 229), .load (.t 228) 1 false, (some (224, false))⟩, .alone), (⟨(some 230), .mv (.t 1), (some (224, false))⟩, .plain), (⟨(some 231), .mv (.t 34), (some (224, false))⟩, .plain), (⟨(some 232), .indexSl (.t 230) (.t 231) 1, (some (224, false))⟩, .plain), (⟨(some 233), .load (.t 232) 1 false, (some (224, false))⟩, .alone), (⟨(some 234), .conv (.toInt .i64) (.t 233), (some (224, false))⟩, .plain), (⟨(some 235), .mv (.t 13), (some (224, false))⟩, .plain), (⟨(some 236), .bin .rem (.t 234) (.t 235), (some (224, false))⟩, .plain), (⟨(some 237), .bin .neq (.t 229) (.t 236), (some (224, false))⟩, .plain), (⟨(some 238), .pick (.t 224) (.c (.bool true)) (.t 237), none⟩, .plain)])
 (.cond (.t 238) (.seq (.reg [⟨(some 12), .mv (.c (.bool false)), none⟩])
 .ret)
 .skip)))
 (.reg [⟨(some 205), .mv (.t 34), none⟩, ⟨(some 206), .bin .add (.t 205) (.c (.int .i64 (1))), none⟩, ⟨(some 34), .mv (.t 206), none⟩])))
def c_law11_FeedbackReach_R5 : AC := (.seq (.reg [⟨(some 12), .mv (.c (.bool true)), none⟩])
 .ret)
def c_law11_FeedbackReach_R3 : AC := (.seq (.reg [⟨(some 169), .mv (.t 13), none⟩, ⟨(some 170), .mv (.t 14), none⟩, ⟨(some 171), .mv (.t 24), none⟩, ⟨(some 172), .call f_feedback_Run [(.t 169), (.t 170), (.t 171)], none⟩, ⟨(some 168), .mv (.t 172), none⟩, ⟨(some 173), .extract (.t 168) 0, none⟩, ⟨(some 174), .extract (.t 168) 1, none⟩, ⟨(some 30), .mv (.t 173), none⟩, ⟨(some 31), .mv (.t 174), none⟩])
 (.seq (.reg [⟨(some 176), .mv (.t 13), none⟩, ⟨(some 177), .mv (.t 14), none⟩, ⟨(some 178), .mv (.t 24), none⟩, ⟨(some 179), .call f_feedback_Residue [(.t 176), (.t 177), (.t 178)], none⟩, ⟨(some 175), .mv (.t 179), none⟩, ⟨(some 180), .extract (.t 175) 0, none⟩, ⟨(some 181), .extract (.t 175) 1, none⟩, ⟨(some 32), .mv (.t 180), none⟩, ⟨(some 33), .mv (.t 181), none⟩])
 (.seq (.seq (.reg [⟨(some 182), .mv (.t 31), none⟩, ⟨(some 183), .bin .neq (.t 182) (.c (.int .i64 (0))), none⟩, ⟨(some 184), .mv (.t 183), none⟩, ⟨(some 185), .mv (.t 33), (some (184, false))⟩, ⟨(some 186), .bin .neq (.t 185) (.c (.int .i64 (0))), (some (184, false))⟩, ⟨(some 187), .pick (.t 184) (.c (.bool true)) (.t 186), none⟩, ⟨(some 188), .mv (.t 187), none⟩, ⟨(some 189), .mv (.t 30), (some (188, false))⟩, ⟨(some 190), .lenSl (.t 189), (some (188, false))⟩, ⟨(some 191), .mv (.t 17), (some (188, false))⟩, ⟨(some 192), .lenSl (.t 191), (some (188, false))⟩, ⟨(some 193), .bin .neq (.t 190) (.t 192), (some (188, false))⟩, ⟨(some 194), .pick (.t 188) (.c (.bool true)) (.t 193), none⟩, ⟨(some 195), .mv (.t 194), none⟩, ⟨(some 196), .mv (.t 32), (some (195, false))⟩, ⟨(some 197), .mv (.t 25), (some (195, false))⟩, ⟨(some 198), .call f_ref11_Same [(.t 196), (.t 197)], (some (195, false))⟩, ⟨(some 199), .un .not (.t 198), (some (195, false))⟩, ⟨(some 200), .pick (.t 195) (.c (.bool true)) (.t 199), none⟩])
 (.cond (.t 200) (.seq (.reg [⟨(some 12), .mv (.c (.bool false)), none⟩])
 .ret)
 .skip))
 (.seq (.seq (.reg [⟨(some 34), .mv (.c (.int .i64 (0))), none⟩])
 (.block 4 (.loop c_law11_FeedbackReach_L4)))
 c_law11_FeedbackReach_R5))))
def c_law11_FeedbackReach_R1 : AC := (.seq (.reg [⟨(some 73), .mv (.t 14), none⟩, ⟨(some 74), .indexSl (.t 73) (.c (.int .i64 (0))) 1, none⟩, ⟨(some 75), .load (.t 74) 1 false, none⟩, ⟨(some 76), .call f_ref11_First [(.t 75)], none⟩, ⟨(some 72), .mv (.t 76), none⟩, ⟨(some 77), .extract (.t 72) 0, none⟩, ⟨(some 78), .extract (.t 72) 1, none⟩, ⟨(some 19), .mv (.t 77), none⟩, ⟨(some 20), .mv (.t 78), none⟩])
 (.seq (.reg [⟨(some 79), .mv (.t 19), none⟩, ⟨(some 80), .bin .mul (.t 79) (.c (.flt 4661225614328463360)), none⟩, ⟨(some 81), .conv (.fltToInt .i32) (.t 80), none⟩, ⟨(some 21), .mv (.t 81), none⟩])
 (.seq (.reg [⟨(some 83), .mv (.t 14), none⟩, ⟨(some 84), .mv (.t 17), none⟩, ⟨(some 85), .call f_feedback_Echo [(.t 83), (.t 84)], none⟩, ⟨(some 82), .mv (.t 85), none⟩, ⟨(some 86), .extract (.t 82) 0, none⟩, ⟨(some 87), .extract (.t 82) 1, none⟩, ⟨(some 22), .mv (.t 86), none⟩, ⟨(some 23), .mv (.t 87), none⟩])
 (.seq (.seq (.reg [⟨(some 88), .mv (.t 23), none⟩, ⟨(some 89), .bin .neq (.t 88) (.c (.int .i64 (0))), none⟩, ⟨(some 90), .mv (.t 89), none⟩, ⟨(some 91), .mv (.t 22), (some (90, false))⟩, ⟨(some 92), .lenSl (.t 91), (some (90, false))⟩, ⟨(some 93), .mv (.t 17), (some (90, false))⟩, ⟨(some 94), .lenSl (.t 93), (some (90, false))⟩, ⟨(some 95), .bin .neq (.t 92) (.t 94), (some (90, false))⟩, ⟨(some 96), .pick (.t 90) (.c (.bool true)) (.t 95), none⟩])
 (.cond (.t 96) (.seq (.reg [⟨(some 12), .mv (.c (.bool false)), none⟩])
 .ret)
 .skip))
 (.seq (.reg [⟨(some 24), .mv (.c .nilSl), none⟩])
 (.seq (.reg [⟨(some 25), .mv (.c .nilSl), none⟩])
 (.seq (.seq (.reg [⟨(some 26), .mv (.c (.int .i64 (0))), none⟩])
 (.block 2 (.loop c_law11_FeedbackReach_L2)))
 c_law11_FeedbackReach_R3)))))))
def b_law11_FeedbackReach : AC := (.seq (.reg [⟨(some 12), .mv (.c (.bool false)), none⟩])
 (.seq (.seq (.reg [⟨(some 35), .call f_law11_awake [], none⟩, ⟨(some 36), .un .not (.t 35), none⟩])
 (.cond (.t 36) (.seq (.reg [⟨(some 12), .mv (.c (.bool false)), none⟩])
 .ret)
 .skip))
 (.seq (.reg [⟨(some 37), .mv (.t 0), none⟩, ⟨(some 38), .call f_law11_size [(.t 37)], none⟩, ⟨(some 13), .mv (.t 38), none⟩])
 (.seq (.reg [⟨(some 39), .mv (.t 2), none⟩, ⟨(some 40), .mv (.t 3), none⟩, ⟨(some 41), .mv (.t 4), none⟩, ⟨(some 42), .call f_law11_may [(.t 39), (.t 40), (.t 41)], none⟩, ⟨(some 14), .mv (.t 42), none⟩])
 (.seq (.reg [⟨(some 44), .mv (.t 13), none⟩, ⟨(some 45), .call f_ref04_All [(.t 44)], none⟩, ⟨(some 43), .mv (.t 45), none⟩, ⟨(some 46), .extract (.t 43) 0, none⟩, ⟨(some 47), .extract (.t 43) 1, none⟩, ⟨(some 15), .mv (.t 46), none⟩, ⟨(some 16), .mv (.t 47), none⟩])
 (.seq (.seq (.reg [⟨(some 48), .mv (.t 1), none⟩, ⟨(some 49), .lenSl (.t 48), none⟩, ⟨(some 50), .bin .gtr (.t 49) (.c (.int .i64 (300))), none⟩])
 (.cond (.t 50) (.reg [⟨(some 51), .mv (.t 1), none⟩, ⟨(some 52), .slSl (.t 51) none (some (.c (.int .i64 (300)))) none 1, none⟩, ⟨(some 1), .mv (.t 52), none⟩])
 .skip))
 (.seq (.reg [⟨(some 17), .mv (.c .nilSl), none⟩])
 (.seq (.seq (.reg [⟨(some 18), .mv (.c (.int .i64 (0))), none⟩])
 (.block 0 (.loop c_law11_FeedbackReach_L0)))
 c_law11_FeedbackReach_R1))))))))
def c_law11_FeedbackReach : AFun := .code 239 [(.tmp 12)] b_law11_FeedbackReach
def c_law11_taps_L0 : AC := (.seq (.seq (.reg [⟨(some 7), .mv (.t 4), none⟩, ⟨(some 8), .mv (.t 0), none⟩, ⟨(some 9), .lenSl (.t 8), none⟩, ⟨(some 10), .bin .lss (.t 7) (.t 9), none⟩])
 (.cond (.t 10) .skip
 (.exit 0)))
 (.seq (.block 1 (.seq (dr [(⟨(some 13), .mv (.t 0), none⟩, .plain), (⟨(some 14), .mv (.t 4), none⟩, .plain), (⟨(some 15), .indexSl (.t 13) (.t 14) 3, none⟩, .plain), (⟨(some 16), .fieldAddr (.t 15) 0, none⟩, .plain), (⟨(some 17), .load (.t 16) 1 false, none⟩, .alone), (⟨(some 18), .conv .toFlt (.t 17), none⟩, .plain), (⟨(some 19), .bin .quo (.t 18) (.c (.flt 4634204016564240384)), none⟩, .plain), (⟨(some 20), .mv (.t 0), none⟩, .plain), (⟨(some 21), .mv (.t 4), none⟩, .plain), (⟨(some 22), .indexSl (.t 20) (.t 21) 3, none⟩, .plain), (⟨(some 23), .fieldAddr (.t 22) 1, none⟩, .plain), (⟨(some 24), .load (.t 23) 1 false, none⟩, .alone), (⟨(some 25), .conv .toFlt (.t 24), none⟩, .plain), (⟨(some 26), .bin .quo (.t 25) (.c (.flt 4634204016564240384)), none⟩, .plain), (⟨(some 27), .cplx (.t 19) (.t 26), none⟩, .plain), (⟨(some 5), .mv (.t 27), none⟩, .plain)])
 (.seq (.seq (.reg [⟨(some 28), .mv (.t 0), none⟩, ⟨(some 29), .mv (.t 4), none⟩, ⟨(some 30), .indexSl (.t 28) (.t 29) 3, none⟩, ⟨(some 31), .fieldAddr (.t 30) 2, none⟩, ⟨(some 32), .load (.t 31) 1 false, none⟩])
 (.cond (.t 32) (dr [(⟨(some 33), .mv (.t 0), none⟩, .plain), (⟨(some 34), .mv (.t 4), none⟩, .plain), (⟨(some 35), .indexSl (.t 33) (.t 34) 3, none⟩, .plain), (⟨(some 36), .fieldAddr (.t 35) 0, none⟩, .plain), (⟨(some 37), .load (.t 36) 1 false, none⟩, .quiet), (⟨(some 38), .conv (.toInt .u64) (.t 37), none⟩, .plain), (⟨(some 39), .call f_math_Float64frombits [(.t 38)], none⟩, .mark), (⟨(some 40), .mv (.t 0), none⟩, .plain), (⟨(some 41), .mv (.t 4), none⟩, .plain), (⟨(some 42), .indexSl (.t 40) (.t 41) 3, none⟩, .plain), (⟨(some 43), .fieldAddr (.t 42) 1, none⟩, .plain), (⟨(some 44), .load (.t 43) 1 false, none⟩, .quiet), (⟨(some 45), .conv (.toInt .u64) (.t 44), none⟩, .plain), (⟨(some 46), .call f_math_Float64frombits [(.t 45)], none⟩, .plain), (⟨(some 47), .cplx (.t 39) (.t 46), none⟩, .plain), (⟨(some 5), .mv (.t 47), none⟩, .plain)])
 .skip))
 (.reg [⟨(some 48), .mv (.t 3), none⟩, ⟨(some 49), .mv (.t 5), none⟩, ⟨(some 50), .buildSl [(.cpx 0 0)] 1 1 [(0, 1, (.t 49))] 33, none⟩, ⟨(some 51), .app (.t 48) (.t 50) 1 16 33, none⟩, ⟨(some 3), .mv (.t 51), none⟩]))))
 (.reg [⟨(some 11), .mv (.t 4), none⟩, ⟨(some 12), .bin .add (.t 11) (.c (.int .i64 (1))), none⟩, ⟨(some 4), .mv (.t 12), none⟩])))
def c_law11_taps_R1 : AC := (.seq (.reg [⟨(some 52), .mv (.t 3), none⟩, ⟨(some 53), .lenSl (.t 52), none⟩, ⟨(some 6), .mv (.t 53), none⟩])
 (.seq (.reg [⟨(some 54), .mv (.t 3), none⟩, ⟨(some 55), .buildSl [(.cpx 0 0)] 1 1 [(0, 1, (.c (.cpx 4651892959631900672 0)))] 33, none⟩, ⟨(some 56), .app (.t 54) (.t 55) 1 16 33, none⟩, ⟨(some 57), .mv (.t 6), none⟩, ⟨(some 58), .slSl (.t 56) none (some (.t 57)) none 1, none⟩, ⟨(some 2), .mv (.t 58), none⟩])
 .ret))
def b_law11_taps : AC := (.seq (.reg [⟨(some 2), .mv (.c .nilSl), none⟩])
 (.seq (.reg [⟨(some 3), .mv (.c .nilSl), none⟩])
 (.seq (.seq (.reg [⟨(some 4), .mv (.c (.int .i64 (0))), none⟩])
 (.block 0 (.loop c_law11_taps_L0)))
 c_law11_taps_R1)))
def c_law11_taps : AFun := .code 59 [(.tmp 2)] b_law11_taps
def b_ref11_New : AC := (.seq (.reg [⟨(some 4), .mv (.c .nilPtr), none⟩, ⟨(some 5), .mv (.c (.int .i64 (0))), none⟩])
 (.seq (.reg [⟨(some 9), .mv (.t 0), none⟩, ⟨(some 10), .call f_ref04_Edge [(.t 9)], none⟩, ⟨(some 8), .mv (.t 10), none⟩, ⟨(some 11), .extract (.t 8) 0, none⟩, ⟨(some 12), .extract (.t 8) 1, none⟩, ⟨(some 6), .mv (.t 11), none⟩, ⟨(some 7), .mv (.t 12), none⟩])
 (.seq (.seq (.reg [⟨(some 13), .mv (.t 7), none⟩, ⟨(some 14), .bin .neq (.t 13) (.c (.int .i64 (0))), none⟩])
 (.cond (.t 14) (.seq (.reg [⟨(some 4), .mv (.c .nilPtr), none⟩, ⟨(some 5), .mv (.c (.int .i64 (1))), none⟩])
 .ret)
 .skip))
 (.seq (.reg [⟨(some 15), .mv (.t 1), none⟩, ⟨(some 16), .call f_ref11_Check [(.t 15)], none⟩, ⟨(some 7), .mv (.t 16), none⟩])
 (.seq (.seq (.reg [⟨(some 17), .mv (.t 7), none⟩, ⟨(some 18), .bin .neq (.t 17) (.c (.int .i64 (0))), none⟩])
 (.cond (.t 18) (.seq (.reg [⟨(some 19), .mv (.t 7), none⟩, ⟨(some 4), .mv (.c .nilPtr), none⟩, ⟨(some 5), .mv (.t 19), none⟩])
 .ret)
 .skip))
 (.seq (.reg [⟨(some 20), .mv (.t 0), none⟩, ⟨(some 21), .buildSl [] 1 0 [] 33, none⟩, ⟨(some 22), .mv (.t 1), none⟩, ⟨(some 23), .app (.t 21) (.t 22) 1 16 33, none⟩, ⟨(some 24), .build [(.int .i64 (0)), .nilSl, .nilSl, (.bool false), (.bool false), (.cpx 0 0)] [(0, 1, (.t 20)), (1, 1, (.t 23))], none⟩, ⟨(some 25), .box (.t 24) 56, none⟩, ⟨(some 4), .mv (.t 25), none⟩, ⟨(some 5), .mv (.c (.int .i64 (0))), none⟩])
 .ret))))))
def c_ref11_New : AFun := .code 26 [(.tmp 4), (.tmp 5)] b_ref11_New
def b_feedback_New : AC := (.seq (.reg [⟨(some 4), .mv (.c .nilPtr), none⟩, ⟨(some 5), .mv (.c (.int .i64 (0))), none⟩])
 (.seq (.seq (.reg [⟨(some 11), .mv (.t 0), none⟩, ⟨(some 12), .call f_points_Edge [(.t 11)], none⟩, ⟨(some 10), .mv (.t 12), none⟩, ⟨(some 13), .extract (.t 10) 0, none⟩, ⟨(some 14), .extract (.t 10) 1, none⟩, ⟨(some 6), .mv (.t 13), none⟩, ⟨(some 7), .mv (.t 14), none⟩])
 (.seq (.reg [⟨(some 15), .mv (.t 7), none⟩, ⟨(some 16), .bin .neq (.t 15) (.c (.int .i64 (0))), none⟩])
 (.cond (.t 16) (.seq (.reg [⟨(some 4), .mv (.c .nilPtr), none⟩, ⟨(some 5), .mv (.c (.int .i64 (1))), none⟩])
 .ret)
 .skip)))
 (.seq (.seq (.reg [⟨(some 17), .mv (.t 1), none⟩, ⟨(some 18), .call f_feedback_Check [(.t 17)], none⟩, ⟨(some 8), .mv (.t 18), none⟩])
 (.seq (.reg [⟨(some 19), .mv (.t 8), none⟩, ⟨(some 20), .bin .neq (.t 19) (.c (.int .i64 (0))), none⟩])
 (.cond (.t 20) (.seq (.reg [⟨(some 21), .mv (.t 8), none⟩, ⟨(some 4), .mv (.c .nilPtr), none⟩, ⟨(some 5), .mv (.t 21), none⟩])
 .ret)
 .skip)))
 (.seq (.reg [⟨(some 22), .mv (.t 0), none⟩, ⟨(some 23), .mv (.t 1), none⟩, ⟨(some 24), .lenSl (.t 23), none⟩, ⟨(some 25), .build [(.int .i64 (0)), (.cpx 0 0), (.cpx 0 0), (.cpx 0 0), (.cpx 0 0), (.cpx 0 0), (.cpx 0 0), (.cpx 0 0), (.cpx 0 0), (.cpx 0 0), (.cpx 0 0), (.cpx 0 0), (.cpx 0 0), (.cpx 0 0), (.cpx 0 0), (.cpx 0 0), (.cpx 0 0), (.cpx 0 0), (.cpx 0 0), (.cpx 0 0), (.cpx 0 0), (.cpx 0 0), (.cpx 0 0), (.cpx 0 0), (.cpx 0 0), (.cpx 0 0), (.cpx 0 0), (.cpx 0 0), (.cpx 0 0), (.cpx 0 0), (.cpx 0 0), (.cpx 0 0), (.cpx 0 0), (.cpx 0 0), (.cpx 0 0), (.cpx 0 0), (.cpx 0 0), (.cpx 0 0), (.cpx 0 0), (.cpx 0 0), (.cpx 0 0), (.cpx 0 0), (.cpx 0 0), (.cpx 0 0), (.cpx 0 0), (.cpx 0 0), (.cpx 0 0), (.cpx 0 0), (.cpx 0 0), (.cpx 0 0), (.cpx 0 0), (.cpx 0 0), (.cpx 0 0), (.cpx 0 0), (.cpx 0 0), (.cpx 0 0), (.cpx 0 0), (.cpx 0 0), (.cpx 0 0), (.cpx 0 0), (.cpx 0 0), (.cpx 0 0), (.cpx 0 0), (.cpx 0 0), (.cpx 0 0), (.cpx 0 0), (.cpx 0 0), (.cpx 0 0), (.cpx 0 0), (.cpx 0 0), (.cpx 0 0), (.cpx 0 0), (.cpx 0 0), (.cpx 0 0), (.cpx 0 0), (.cpx 0 0), (.cpx 0 0), (.cpx 0 0), (.cpx 0 0), (.cpx 0 0), (.cpx 0 0), (.cpx 0 0), (.cpx 0 0), (.cpx 0 0), (.cpx 0 0), (.cpx 0 0), (.cpx 0 0), (.cpx 0 0), (.cpx 0 0), (.cpx 0 0), (.cpx 0 0), (.cpx 0 0), (.cpx 0 0), (.cpx 0 0), (.cpx 0 0), (.cpx 0 0), (.cpx 0 0), (.cpx 0 0), (.cpx 0 0), (.cpx 0 0), (.cpx 0 0), (.cpx 0 0), (.cpx 0 0), (.cpx 0 0), (.cpx 0 0), (.cpx 0 0), (.cpx 0 0), (.cpx 0 0), (.cpx 0 0), (.cpx 0 0), (.cpx 0 0), (.cpx 0 0), (.cpx 0 0), (.cpx 0 0), (.cpx 0 0), (.cpx 0 0), (.cpx 0 0), (.cpx 0 0), (.cpx 0 0), (.cpx 0 0), (.cpx 0 0), (.cpx 0 0), (.cpx 0 0), (.cpx 0 0), (.cpx 0 0), (.cpx 0 0), (.cpx 0 0), (.cpx 0 0), (.cpx 0 0), (.int .i64 (0)), (.int .i64 (0)), (.flt 0), (.int .i64 (0)), (.bool false), (.bool false), (.cpx 0 0)] [(0, 1, (.t 22)), (129, 1, (.t 24))], none⟩, ⟨(some 26), .box (.t 25) 97, none⟩, ⟨(some 9), .mv (.t 26), none⟩])
 (.seq (.reg [⟨(some 27), .mv (.t 9), none⟩, ⟨(some 28), .nilck (.t 27), none⟩, ⟨(some 29), .fieldAddr (.t 28) 1, none⟩, ⟨(some 30), .slArr (.t 29) none none none 64 1, none⟩, ⟨(some 31), .mv (.t 1), none⟩, ⟨(some 32), .copy (.t 30) (.t 31) 1, none⟩])
 (.seq (.reg [⟨(some 34), .mv (.t 9), none⟩, ⟨(some 35), .mv (.t 9), none⟩, ⟨(some 36), .mv (.t 1), none⟩, ⟨(some 37), .indexSl (.t 36) (.c (.int .i64 (0))) 1, none⟩, ⟨(some 38), .load (.t 37) 1 false, none⟩, ⟨(some 39), .call f_feedback_first [(.t 38)], none⟩, ⟨(some 33), .mv (.t 39), none⟩, ⟨(some 40), .extract (.t 33) 0, none⟩, ⟨(some 41), .extract (.t 33) 1, none⟩, ⟨(some 42), .extract (.t 33) 2, none⟩, ⟨(some 43), .nilck (.t 34), none⟩, ⟨(some 44), .fieldAddr (.t 43) 131, none⟩, ⟨none, .store (.t 44) (.t 40) 1, none⟩, ⟨(some 45), .nilck (.t 35), none⟩, ⟨(some 46), .fieldAddr (.t 45) 132, none⟩, ⟨none, .store (.t 46) (.t 41) 1, none⟩])
 (.seq (.reg [⟨(some 47), .mv (.t 9), none⟩, ⟨(some 4), .mv (.t 47), none⟩, ⟨(some 5), .mv (.c (.int .i64 (0))), none⟩])
 .ret)))))))
def c_feedback_New : AFun := .code 48 [(.tmp 4), (.tmp 5)] b_feedback_New
def c_law11_samples_L0 : AC := (.seq (.seq (.reg [⟨(some 6), .mv (.t 4), none⟩, ⟨(some 7), .mv (.t 0), none⟩, ⟨(some 8), .lenSl (.t 7), none⟩, ⟨(some 9), .bin .lss (.t 6) (.t 8), none⟩])
 (.cond (.t 9) .skip
 (.exit 0)))
 (.seq (.block 1 (dr [(⟨(some 12), .mv (.t 3), none⟩, .plain), (⟨(some 13), .mv (.t 0), none⟩, .plain), (⟨(some 14), .mv (.t 4), none⟩, .plain), (⟨(some 15), .indexSl (.t 13) (.t 14) 3, none⟩, .plain), (⟨(some 16), .fieldAddr (.t 15) 0, none⟩, .plain), (⟨(some 17), .load (.t 16) 1 false, none⟩, .alone), (⟨(some 18), .conv .toFlt (.t 17), none⟩, .plain), (⟨(some 19), .bin .quo (.t 18) (.c (.flt 4661225614328463360)), none⟩, .plain), (⟨(some 20), .mv (.t 0), none⟩, .plain), (⟨(some 21), .mv (.t 4), none⟩, .plain), (⟨(some 22), .indexSl (.t 20) (.t 21) 3, none⟩, .plain), (⟨(some 23), .fieldAddr (.t 22) 1, none⟩, .plain), (⟨(some 24), .load (.t 23) 1 false, none⟩, .alone), (⟨(some 25), .conv .toFlt (.t 24), none⟩, .plain), (⟨(some 26), .bin .quo (.t 25) (.c (.flt 4661225614328463360)), none⟩, .plain), (⟨(some 27), .cplx (.t 19) (.t 26), none⟩, .plain), (⟨(some 28), .mv (.t 0), none⟩, .plain), (⟨(some 29), .mv (.t 4), none⟩, .plain), (⟨(some 30), .indexSl (.t 28) (.t 29) 3, none⟩, .plain), (⟨(some 31), .fieldAddr (.t 30) 2, none⟩, .plain), (⟨(some 32), .load (.t 31) 1 false, none⟩, .alone), (⟨(some 33), .build [(.cpx 0 0), (.bool false)] [(0, 1, (.t 27)), (1, 1, (.t 32))], none⟩, .plain), (⟨(some 34), .buildSl [(.cpx 0 0), (.bool false)] 2 1 [(0, 2, (.t 33))] 39, none⟩, .plain), (⟨(some 35), .app (.t 12) (.t 34) 2 24 39, none⟩, .plain), (⟨(some 3), .mv (.t 35), none⟩, .plain)]))
 (.reg [⟨(some 10), .mv (.t 4), none⟩, ⟨(some 11), .bin .add (.t 10) (.c (.int .i64 (1))), none⟩, ⟨(some 4), .mv (.t 11), none⟩])))
def c_law11_samples_R1 : AC := (.seq (.reg [⟨(some 36), .mv (.t 3), none⟩, ⟨(some 37), .lenSl (.t 36), none⟩, ⟨(some 5), .mv (.t 37), none⟩])
 (.seq (.reg [⟨(some 38), .mv (.t 3), none⟩, ⟨(some 39), .build [(.cpx 0 0), (.bool false)] [(0, 1, (.c (.cpx 4651892959631900672 0)))], none⟩, ⟨(some 40), .buildSl [(.cpx 0 0), (.bool false)] 2 1 [(0, 2, (.t 39))] 39, none⟩, ⟨(some 41), .app (.t 38) (.t 40) 2 24 39, none⟩, ⟨(some 42), .mv (.t 5), none⟩, ⟨(some 43), .slSl (.t 41) none (some (.t 42)) none 2, none⟩, ⟨(some 2), .mv (.t 43), none⟩])
 .ret))
def b_law11_samples : AC := (.seq (.reg [⟨(some 2), .mv (.c .nilSl), none⟩])
 (.seq (.reg [⟨(some 3), .mv (.c .nilSl), none⟩])
 (.seq (.seq (.reg [⟨(some 4), .mv (.c (.int .i64 (0))), none⟩])
 (.block 0 (.loop c_law11_samples_L0)))
 c_law11_samples_R1)))
def c_law11_samples : AFun := .code 44 [(.tmp 2)] b_law11_samples
def c_ref11_Loop_Step_L0 : AC := (.seq (.seq (.reg [⟨(some 31), .mv (.t 7), none⟩, ⟨(some 32), .mv (.t 0), none⟩, ⟨(some 33), .nilck (.t 32), none⟩, ⟨(some 34), .fieldAddr (.t 33) 1, none⟩, ⟨(some 35), .load (.t 34) 1 false, none⟩, ⟨(some 36), .lenSl (.t 35), none⟩, ⟨(some 37), .bin .lss (.t 31) (.t 36), none⟩, ⟨(some 38), .mv (.t 37), none⟩, ⟨(some 39), .mv (.t 7), (some (38, true))⟩, ⟨(some 40), .mv (.t 0), (some (38, true))⟩, ⟨(some 41), .nilck (.t 40), (some (38, true))⟩, ⟨(some 42), .fieldAddr (.t 41) 2, (some (38, true))⟩, ⟨(some 43), .load (.t 42) 1 false, (some (38, true))⟩, ⟨(some 44), .lenSl (.t 43), (some (38, true))⟩, ⟨(some 45), .bin .leq (.t 39) (.t 44), (some (38, true))⟩, ⟨(some 46), .pick (.t 38) (.t 45) (.c (.bool false)), none⟩])
 (.cond (.t 46) .skip
 (.exit 0)))
 (.seq (.block 1 (.seq (dr [(⟨(some 49), .mv (.t 0), none⟩, .plain), (⟨(some 50), .nilck (.t 49), none⟩, .plain), (⟨(some 51), .fieldAddr (.t 50) 1, none⟩, .plain), (⟨(some 52), .load (.t 51) 1 false, none⟩, .alone), (⟨(some 53), .mv (.t 7), none⟩, .plain), (⟨(some 54), .indexSl (.t 52) (.t 53) 1, none⟩, .plain), (⟨(some 55), .load (.t 54) 1 false, none⟩, .alone), (⟨(some 56), .mv (.t 0), none⟩, .plain), (⟨(some 57), .nilck (.t 56), none⟩, .plain), (⟨(some 58), .fieldAddr (.t 57) 2, none⟩, .plain), (⟨(some 59), .load (.t 58) 1 false, none⟩, .alone), (⟨(some 60), .mv (.t 0), none⟩, .plain), (⟨(some 61), .nilck (.t 60), none⟩, .plain), (⟨(some 62), .fieldAddr (.t 61) 2, none⟩, .plain), (⟨(some 63), .load (.t 62) 1 false, none⟩, .alone), (⟨(some 64), .lenSl (.t 63), none⟩, .plain), (⟨(some 65), .mv (.t 7), none⟩, .plain), (⟨(some 66), .bin .sub (.t 64) (.t 65), none⟩, .plain), (⟨(some 67), .indexSl (.t 59) (.t 66) 1, none⟩, .plain), (⟨(some 68), .load (.t 67) 1 false, none⟩, .alone), (⟨(some 69), .call f_ref11_mul [(.t 55), (.t 68)], none⟩, .plain), (⟨(some 8), .mv (.t 69), none⟩, .plain)])
 (.reg [⟨(some 70), .mv (.t 6), none⟩, ⟨(some 71), .real (.t 70), none⟩, ⟨(some 72), .mv (.t 8), none⟩, ⟨(some 73), .real (.t 72), none⟩, ⟨(some 74), .bin .sub (.t 71) (.t 73), none⟩, ⟨(some 75), .mv (.t 6), none⟩, ⟨(some 76), .imag (.t 75), none⟩, ⟨(some 77), .mv (.t 8), none⟩, ⟨(some 78), .imag (.t 77), none⟩, ⟨(some 79), .bin .sub (.t 76) (.t 78), none⟩, ⟨(some 80), .cplx (.t 74) (.t 79), none⟩, ⟨(some 6), .mv (.t 80), none⟩])))
 (.reg [⟨(some 47), .mv (.t 7), none⟩, ⟨(some 48), .bin .add (.t 47) (.c (.int .i64 (1))), none⟩, ⟨(some 7), .mv (.t 48), none⟩])))
def c_ref11_Loop_Step_R1 : AC := (.seq (.reg [⟨(some 82), .mv (.t 0), none⟩, ⟨(some 83), .nilck (.t 82), none⟩, ⟨(some 84), .fieldAddr (.t 83) 1, none⟩, ⟨(some 85), .load (.t 84) 1 false, none⟩, ⟨(some 86), .indexSl (.t 85) (.c (.int .i64 (0))) 1, none⟩, ⟨(some 87), .load (.t 86) 1 false, none⟩, ⟨(some 88), .call f_ref11_First [(.t 87)], none⟩, ⟨(some 81), .mv (.t 88), none⟩, ⟨(some 89), .extract (.t 81) 0, none⟩, ⟨(some 90), .extract (.t 81) 1, none⟩, ⟨(some 9), .mv (.t 89), none⟩, ⟨(some 10), .mv (.t 90), none⟩])
 (.seq (.reg [⟨(some 91), .mv (.t 6), none⟩, ⟨(some 92), .mv (.t 10), none⟩, ⟨(some 93), .bin .sub (.c (.int .i64 (4))) (.t 92), none⟩, ⟨(some 94), .bin .rem (.t 93) (.c (.int .i64 (4))), none⟩, ⟨(some 95), .call f_ref11_Turn [(.t 91), (.t 94)], none⟩, ⟨(some 6), .mv (.t 95), none⟩])
 (.seq (.reg [⟨(some 96), .mv (.t 0), none⟩, ⟨(some 97), .mv (.t 6), none⟩, ⟨(some 98), .real (.t 97), none⟩, ⟨(some 99), .mv (.t 9), none⟩, ⟨(some 100), .bin .quo (.t 98) (.t 99), none⟩, ⟨(some 101), .mv (.t 6), none⟩, ⟨(some 102), .imag (.t 101), none⟩, ⟨(some 103), .mv (.t 9), none⟩, ⟨(some 104), .bin .quo (.t 102) (.t 103), none⟩, ⟨(some 105), .cplx (.t 100) (.t 104), none⟩, ⟨(some 106), .nilck (.t 96), none⟩, ⟨(some 107), .fieldAddr (.t 106) 5, none⟩, ⟨none, .store (.t 107) (.t 105) 1, none⟩])
 (.seq (.reg [⟨(some 108), .mv (.t 0), none⟩, ⟨(some 109), .nilck (.t 108), none⟩, ⟨(some 110), .fieldAddr (.t 109) 4, none⟩, ⟨none, .store (.t 110) (.c (.bool true)) 1, none⟩])
 (.seq (dr [(⟨(some 112), .mv (.t 0), none⟩, .plain), (⟨(some 113), .nilck (.t 112), none⟩, .plain), (⟨(some 114), .fieldAddr (.t 113) 0, none⟩, .plain), (⟨(some 115), .load (.t 114) 1 false, none⟩, .quiet), (⟨(some 116), .mv (.t 0), none⟩, .plain), (⟨(some 117), .nilck (.t 116), none⟩, .plain), (⟨(some 118), .fieldAddr (.t 117) 5, none⟩, .plain), (⟨(some 119), .load (.t 118) 1 false, none⟩, .quiet), (⟨(some 120), .call f_ref05_Decide [(.t 115), (.t 119)], none⟩, .mark), (⟨(some 111), .mv (.t 120), none⟩, .plain), (⟨(some 121), .extract (.t 111) 0, none⟩, .plain), (⟨(some 122), .extract (.t 111) 1, none⟩, .plain), (⟨(some 11), .alloc [(.int .i64 (0)), (.cpx 0 0), (.bool false)] 44, none⟩, .quiet), (⟨none, .store (.t 11) (.t 121) 3, none⟩, .plain), (⟨(some 12), .mv (.t 122), none⟩, .plain)])
 (.seq (dr [(⟨(some 123), .mv (.t 0), none⟩, .plain), (⟨(some 124), .mv (.t 0), none⟩, .plain), (⟨(some 125), .nilck (.t 124), none⟩, .plain), (⟨(some 126), .fieldAddr (.t 125) 2, none⟩, .plain), (⟨(some 127), .load (.t 126) 1 false, none⟩, .alone), (⟨(some 128), .fieldAddr (.t 11) 1, none⟩, .plain), (⟨(some 129), .load (.t 128) 1 false, none⟩, .alone), (⟨(some 130), .buildSl [(.cpx 0 0)] 1 1 [(0, 1, (.t 129))] 33, none⟩, .alone), (⟨(some 131), .app (.t 127) (.t 130) 1 16 33, none⟩, .plain), (⟨(some 132), .nilck (.t 123), none⟩, .plain), (⟨(some 133), .fieldAddr (.t 132) 2, none⟩, .plain), (⟨none, .store (.t 133) (.t 131) 1, none⟩, .plain)])
 (.seq (.reg [⟨(some 134), .load (.t 11) 3 true, none⟩, ⟨none, .store (.t 4) (.t 134) 3, none⟩, ⟨(some 5), .mv (.c (.int .i64 (0))), none⟩])
 .ret)))))))
def b_ref11_Loop_Step : AC := (.seq (.reg [⟨(some 3), .box (.t 1) 39, none⟩, ⟨(some 4), .alloc [(.int .i64 (0)), (.cpx 0 0), (.bool false)] 44, none⟩, ⟨(some 5), .mv (.c (.int .i64 (0))), none⟩])
 (.seq (.seq (.reg [⟨(some 13), .load (.t 3) 2 true, none⟩, ⟨(some 14), .call f_ref02_May [(.t 13)], none⟩, ⟨(some 15), .un .not (.t 14), none⟩])
 (.cond (.t 15) (.seq (.reg [⟨(some 16), .build [(.int .i64 (0)), (.cpx 0 0), (.bool false)] [], none⟩, ⟨none, .store (.t 4) (.t 16) 3, none⟩, ⟨(some 5), .mv (.c (.int .i64 (7))), none⟩])
 .ret)
 .skip))
 (.seq (.seq (.reg [⟨(some 17), .mv (.t 0), none⟩, ⟨(some 18), .nilck (.t 17), none⟩, ⟨(some 19), .fieldAddr (.t 18) 3, none⟩, ⟨(some 20), .load (.t 19) 1 false, none⟩, ⟨(some 21), .mv (.t 20), none⟩, ⟨(some 22), .fieldAddr (.t 3) 1, (some (21, false))⟩, ⟨(some 23), .load (.t 22) 1 false, (some (21, false))⟩, ⟨(some 24), .pick (.t 21) (.c (.bool true)) (.t 23), none⟩])
 (.cond (.t 24) (.seq (.reg [⟨(some 25), .mv (.t 0), none⟩, ⟨(some 26), .nilck (.t 25), none⟩, ⟨(some 27), .fieldAddr (.t 26) 3, none⟩, ⟨none, .store (.t 27) (.c (.bool true)) 1, none⟩])
 (.seq (.reg [⟨(some 28), .build [(.int .i64 (0)), (.cpx 0 0), (.bool false)] [(2, 1, (.c (.bool true)))], none⟩, ⟨none, .store (.t 4) (.t 28) 3, none⟩, ⟨(some 5), .mv (.c (.int .i64 (0))), none⟩])
 .ret))
 .skip))
 (.seq (.reg [⟨(some 29), .fieldAddr (.t 3) 0, none⟩, ⟨(some 30), .load (.t 29) 1 false, none⟩, ⟨(some 6), .mv (.t 30), none⟩])
 (.seq (.seq (.reg [⟨(some 7), .mv (.c (.int .i64 (1))), none⟩])
 (.block 0 (.loop c_ref11_Loop_Step_L0)))
 c_ref11_Loop_Step_R1)))))
def c_ref11_Loop_Step : AFun := .code 135 [(.cell 4 3 true), (.tmp 5)] b_ref11_Loop_Step
def c_feedback_Loop_Step_L0 : AC := (.seq (.seq (.reg [⟨(some 47), .mv (.t 10), none⟩, ⟨(some 48), .mv (.t 0), none⟩, ⟨(some 49), .nilck (.t 48), none⟩, ⟨(some 50), .fieldAddr (.t 49) 129, none⟩, ⟨(some 51), .load (.t 50) 1 false, none⟩, ⟨(some 52), .bin .lss (.t 47) (.t 51), none⟩])
 (.cond (.t 52) .skip
 (.exit 0)))
 (.seq (.block 1 (.seq (dr [(⟨(some 56), .mv (.t 0), none⟩, .plain), (⟨(some 57), .mv (.t 10), none⟩, .plain), (⟨(some 58), .nilck (.t 56), none⟩, .plain), (⟨(some 59), .fieldAddr (.t 58) 1, none⟩, .plain), (⟨(some 60), .indexArr (.t 59) (.t 57) 64 1, none⟩, .plain), (⟨(some 61), .load (.t 60) 1 false, none⟩, .alone), (⟨(some 62), .mv (.t 0), none⟩, .plain), (⟨(some 63), .mv (.t 0), none⟩, .plain), (⟨(some 64), .nilck (.t 63), none⟩, .plain), (⟨(some 65), .fieldAddr (.t 64) 130, none⟩, .plain), (⟨(some 66), .load (.t 65) 1 false, none⟩, .alone), (⟨(some 67), .mv (.t 10), none⟩, .plain), (⟨(some 68), .bin .sub (.t 66) (.t 67), none⟩, .plain), (⟨(some 69), .bin .add (.t 68) (.c (.int .i64 (64))), none⟩, .plain), (⟨(some 70), .bin .rem (.t 69) (.c (.int .i64 (64))), none⟩, .plain), (⟨(some 71), .nilck (.t 62), none⟩, .plain), (⟨(some 72), .fieldAddr (.t 71) 65, none⟩, .plain), (⟨(some 73), .indexArr (.t 72) (.t 70) 64 1, none⟩, .plain), (⟨(some 74), .load (.t 73) 1 false, none⟩, .alone), (⟨(some 75), .call f_feedback_times [(.t 61), (.t 74)], none⟩, .plain), (⟨(some 55), .mv (.t 75), none⟩, .plain), (⟨(some 76), .extract (.t 55) 0, none⟩, .plain), (⟨(some 77), .extract (.t 55) 1, none⟩, .plain), (⟨(some 11), .mv (.t 76), none⟩, .plain), (⟨(some 12), .mv (.t 77), none⟩, .plain)])
 (.seq (.reg [⟨(some 78), .mv (.t 8), none⟩, ⟨(some 79), .mv (.t 11), none⟩, ⟨(some 80), .bin .sub (.t 78) (.t 79), none⟩, ⟨(some 8), .mv (.t 80), none⟩])
 (.reg [⟨(some 81), .mv (.t 9), none⟩, ⟨(some 82), .mv (.t 12), none⟩, ⟨(some 83), .bin .sub (.t 81) (.t 82), none⟩, ⟨(some 9), .mv (.t 83), none⟩]))))
 (.reg [⟨(some 53), .mv (.t 10), none⟩, ⟨(some 54), .bin .add (.t 53) (.c (.int .i64 (1))), none⟩, ⟨(some 10), .mv (.t 54), none⟩])))
def c_feedback_Loop_Step_R1 : AC := (.seq (.reg [⟨(some 84), .mv (.t 8), none⟩, ⟨(some 85), .mv (.t 9), none⟩, ⟨(some 86), .cplx (.t 84) (.t 85), none⟩, ⟨(some 87), .mv (.t 0), none⟩, ⟨(some 88), .nilck (.t 87), none⟩, ⟨(some 89), .fieldAddr (.t 88) 132, none⟩, ⟨(some 90), .load (.t 89) 1 false, none⟩, ⟨(some 91), .call f_feedback_turned [(.t 86), (.t 90)], none⟩, ⟨(some 13), .mv (.t 91), none⟩])
 (.seq (dr [(⟨(some 92), .mv (.t 0), none⟩, .plain), (⟨(some 93), .mv (.t 13), none⟩, .plain), (⟨(some 94), .real (.t 93), none⟩, .plain), (⟨(some 95), .mv (.t 0), none⟩, .plain), (⟨(some 96), .nilck (.t 95), none⟩, .plain), (⟨(some 97), .fieldAddr (.t 96) 131, none⟩, .plain), (⟨(some 98), .load (.t 97) 1 false, none⟩, .alone), (⟨(some 99), .bin .quo (.t 94) (.t 98), none⟩, .plain), (⟨(some 100), .mv (.t 13), none⟩, .plain), (⟨(some 101), .imag (.t 100), none⟩, .plain), (⟨(some 102), .mv (.t 0), none⟩, .plain), (⟨(some 103), .nilck (.t 102), none⟩, .plain), (⟨(some 104), .fieldAddr (.t 103) 131, none⟩, .plain), (⟨(some 105), .load (.t 104) 1 false, none⟩, .alone), (⟨(some 106), .bin .quo (.t 101) (.t 105), none⟩, .plain), (⟨(some 107), .cplx (.t 99) (.t 106), none⟩, .plain), (⟨(some 108), .nilck (.t 92), none⟩, .plain), (⟨(some 109), .fieldAddr (.t 108) 135, none⟩, .plain), (⟨none, .store (.t 109) (.t 107) 1, none⟩, .plain)])
 (.seq (.reg [⟨(some 110), .mv (.t 0), none⟩, ⟨(some 111), .nilck (.t 110), none⟩, ⟨(some 112), .fieldAddr (.t 111) 133, none⟩, ⟨none, .store (.t 112) (.c (.bool true)) 1, none⟩])
 (.seq (dr [(⟨(some 114), .mv (.t 0), none⟩, .plain), (⟨(some 115), .nilck (.t 114), none⟩, .plain), (⟨(some 116), .fieldAddr (.t 115) 0, none⟩, .plain), (⟨(some 117), .load (.t 116) 1 false, none⟩, .quiet), (⟨(some 118), .mv (.t 0), none⟩, .plain), (⟨(some 119), .nilck (.t 118), none⟩, .plain), (⟨(some 120), .fieldAddr (.t 119) 135, none⟩, .plain), (⟨(some 121), .load (.t 120) 1 false, none⟩, .quiet), (⟨(some 122), .call f_slice_Decide [(.t 117), (.t 121)], none⟩, .mark), (⟨(some 113), .mv (.t 122), none⟩, .plain), (⟨(some 123), .extract (.t 113) 0, none⟩, .plain), (⟨(some 124), .extract (.t 113) 1, none⟩, .plain), (⟨(some 14), .alloc [(.int .i64 (0)), (.cpx 0 0), (.bool false)] 47, none⟩, .quiet), (⟨none, .store (.t 14) (.t 123) 3, none⟩, .plain), (⟨(some 15), .mv (.t 124), none⟩, .plain)])
 (.seq (dr [(⟨(some 125), .mv (.t 0), none⟩, .plain), (⟨(some 126), .mv (.t 0), none⟩, .plain), (⟨(some 127), .nilck (.t 126), none⟩, .plain), (⟨(some 128), .fieldAddr (.t 127) 130, none⟩, .plain), (⟨(some 129), .load (.t 128) 1 false, none⟩, .alone), (⟨(some 130), .fieldAddr (.t 14) 1, none⟩, .plain), (⟨(some 131), .load (.t 130) 1 false, none⟩, .alone), (⟨(some 132), .nilck (.t 125), none⟩, .plain), (⟨(some 133), .fieldAddr (.t 132) 65, none⟩, .plain), (⟨(some 134), .indexArr (.t 133) (.t 129) 64 1, none⟩, .plain), (⟨none, .store (.t 134) (.t 131) 1, none⟩, .plain)])
 (.seq (.reg [⟨(some 135), .mv (.t 0), none⟩, ⟨(some 136), .mv (.t 0), none⟩, ⟨(some 137), .nilck (.t 136), none⟩, ⟨(some 138), .fieldAddr (.t 137) 130, none⟩, ⟨(some 139), .load (.t 138) 1 false, none⟩, ⟨(some 140), .bin .add (.t 139) (.c (.int .i64 (1))), none⟩, ⟨(some 141), .bin .rem (.t 140) (.c (.int .i64 (64))), none⟩, ⟨(some 142), .nilck (.t 135), none⟩, ⟨(some 143), .fieldAddr (.t 142) 130, none⟩, ⟨none, .store (.t 143) (.t 141) 1, none⟩])
 (.seq (.reg [⟨(some 144), .load (.t 14) 3 true, none⟩, ⟨(some 145), .mv (.t 15), none⟩, ⟨none, .store (.t 4) (.t 144) 3, none⟩, ⟨(some 5), .mv (.t 145), none⟩])
 .ret)))))))
def b_feedback_Loop_Step : AC := (.seq (.reg [⟨(some 3), .box (.t 1) 39, none⟩, ⟨(some 4), .alloc [(.int .i64 (0)), (.cpx 0 0), (.bool false)] 47, none⟩, ⟨(some 5), .mv (.c (.int .i64 (0))), none⟩])
 (.seq (.seq (.reg [⟨(some 16), .mv (.t 0), none⟩, ⟨(some 17), .eq false (.prim .ptr) (.t 16) (.c .nilPtr), none⟩])
 (.cond (.t 17) (.seq (.reg [⟨(some 18), .build [(.int .i64 (0)), (.cpx 0 0), (.bool false)] [], none⟩, ⟨none, .store (.t 4) (.t 18) 3, none⟩, ⟨(some 5), .mv (.c (.int .i64 (2))), none⟩])
 .ret)
 .skip))
 (.seq (.seq (.reg [⟨(some 20), .load (.t 3) 2 true, none⟩, ⟨(some 21), .buildSl [(.cpx 0 0), (.bool false)] 2 1 [(0, 2, (.t 20))] 39, none⟩, ⟨(some 22), .call f_grid_Check [(.t 21)], none⟩, ⟨(some 19), .mv (.t 22), none⟩, ⟨(some 23), .extract (.t 19) 0, none⟩, ⟨(some 24), .extract (.t 19) 1, none⟩, ⟨(some 6), .mv (.t 23), none⟩, ⟨(some 7), .mv (.t 24), none⟩])
 (.seq (.reg [⟨(some 25), .mv (.t 7), none⟩, ⟨(some 26), .bin .neq (.t 25) (.c (.int .i64 (0))), none⟩])
 (.cond (.t 26) (.seq (.reg [⟨(some 27), .build [(.int .i64 (0)), (.cpx 0 0), (.bool false)] [], none⟩, ⟨(some 28), .mv (.t 7), none⟩, ⟨none, .store (.t 4) (.t 27) 3, none⟩, ⟨(some 5), .mv (.t 28), none⟩])
 .ret)
 .skip)))
 (.seq (.seq (.reg [⟨(some 29), .mv (.t 0), none⟩, ⟨(some 30), .nilck (.t 29), none⟩, ⟨(some 31), .fieldAddr (.t 30) 134, none⟩, ⟨(some 32), .load (.t 31) 1 false, none⟩, ⟨(some 33), .mv (.t 32), none⟩, ⟨(some 34), .fieldAddr (.t 3) 1, (some (33, false))⟩, ⟨(some 35), .load (.t 34) 1 false, (some (33, false))⟩, ⟨(some 36), .pick (.t 33) (.c (.bool true)) (.t 35), none⟩])
 (.cond (.t 36) (.seq (.reg [⟨(some 37), .mv (.t 0), none⟩, ⟨(some 38), .nilck (.t 37), none⟩, ⟨(some 39), .fieldAddr (.t 38) 134, none⟩, ⟨none, .store (.t 39) (.c (.bool true)) 1, none⟩])
 (.seq (.reg [⟨(some 40), .build [(.int .i64 (0)), (.cpx 0 0), (.bool false)] [(2, 1, (.c (.bool true)))], none⟩, ⟨none, .store (.t 4) (.t 40) 3, none⟩, ⟨(some 5), .mv (.c (.int .i64 (0))), none⟩])
 .ret))
 .skip))
 (.seq (dr [(⟨(some 41), .fieldAddr (.t 3) 0, none⟩, .plain), (⟨(some 42), .load (.t 41) 1 false, none⟩, .alone), (⟨(some 43), .real (.t 42), none⟩, .plain), (⟨(some 44), .fieldAddr (.t 3) 0, none⟩, .plain), (⟨(some 45), .load (.t 44) 1 false, none⟩, .alone), (⟨(some 46), .imag (.t 45), none⟩, .plain), (⟨(some 8), .mv (.t 43), none⟩, .plain), (⟨(some 9), .mv (.t 46), none⟩, .plain)])
 (.seq (.seq (.reg [⟨(some 10), .mv (.c (.int .i64 (1))), none⟩])
 (.block 0 (.loop c_feedback_Loop_Step_L0)))
 c_feedback_Loop_Step_R1))))))
def c_feedback_Loop_Step : AFun := .code 146 [(.cell 4 3 true), (.tmp 5)] b_feedback_Loop_Step
def b_law11_alike : AC := (.seq (.reg [⟨(some 2), .box (.t 0) 47, none⟩, ⟨(some 3), .box (.t 1) 44, none⟩, ⟨(some 4), .mv (.c (.bool false)), none⟩])
 (.seq (.reg [⟨(some 5), .fieldAddr (.t 2) 0, none⟩, ⟨(some 6), .load (.t 5) 1 false, none⟩, ⟨(some 7), .fieldAddr (.t 3) 0, none⟩, ⟨(some 8), .load (.t 7) 1 false, none⟩, ⟨(some 9), .bin .eql (.t 6) (.t 8), none⟩, ⟨(some 10), .mv (.t 9), none⟩, ⟨(some 11), .fieldAddr (.t 2) 1, (some (10, true))⟩, ⟨(some 12), .load (.t 11) 1 false, (some (10, true))⟩, ⟨(some 13), .fieldAddr (.t 3) 1, (some (10, true))⟩, ⟨(some 14), .load (.t 13) 1 false, (some (10, true))⟩, ⟨(some 15), .bin .eql (.t 12) (.t 14), (some (10, true))⟩, ⟨(some 16), .pick (.t 10) (.t 15) (.c (.bool false)), none⟩, ⟨(some 17), .mv (.t 16), none⟩, ⟨(some 18), .fieldAddr (.t 2) 2, (some (17, true))⟩, ⟨(some 19), .load (.t 18) 1 false, (some (17, true))⟩, ⟨(some 20), .fieldAddr (.t 3) 2, (some (17, true))⟩, ⟨(some 21), .load (.t 20) 1 false, (some (17, true))⟩, ⟨(some 22), .eq false (.prim .bool) (.t 19) (.t 21), (some (17, true))⟩, ⟨(some 23), .pick (.t 17) (.t 22) (.c (.bool false)), none⟩, ⟨(some 4), .mv (.t 23), none⟩])
 .ret))
def c_law11_alike : AFun := .code 24 [(.tmp 4)] b_law11_alike
def b_ref11_Loop_Reset : AC := (.seq (.reg [⟨(some 2), .mv (.t 0), none⟩, ⟨(some 3), .nilck (.t 2), none⟩, ⟨(some 4), .fieldAddr (.t 3) 2, none⟩, ⟨none, .store (.t 4) (.c .nilSl) 1, none⟩])
 (.seq (.reg [⟨(some 5), .mv (.t 0), none⟩, ⟨(some 6), .nilck (.t 5), none⟩, ⟨(some 7), .fieldAddr (.t 6) 3, none⟩, ⟨none, .store (.t 7) (.c (.bool false)) 1, none⟩])
 (.reg [⟨(some 8), .mv (.t 0), none⟩, ⟨(some 9), .nilck (.t 8), none⟩, ⟨(some 10), .fieldAddr (.t 9) 4, none⟩, ⟨none, .store (.t 10) (.c (.bool false)) 1, none⟩])))
def c_ref11_Loop_Reset : AFun := .code 11 [] b_ref11_Loop_Reset
def b_feedback_Loop_Reset : AC := (.seq (.reg [⟨(some 2), .mv (.c (.int .i64 (0))), none⟩])
 (.seq (.seq (.reg [⟨(some 3), .mv (.t 0), none⟩, ⟨(some 4), .eq false (.prim .ptr) (.t 3) (.c .nilPtr), none⟩])
 (.cond (.t 4) (.seq (.reg [⟨(some 2), .mv (.c (.int .i64 (2))), none⟩])
 .ret)
 .skip))
 (.seq (.reg [⟨(some 5), .mv (.t 0), none⟩, ⟨(some 6), .build [(.cpx 0 0), (.cpx 0 0), (.cpx 0 0), (.cpx 0 0), (.cpx 0 0), (.cpx 0 0), (.cpx 0 0), (.cpx 0 0), (.cpx 0 0), (.cpx 0 0), (.cpx 0 0), (.cpx 0 0), (.cpx 0 0), (.cpx 0 0), (.cpx 0 0), (.cpx 0 0), (.cpx 0 0), (.cpx 0 0), (.cpx 0 0), (.cpx 0 0), (.cpx 0 0), (.cpx 0 0), (.cpx 0 0), (.cpx 0 0), (.cpx 0 0), (.cpx 0 0), (.cpx 0 0), (.cpx 0 0), (.cpx 0 0), (.cpx 0 0), (.cpx 0 0), (.cpx 0 0), (.cpx 0 0), (.cpx 0 0), (.cpx 0 0), (.cpx 0 0), (.cpx 0 0), (.cpx 0 0), (.cpx 0 0), (.cpx 0 0), (.cpx 0 0), (.cpx 0 0), (.cpx 0 0), (.cpx 0 0), (.cpx 0 0), (.cpx 0 0), (.cpx 0 0), (.cpx 0 0), (.cpx 0 0), (.cpx 0 0), (.cpx 0 0), (.cpx 0 0), (.cpx 0 0), (.cpx 0 0), (.cpx 0 0), (.cpx 0 0), (.cpx 0 0), (.cpx 0 0), (.cpx 0 0), (.cpx 0 0), (.cpx 0 0), (.cpx 0 0), (.cpx 0 0), (.cpx 0 0)] [], none⟩, ⟨(some 7), .nilck (.t 5), none⟩, ⟨(some 8), .fieldAddr (.t 7) 65, none⟩, ⟨none, .store (.t 8) (.t 6) 64, none⟩])
 (.seq (.reg [⟨(some 9), .mv (.t 0), none⟩, ⟨(some 10), .mv (.t 0), none⟩, ⟨(some 11), .nilck (.t 9), none⟩, ⟨(some 12), .fieldAddr (.t 11) 133, none⟩, ⟨none, .store (.t 12) (.c (.bool false)) 1, none⟩, ⟨(some 13), .nilck (.t 10), none⟩, ⟨(some 14), .fieldAddr (.t 13) 134, none⟩, ⟨none, .store (.t 14) (.c (.bool false)) 1, none⟩])
 (.seq (.reg [⟨(some 2), .mv (.c (.int .i64 (0))), none⟩])
 .ret)))))
def c_feedback_Loop_Reset : AFun := .code 15 [(.tmp 2)] b_feedback_Loop_Reset
def b_feedback_Loop_Bare : AC := (.seq (.reg [⟨(some 2), .mv (.c (.cpx 0 0)), none⟩, ⟨(some 3), .mv (.c (.int .i64 (0))), none⟩])
 (.seq (.block 0 (.seq (.reg [⟨(some 5), .mv (.t 0), none⟩, ⟨(some 6), .eq false (.prim .ptr) (.t 5) (.c .nilPtr), none⟩, ⟨(some 4), .mv (.t 6), none⟩])
 (.cond (.t 4) (.seq (.reg [⟨(some 2), .mv (.c (.cpx 0 0)), none⟩, ⟨(some 3), .mv (.c (.int .i64 (2))), none⟩])
 .ret)
 (.seq (.reg [⟨(some 8), .mv (.t 0), none⟩, ⟨(some 9), .nilck (.t 8), none⟩, ⟨(some 10), .fieldAddr (.t 9) 133, none⟩, ⟨(some 11), .load (.t 10) 1 false, none⟩, ⟨(some 12), .un .not (.t 11), none⟩, ⟨(some 13), .mv (.t 12), none⟩, ⟨(some 14), .mv (.t 0), (some (13, false))⟩, ⟨(some 15), .nilck (.t 14), (some (13, false))⟩, ⟨(some 16), .fieldAddr (.t 15) 134, (some (13, false))⟩, ⟨(some 17), .load (.t 16) 1 false, (some (13, false))⟩, ⟨(some 18), .pick (.t 13) (.c (.bool true)) (.t 17), none⟩, ⟨(some 7), .mv (.t 18), none⟩])
 (.cond (.t 7) (.seq (.reg [⟨(some 2), .mv (.c (.cpx 0 0)), none⟩, ⟨(some 3), .mv (.c (.int .i64 (6))), none⟩])
 .ret)
 .skip)))))
 (.seq (.reg [⟨(some 19), .mv (.t 0), none⟩, ⟨(some 20), .nilck (.t 19), none⟩, ⟨(some 21), .fieldAddr (.t 20) 135, none⟩, ⟨(some 22), .load (.t 21) 1 false, none⟩, ⟨(some 2), .mv (.t 22), none⟩, ⟨(some 3), .mv (.c (.int .i64 (0))), none⟩])
 .ret)))
def c_feedback_Loop_Bare : AFun := .code 23 [(.tmp 2), (.tmp 3)] b_feedback_Loop_Bare
def b_feedback_Loop_Broken : AC := (.seq (.reg [⟨(some 2), .mv (.c (.bool false)), none⟩])
 (.seq (.reg [⟨(some 3), .mv (.t 0), none⟩, ⟨(some 4), .eq true (.prim .ptr) (.t 3) (.c .nilPtr), none⟩, ⟨(some 5), .mv (.t 4), none⟩, ⟨(some 6), .mv (.t 0), (some (5, true))⟩, ⟨(some 7), .nilck (.t 6), (some (5, true))⟩, ⟨(some 8), .fieldAddr (.t 7) 134, (some (5, true))⟩, ⟨(some 9), .load (.t 8) 1 false, (some (5, true))⟩, ⟨(some 10), .pick (.t 5) (.t 9) (.c (.bool false)), none⟩, ⟨(some 2), .mv (.t 10), none⟩])
 .ret))
def c_feedback_Loop_Broken : AFun := .code 11 [(.tmp 2)] b_feedback_Loop_Broken
def b_feedback_Check : AC := (.seq (.reg [⟨(some 2), .mv (.c (.int .i64 (0))), none⟩])
 (.seq (.seq (.reg [⟨(some 6), .mv (.t 0), none⟩, ⟨(some 7), .call f_feedback_taps [(.t 6)], none⟩, ⟨(some 8), .un .not (.t 7), none⟩])
 (.cond (.t 8) (.seq (.reg [⟨(some 2), .mv (.c (.int .i64 (8))), none⟩])
 .ret)
 .skip))
 (.seq (.seq (.reg [⟨(some 10), .mv (.t 0), none⟩, ⟨(some 11), .indexSl (.t 10) (.c (.int .i64 (0))) 1, none⟩, ⟨(some 12), .load (.t 11) 1 false, none⟩, ⟨(some 13), .call f_feedback_first [(.t 12)], none⟩, ⟨(some 9), .mv (.t 13), none⟩, ⟨(some 14), .extract (.t 9) 0, none⟩, ⟨(some 15), .extract (.t 9) 1, none⟩, ⟨(some 16), .extract (.t 9) 2, none⟩, ⟨(some 3), .mv (.t 14), none⟩, ⟨(some 4), .mv (.t 15), none⟩, ⟨(some 5), .mv (.t 16), none⟩])
 (.seq (.reg [⟨(some 17), .mv (.t 5), none⟩, ⟨(some 18), .un .not (.t 17), none⟩])
 (.cond (.t 18) (.seq (.reg [⟨(some 2), .mv (.c (.int .i64 (110))), none⟩])
 .ret)
 .skip)))
 (.seq (.reg [⟨(some 2), .mv (.c (.int .i64 (0))), none⟩])
 .ret))))
def c_feedback_Check : AFun := .code 19 [(.tmp 2)] b_feedback_Check
def b_law11_awake : AC := (.seq (.reg [⟨(some 0), .mv (.c (.bool false)), none⟩])
 (.seq (.reg [⟨(some 4), .buildSl [(.cpx 0 0), (.cpx 0 0)] 1 2 [(0, 1, (.c (.cpx 4607182418800017408 0))), (1, 1, (.c (.cpx 4607182418800017408 0)))] 33, none⟩, ⟨(some 5), .build [(.cpx 0 0), (.bool false)] [(0, 1, (.c (.cpx 4607182418800017408 4607182418800017408)))], none⟩, ⟨(some 6), .build [(.cpx 0 0), (.bool false)] [(0, 1, (.c (.cpx 4611686018427387904 0)))], none⟩, ⟨(some 7), .build [(.cpx 0 0), (.bool false)] [(0, 1, (.c (.cpx 0 13835058055282163712)))], none⟩, ⟨(some 8), .buildSl [(.cpx 0 0), (.bool false), (.cpx 0 0), (.bool false), (.cpx 0 0), (.bool false)] 2 3 [(0, 2, (.t 5)), (2, 2, (.t 6)), (4, 2, (.t 7))] 39, none⟩, ⟨(some 9), .call f_feedback_Run [(.c (.int .i64 (4))), (.t 4), (.t 8)], none⟩, ⟨(some 3), .mv (.t 9), none⟩, ⟨(some 10), .extract (.t 3) 0, none⟩, ⟨(some 11), .extract (.t 3) 1, none⟩, ⟨(some 1), .mv (.t 10), none⟩, ⟨(some 2), .mv (.t 11), none⟩])
 (.seq (.reg [⟨(some 12), .mv (.t 2), none⟩, ⟨(some 13), .bin .eql (.t 12) (.c (.int .i64 (0))), none⟩, ⟨(some 14), .mv (.t 13), none⟩, ⟨(some 15), .mv (.t 1), (some (14, true))⟩, ⟨(some 16), .lenSl (.t 15), (some (14, true))⟩, ⟨(some 17), .bin .eql (.t 16) (.c (.int .i64 (3))), (some (14, true))⟩, ⟨(some 18), .pick (.t 14) (.t 17) (.c (.bool false)), none⟩, ⟨(some 19), .mv (.t 18), none⟩, ⟨(some 20), .mv (.t 1), (some (19, true))⟩, ⟨(some 21), .indexSl (.t 20) (.c (.int .i64 (0))) 3, (some (19, true))⟩, ⟨(some 22), .fieldAddr (.t 21) 1, (some (19, true))⟩, ⟨(some 23), .load (.t 22) 1 false, (some (19, true))⟩, ⟨(some 24), .bin .eql (.t 23) (.c (.cpx 4607182418800017408 4607182418800017408)), (some (19, true))⟩, ⟨(some 25), .pick (.t 19) (.t 24) (.c (.bool false)), none⟩, ⟨(some 26), .mv (.t 25), none⟩, ⟨(some 27), .mv (.t 1), (some (26, true))⟩, ⟨(some 28), .indexSl (.t 27) (.c (.int .i64 (1))) 3, (some (26, true))⟩, ⟨(some 29), .fieldAddr (.t 28) 1, (some (26, true))⟩, ⟨(some 30), .load (.t 29) 1 false, (some (26, true))⟩, ⟨(some 31), .bin .eql (.t 30) (.c (.cpx 4607182418800017408 13830554455654793216)), (some (26, true))⟩, ⟨(some 32), .pick (.t 26) (.t 31) (.c (.bool false)), none⟩, ⟨(some 33), .mv (.t 32), none⟩, ⟨(some 34), .mv (.t 1), (some (33, true))⟩, ⟨(some 35), .indexSl (.t 34) (.c (.int .i64 (2))) 3, (some (33, true))⟩, ⟨(some 36), .fieldAddr (.t 35) 1, (some (33, true))⟩, ⟨(some 37), .load (.t 36) 1 false, (some (33, true))⟩, ⟨(some 38), .bin .eql (.t 37) (.c (.cpx 13830554455654793216 13830554455654793216)), (some (33, true))⟩, ⟨(some 39), .pick (.t 33) (.t 38) (.c (.bool false)), none⟩, ⟨(some 40), .mv (.t 39), none⟩, ⟨(some 41), .mv (.t 1), (some (40, true))⟩, ⟨(some 42), .indexSl (.t 41) (.c (.int .i64 (2))) 3, (some (40, true))⟩, ⟨(some 43), .fieldAddr (.t 42) 2, (some (40, true))⟩, ⟨(some 44), .load (.t 43) 1 false, (some (40, true))⟩, ⟨(some 45), .un .not (.t 44), (some (40, true))⟩, ⟨(some 46), .pick (.t 40) (.t 45) (.c (.bool false)), none⟩, ⟨(some 0), .mv (.t 46), none⟩])
 .ret)))
def c_law11_awake : AFun := .code 47 [(.tmp 0)] b_law11_awake
def b_law11_size : AC := (.seq (.reg [⟨(some 2), .mv (.c (.int .i64 (0))), none⟩])
 (.seq (.reg [⟨(some 3), .buildSl [(.int .i64 (0)), (.int .i64 (0)), (.int .i64 (0)), (.int .i64 (0)), (.int .i64 (0)), (.int .i64 (0))] 1 6 [(0, 1, (.c (.int .i64 (4)))), (1, 1, (.c (.int .i64 (16)))), (2, 1, (.c (.int .i64 (32)))), (3, 1, (.c (.int .i64 (64)))), (4, 1, (.c (.int .i64 (128)))), (5, 1, (.c (.int .i64 (256))))] 3, none⟩, ⟨(some 4), .mv (.t 0), none⟩, ⟨(some 5), .bin .rem (.t 4) (.c (.int .i64 (6))), none⟩, ⟨(some 6), .bin .add (.t 5) (.c (.int .i64 (6))), none⟩, ⟨(some 7), .bin .rem (.t 6) (.c (.int .i64 (6))), none⟩, ⟨(some 8), .indexSl (.t 3) (.t 7) 1, none⟩, ⟨(some 9), .load (.t 8) 1 false, none⟩, ⟨(some 2), .mv (.t 9), none⟩])
 .ret))
def c_law11_size : AFun := .code 10 [(.tmp 2)] b_law11_size
def c_law11_may_L0 : AC := (.seq (.seq (.reg [⟨(some 25), .mv (.t 9), none⟩, ⟨(some 26), .mv (.t 2), none⟩, ⟨(some 27), .lenSl (.t 26), none⟩, ⟨(some 28), .bin .lss (.t 25) (.t 27), none⟩, ⟨(some 29), .mv (.t 28), none⟩, ⟨(some 30), .mv (.t 8), (some (29, true))⟩, ⟨(some 31), .lenSl (.t 30), (some (29, true))⟩, ⟨(some 32), .bin .lss (.t 31) (.c (.int .i64 (64))), (some (29, true))⟩, ⟨(some 33), .pick (.t 29) (.t 32) (.c (.bool false)), none⟩])
 (.cond (.t 33) .skip
 (.exit 0)))
 (.seq (.block 1 (.seq (dr [(⟨(some 36), .mv (.t 8), none⟩, .plain), (⟨(some 37), .mv (.t 2), none⟩, .plain), (⟨(some 38), .mv (.t 9), none⟩, .plain), (⟨(some 39), .indexSl (.t 37) (.t 38) 3, none⟩, .plain), (⟨(some 40), .fieldAddr (.t 39) 0, none⟩, .plain), (⟨(some 41), .load (.t 40) 1 false, none⟩, .alone), (⟨(some 42), .bin .rem (.t 41) (.c (.int .i64 (65))), none⟩, .plain), (⟨(some 43), .conv .toFlt (.t 42), none⟩, .plain), (⟨(some 44), .bin .quo (.t 43) (.c (.flt 4634204016564240384)), none⟩, .plain), (⟨(some 45), .mv (.t 2), none⟩, .plain), (⟨(some 46), .mv (.t 9), none⟩, .plain), (⟨(some 47), .indexSl (.t 45) (.t 46) 3, none⟩, .plain), (⟨(some 48), .fieldAddr (.t 47) 1, none⟩, .plain), (⟨(some 49), .load (.t 48) 1 false, none⟩, .alone), (⟨(some 50), .bin .rem (.t 49) (.c (.int .i64 (65))), none⟩, .plain), (⟨(some 51), .conv .toFlt (.t 50), none⟩, .plain), (⟨(some 52), .bin .quo (.t 51) (.c (.flt 4634204016564240384)), none⟩, .plain), (⟨(some 53), .cplx (.t 44) (.t 52), none⟩, .plain), (⟨(some 54), .buildSl [(.cpx 0 0)] 1 1 [(0, 1, (.t 53))] 33, none⟩, .plain), (⟨(some 55), .app (.t 36) (.t 54) 1 16 33, none⟩, .plain), (⟨(some 8), .mv (.t 55), none⟩, .plain)])
 (.seq (.reg [⟨(some 56), .mv (.t 8), none⟩, ⟨(some 57), .call f_ref11_Check [(.t 56)], none⟩, ⟨(some 58), .bin .neq (.t 57) (.c (.int .i64 (0))), none⟩])
 (.cond (.t 58) (.seq (.reg [⟨(some 59), .mv (.t 8), none⟩, ⟨(some 60), .mv (.t 8), none⟩, ⟨(some 61), .lenSl (.t 60), none⟩, ⟨(some 62), .bin .sub (.t 61) (.c (.int .i64 (1))), none⟩, ⟨(some 63), .slSl (.t 59) none (some (.t 62)) none 1, none⟩, ⟨(some 6), .mv (.t 63), none⟩])
 .ret)
 .skip))))
 (.reg [⟨(some 34), .mv (.t 9), none⟩, ⟨(some 35), .bin .add (.t 34) (.c (.int .i64 (1))), none⟩, ⟨(some 9), .mv (.t 35), none⟩])))
def c_law11_may_R1 : AC := (.seq (.reg [⟨(some 64), .mv (.t 8), none⟩, ⟨(some 6), .mv (.t 64), none⟩])
 .ret)
def b_law11_may : AC := (.seq (.reg [⟨(some 6), .mv (.c .nilSl), none⟩])
 (.seq (.reg [⟨(some 10), .buildSl [(.flt 0), (.flt 0), (.flt 0)] 1 3 [(0, 1, (.c (.flt 4607182418800017408))), (1, 1, (.c (.flt 4602678819172646912))), (2, 1, (.c (.flt 4598175219545276416)))] 76, none⟩, ⟨(some 11), .mv (.t 0), none⟩, ⟨(some 12), .bin .rem (.t 11) (.c (.int .i64 (3))), none⟩, ⟨(some 13), .bin .add (.t 12) (.c (.int .i64 (3))), none⟩, ⟨(some 14), .bin .rem (.t 13) (.c (.int .i64 (3))), none⟩, ⟨(some 15), .indexSl (.t 10) (.t 14) 1, none⟩, ⟨(some 16), .load (.t 15) 1 false, none⟩, ⟨(some 7), .mv (.t 16), none⟩])
 (.seq (.reg [⟨(some 17), .mv (.t 7), none⟩, ⟨(some 18), .cplx (.t 17) (.c (.flt 0)), none⟩, ⟨(some 19), .mv (.t 1), none⟩, ⟨(some 20), .bin .rem (.t 19) (.c (.int .i64 (4))), none⟩, ⟨(some 21), .bin .add (.t 20) (.c (.int .i64 (4))), none⟩, ⟨(some 22), .bin .rem (.t 21) (.c (.int .i64 (4))), none⟩, ⟨(some 23), .call f_ref11_Turn [(.t 18), (.t 22)], none⟩, ⟨(some 24), .buildSl [(.cpx 0 0)] 1 1 [(0, 1, (.t 23))] 33, none⟩, ⟨(some 8), .mv (.t 24), none⟩])
 (.seq (.seq (.reg [⟨(some 9), .mv (.c (.int .i64 (0))), none⟩])
 (.block 0 (.loop c_law11_may_L0)))
 c_law11_may_R1))))
def c_law11_may : AFun := .code 65 [(.tmp 6)] b_law11_may
def c_law11_near_L0 : AC := (.seq (.seq (.reg [⟨(some 7), .mv (.t 4), none⟩, ⟨(some 8), .mv (.t 3), none⟩, ⟨(some 9), .lenSl (.t 8), none⟩, ⟨(some 10), .bin .lss (.t 7) (.t 9), none⟩])
 (.cond (.t 10) .skip
 (.exit 0)))
 (.seq (.block 1 (dr [(⟨(some 13), .mv (.t 3), none⟩, .plain), (⟨(some 14), .mv (.t 4), none⟩, .plain), (⟨(some 15), .mv (.t 0), none⟩, .plain), (⟨(some 16), .mv (.t 4), none⟩, .plain), (⟨(some 17), .indexSl (.t 15) (.t 16) 3, none⟩, .plain), (⟨(some 18), .fieldAddr (.t 17) 0, none⟩, .plain), (⟨(some 19), .load (.t 18) 1 false, none⟩, .alone), (⟨(some 20), .bin .rem (.t 19) (.c (.int .i32 (1048576))), none⟩, .plain), (⟨(some 21), .conv .toFlt (.t 20), none⟩, .plain), (⟨(some 22), .bin .quo (.t 21) (.c (.flt 4661225614328463360)), none⟩, .plain), (⟨(some 23), .mv (.t 0), none⟩, .plain), (⟨(some 24), .mv (.t 4), none⟩, .plain), (⟨(some 25), .indexSl (.t 23) (.t 24) 3, none⟩, .plain), (⟨(some 26), .fieldAddr (.t 25) 1, none⟩, .plain), (⟨(some 27), .load (.t 26) 1 false, none⟩, .alone), (⟨(some 28), .bin .rem (.t 27) (.c (.int .i32 (1048576))), none⟩, .plain), (⟨(some 29), .conv .toFlt (.t 28), none⟩, .plain), (⟨(some 30), .bin .quo (.t 29) (.c (.flt 4661225614328463360)), none⟩, .plain), (⟨(some 31), .cplx (.t 22) (.t 30), none⟩, .plain), (⟨(some 32), .build [(.cpx 0 0), (.bool false)] [(0, 1, (.t 31))], none⟩, .plain), (⟨(some 33), .indexSl (.t 13) (.t 14) 2, none⟩, .plain), (⟨none, .store (.t 33) (.t 32) 2, none⟩, .plain)]))
 (.reg [⟨(some 11), .mv (.t 4), none⟩, ⟨(some 12), .bin .add (.t 11) (.c (.int .i64 (1))), none⟩, ⟨(some 4), .mv (.t 12), none⟩])))
def c_law11_near_R1 : AC := (.seq (.reg [⟨(some 34), .mv (.t 3), none⟩, ⟨(some 2), .mv (.t 34), none⟩])
 .ret)
def b_law11_near : AC := (.seq (.reg [⟨(some 2), .mv (.c .nilSl), none⟩])
 (.seq (.reg [⟨(some 5), .mv (.t 0), none⟩, ⟨(some 6), .call f_law11_samples [(.t 5)], none⟩, ⟨(some 3), .mv (.t 6), none⟩])
 (.seq (.seq (.reg [⟨(some 4), .mv (.c (.int .i64 (0))), none⟩])
 (.block 0 (.loop c_law11_near_L0)))
 c_law11_near_R1)))
def c_law11_near : AFun := .code 35 [(.tmp 2)] b_law11_near
def b_feedback_Run : AC := (.seq (.reg [⟨(some 6), .mv (.c .nilSl), none⟩, ⟨(some 7), .mv (.c (.int .i64 (0))), none⟩])
 (.seq (.reg [⟨(some 12), .mv (.t 0), none⟩, ⟨(some 13), .mv (.t 1), none⟩, ⟨(some 14), .mv (.t 2), none⟩, ⟨(some 15), .call f_feedback_run [(.t 12), (.t 13), (.t 14)], none⟩, ⟨(some 11), .mv (.t 15), none⟩, ⟨(some 16), .extract (.t 11) 0, none⟩, ⟨(some 17), .extract (.t 11) 1, none⟩, ⟨(some 18), .extract (.t 11) 2, none⟩, ⟨(some 8), .mv (.t 16), none⟩, ⟨(some 9), .mv (.t 17), none⟩, ⟨(some 10), .mv (.t 18), none⟩])
 (.seq (.reg [⟨(some 19), .mv (.t 8), none⟩, ⟨(some 20), .mv (.t 10), none⟩, ⟨(some 6), .mv (.t 19), none⟩, ⟨(some 7), .mv (.t 20), none⟩])
 .ret)))
def c_feedback_Run : AFun := .code 21 [(.tmp 6), (.tmp 7)] b_feedback_Run
def c_law11_same_L0 : AC := (.seq (.seq (.reg [⟨(some 11), .mv (.t 5), none⟩, ⟨(some 12), .mv (.t 0), none⟩, ⟨(some 13), .lenSl (.t 12), none⟩, ⟨(some 14), .bin .lss (.t 11) (.t 13), none⟩])
 (.cond (.t 14) .skip
 (.exit 0)))
 (.seq (.block 1 (.seq (dr [(⟨(some 17), .mv (.t 0), none⟩, .plain), (⟨(some 18), .mv (.t 5), none⟩, .plain), (⟨(some 19), .indexSl (.t 17) (.t 18) 3, none⟩, .plain), (⟨(some 20), .load (.t 19) 3 true, none⟩, .alone), (⟨(some 21), .mv (.t 1), none⟩, .plain), (⟨(some 22), .mv (.t 5), none⟩, .plain), (⟨(some 23), .indexSl (.t 21) (.t 22) 3, none⟩, .plain), (⟨(some 24), .load (.t 23) 3 true, none⟩, .alone), (⟨(some 25), .eq true (.parts [(0, 1, false, (.prim .int)), (1, 1, false, (.prim .cpx)), (2, 1, false, (.prim .bool))]) (.t 20) (.t 24), none⟩, .plain)])
 (.cond (.t 25) (.seq (.reg [⟨(some 4), .mv (.c (.bool false)), none⟩])
 .ret)
 .skip)))
 (.reg [⟨(some 15), .mv (.t 5), none⟩, ⟨(some 16), .bin .add (.t 15) (.c (.int .i64 (1))), none⟩, ⟨(some 5), .mv (.t 16), none⟩])))
def c_law11_same_R1 : AC := (.seq (.reg [⟨(some 4), .mv (.c (.bool true)), none⟩])
 .ret)
def b_law11_same : AC := (.seq (.reg [⟨(some 4), .mv (.c (.bool false)), none⟩])
 (.seq (.seq (.reg [⟨(some 6), .mv (.t 0), none⟩, ⟨(some 7), .lenSl (.t 6), none⟩, ⟨(some 8), .mv (.t 1), none⟩, ⟨(some 9), .lenSl (.t 8), none⟩, ⟨(some 10), .bin .neq (.t 7) (.t 9), none⟩])
 (.cond (.t 10) (.seq (.reg [⟨(some 4), .mv (.c (.bool false)), none⟩])
 .ret)
 .skip))
 (.seq (.seq (.reg [⟨(some 5), .mv (.c (.int .i64 (0))), none⟩])
 (.block 0 (.loop c_law11_same_L0)))
 c_law11_same_R1)))
def c_law11_same : AFun := .code 26 [(.tmp 4)] b_law11_same
def c_ref11_Turn_L0 : AC := (.seq (.seq (.reg [⟨(some 6), .mv (.t 5), none⟩, ⟨(some 7), .mv (.t 1), none⟩, ⟨(some 8), .bin .lss (.t 6) (.t 7), none⟩])
 (.cond (.t 8) .skip
 (.exit 0)))
 (.seq (.block 1 (.reg [⟨(some 11), .mv (.t 0), none⟩, ⟨(some 12), .imag (.t 11), none⟩, ⟨(some 13), .un .neg (.t 12), none⟩, ⟨(some 14), .mv (.t 0), none⟩, ⟨(some 15), .real (.t 14), none⟩, ⟨(some 16), .cplx (.t 13) (.t 15), none⟩, ⟨(some 0), .mv (.t 16), none⟩]))
 (.reg [⟨(some 9), .mv (.t 5), none⟩, ⟨(some 10), .bin .add (.t 9) (.c (.int .i64 (1))), none⟩, ⟨(some 5), .mv (.t 10), none⟩])))
def c_ref11_Turn_R1 : AC := (.seq (.reg [⟨(some 17), .mv (.t 0), none⟩, ⟨(some 4), .mv (.t 17), none⟩])
 .ret)
def b_ref11_Turn : AC := (.seq (.reg [⟨(some 4), .mv (.c (.cpx 0 0)), none⟩])
 (.seq (.seq (.reg [⟨(some 5), .mv (.c (.int .i64 (0))), none⟩])
 (.block 0 (.loop c_ref11_Turn_L0)))
 c_ref11_Turn_R1))
def c_ref11_Turn : AFun := .code 18 [(.tmp 4)] b_ref11_Turn
def c_ref11_Run_L0 : AC := (.seq (.seq (.reg [⟨(some 34), .mv (.t 13), none⟩, ⟨(some 35), .mv (.t 2), none⟩, ⟨(some 36), .lenSl (.t 35), none⟩, ⟨(some 37), .bin .lss (.t 34) (.t 36), none⟩])
 (.cond (.t 37) .skip
 (.exit 0)))
 (.seq (.block 1 (.seq (.reg [⟨(some 41), .mv (.t 9), none⟩, ⟨(some 42), .mv (.t 2), none⟩, ⟨(some 43), .mv (.t 13), none⟩, ⟨(some 44), .indexSl (.t 42) (.t 43) 2, none⟩, ⟨(some 45), .load (.t 44) 2 true, none⟩, ⟨(some 46), .call f_ref11_Loop_Step [(.t 41), (.t 45)], none⟩, ⟨(some 40), .mv (.t 46), none⟩, ⟨(some 47), .extract (.t 40) 0, none⟩, ⟨(some 48), .extract (.t 40) 1, none⟩, ⟨(some 14), .alloc [(.int .i64 (0)), (.cpx 0 0), (.bool false)] 44, none⟩, ⟨none, .store (.t 14) (.t 47) 3, none⟩, ⟨(some 15), .mv (.t 48), none⟩])
 (.seq (.reg [⟨(some 16), .mv (.c (.cpx 0 0)), none⟩])
 (.seq (.seq (.reg [⟨(some 49), .fieldAddr (.t 14) 2, none⟩, ⟨(some 50), .load (.t 49) 1 false, none⟩, ⟨(some 51), .un .not (.t 50), none⟩])
 (.cond (.t 51) (dr [(⟨(some 52), .mv (.t 9), none⟩, .plain), (⟨(some 53), .nilck (.t 52), none⟩, .plain), (⟨(some 54), .fieldAddr (.t 53) 5, none⟩, .plain), (⟨(some 55), .load (.t 54) 1 false, none⟩, .alone), (⟨(some 56), .real (.t 55), none⟩, .plain), (⟨(some 57), .fieldAddr (.t 14) 1, none⟩, .plain), (⟨(some 58), .load (.t 57) 1 false, none⟩, .alone), (⟨(some 59), .real (.t 58), none⟩, .plain), (⟨(some 60), .bin .sub (.t 56) (.t 59), none⟩, .plain), (⟨(some 61), .mv (.t 9), none⟩, .plain), (⟨(some 62), .nilck (.t 61), none⟩, .plain), (⟨(some 63), .fieldAddr (.t 62) 5, none⟩, .plain), (⟨(some 64), .load (.t 63) 1 false, none⟩, .alone), (⟨(some 65), .imag (.t 64), none⟩, .plain), (⟨(some 66), .fieldAddr (.t 14) 1, none⟩, .plain), (⟨(some 67), .load (.t 66) 1 false, none⟩, .alone), (⟨(some 68), .imag (.t 67), none⟩, .plain), (⟨(some 69), .bin .sub (.t 65) (.t 68), none⟩, .plain), (⟨(some 70), .cplx (.t 60) (.t 69), none⟩, .plain), (⟨(some 16), .mv (.t 70), none⟩, .plain)])
 .skip))
 (.seq (.reg [⟨(some 71), .mv (.t 11), none⟩, ⟨(some 72), .load (.t 14) 3 true, none⟩, ⟨(some 73), .buildSl [(.int .i64 (0)), (.cpx 0 0), (.bool false)] 3 1 [(0, 3, (.t 72))] 44, none⟩, ⟨(some 74), .app (.t 71) (.t 73) 3 32 44, none⟩, ⟨(some 11), .mv (.t 74), none⟩])
 (.reg [⟨(some 75), .mv (.t 12), none⟩, ⟨(some 76), .mv (.t 16), none⟩, ⟨(some 77), .buildSl [(.cpx 0 0)] 1 1 [(0, 1, (.t 76))] 33, none⟩, ⟨(some 78), .app (.t 75) (.t 77) 1 16 33, none⟩, ⟨(some 12), .mv (.t 78), none⟩]))))))
 (.reg [⟨(some 38), .mv (.t 13), none⟩, ⟨(some 39), .bin .add (.t 38) (.c (.int .i64 (1))), none⟩, ⟨(some 13), .mv (.t 39), none⟩])))
def c_ref11_Run_R1 : AC := (.seq (.reg [⟨(some 79), .mv (.t 11), none⟩, ⟨(some 80), .mv (.t 12), none⟩, ⟨(some 6), .mv (.t 79), none⟩, ⟨(some 7), .mv (.t 80), none⟩, ⟨(some 8), .mv (.c (.int .i64 (0))), none⟩])
 .ret)
def b_ref11_Run : AC := (.seq (.reg [⟨(some 6), .mv (.c .nilSl), none⟩, ⟨(some 7), .mv (.c .nilSl), none⟩, ⟨(some 8), .mv (.c (.int .i64 (0))), none⟩])
 (.seq (.reg [⟨(some 18), .mv (.t 0), none⟩, ⟨(some 19), .mv (.t 1), none⟩, ⟨(some 20), .call f_ref11_New [(.t 18), (.t 19)], none⟩, ⟨(some 17), .mv (.t 20), none⟩, ⟨(some 21), .extract (.t 17) 0, none⟩, ⟨(some 22), .extract (.t 17) 1, none⟩, ⟨(some 9), .mv (.t 21), none⟩, ⟨(some 10), .mv (.t 22), none⟩])
 (.seq (.seq (.reg [⟨(some 23), .mv (.t 10), none⟩, ⟨(some 24), .bin .neq (.t 23) (.c (.int .i64 (0))), none⟩])
 (.cond (.t 24) (.seq (.reg [⟨(some 25), .mv (.t 10), none⟩, ⟨(some 6), .mv (.c .nilSl), none⟩, ⟨(some 7), .mv (.c .nilSl), none⟩, ⟨(some 8), .mv (.t 25), none⟩])
 .ret)
 .skip))
 (.seq (.reg [⟨(some 27), .mv (.t 2), none⟩, ⟨(some 28), .call f_ref02_Check [(.t 27)], none⟩, ⟨(some 26), .mv (.t 28), none⟩, ⟨(some 29), .extract (.t 26) 0, none⟩, ⟨(some 30), .extract (.t 26) 1, none⟩, ⟨(some 10), .mv (.t 30), none⟩])
 (.seq (.seq (.reg [⟨(some 31), .mv (.t 10), none⟩, ⟨(some 32), .bin .neq (.t 31) (.c (.int .i64 (0))), none⟩])
 (.cond (.t 32) (.seq (.reg [⟨(some 33), .mv (.t 10), none⟩, ⟨(some 6), .mv (.c .nilSl), none⟩, ⟨(some 7), .mv (.c .nilSl), none⟩, ⟨(some 8), .mv (.t 33), none⟩])
 .ret)
 .skip))
 (.seq (.reg [⟨(some 11), .mv (.c .nilSl), none⟩])
 (.seq (.reg [⟨(some 12), .mv (.c .nilSl), none⟩])
 (.seq (.seq (.reg [⟨(some 13), .mv (.c (.int .i64 (0))), none⟩])
 (.block 0 (.loop c_ref11_Run_L0)))
 c_ref11_Run_R1))))))))
def c_ref11_Run : AFun := .code 81 [(.tmp 6), (.tmp 7), (.tmp 8)] b_ref11_Run
def b_feedback_Residue : AC := (.seq (.reg [⟨(some 6), .mv (.c .nilSl), none⟩, ⟨(some 7), .mv (.c (.int .i64 (0))), none⟩])
 (.seq (.reg [⟨(some 12), .mv (.t 0), none⟩, ⟨(some 13), .mv (.t 1), none⟩, ⟨(some 14), .mv (.t 2), none⟩, ⟨(some 15), .call f_feedback_run [(.t 12), (.t 13), (.t 14)], none⟩, ⟨(some 11), .mv (.t 15), none⟩, ⟨(some 16), .extract (.t 11) 0, none⟩, ⟨(some 17), .extract (.t 11) 1, none⟩, ⟨(some 18), .extract (.t 11) 2, none⟩, ⟨(some 8), .mv (.t 16), none⟩, ⟨(some 9), .mv (.t 17), none⟩, ⟨(some 10), .mv (.t 18), none⟩])
 (.seq (.reg [⟨(some 19), .mv (.t 9), none⟩, ⟨(some 20), .mv (.t 10), none⟩, ⟨(some 6), .mv (.t 19), none⟩, ⟨(some 7), .mv (.t 20), none⟩])
 .ret)))
def c_feedback_Residue : AFun := .code 21 [(.tmp 6), (.tmp 7)] b_feedback_Residue
def c_law11_rows_L0 : AC := (.seq (.seq (.reg [⟨(some 11), .mv (.t 5), none⟩, ⟨(some 12), .mv (.t 0), none⟩, ⟨(some 13), .lenSl (.t 12), none⟩, ⟨(some 14), .bin .lss (.t 11) (.t 13), none⟩])
 (.cond (.t 14) .skip
 (.exit 0)))
 (.seq (.block 1 (.seq (dr [(⟨(some 17), .mv (.t 0), none⟩, .plain), (⟨(some 18), .mv (.t 5), none⟩, .plain), (⟨(some 19), .indexSl (.t 17) (.t 18) 3, none⟩, .plain), (⟨(some 20), .load (.t 19) 3 true, none⟩, .alone), (⟨(some 21), .mv (.t 1), none⟩, .plain), (⟨(some 22), .mv (.t 5), none⟩, .plain), (⟨(some 23), .indexSl (.t 21) (.t 22) 3, none⟩, .plain), (⟨(some 24), .load (.t 23) 3 true, none⟩, .alone), (⟨(some 25), .call f_law11_alike [(.t 20), (.t 24)], none⟩, .plain), (⟨(some 26), .un .not (.t 25), none⟩, .plain)])
 (.cond (.t 26) (.seq (.reg [⟨(some 4), .mv (.c (.bool false)), none⟩])
 .ret)
 .skip)))
 (.reg [⟨(some 15), .mv (.t 5), none⟩, ⟨(some 16), .bin .add (.t 15) (.c (.int .i64 (1))), none⟩, ⟨(some 5), .mv (.t 16), none⟩])))
def c_law11_rows_R1 : AC := (.seq (.reg [⟨(some 4), .mv (.c (.bool true)), none⟩])
 .ret)
def b_law11_rows : AC := (.seq (.reg [⟨(some 4), .mv (.c (.bool false)), none⟩])
 (.seq (.seq (.reg [⟨(some 6), .mv (.t 0), none⟩, ⟨(some 7), .lenSl (.t 6), none⟩, ⟨(some 8), .mv (.t 1), none⟩, ⟨(some 9), .lenSl (.t 8), none⟩, ⟨(some 10), .bin .neq (.t 7) (.t 9), none⟩])
 (.cond (.t 10) (.seq (.reg [⟨(some 4), .mv (.c (.bool false)), none⟩])
 .ret)
 .skip))
 (.seq (.seq (.reg [⟨(some 5), .mv (.c (.int .i64 (0))), none⟩])
 (.block 0 (.loop c_law11_rows_L0)))
 c_law11_rows_R1)))
def c_law11_rows : AFun := .code 27 [(.tmp 4)] b_law11_rows
def c_law11_fresh_L0 : AC := (.seq (.seq (.reg [⟨(some 19), .mv (.t 7), none⟩, ⟨(some 20), .mv (.t 0), none⟩, ⟨(some 21), .lenSl (.t 20), none⟩, ⟨(some 22), .bin .lss (.t 19) (.t 21), none⟩])
 (.cond (.t 22) .skip
 (.exit 0)))
 (.seq (.block 1 (.reg [⟨(some 25), .mv (.t 0), none⟩, ⟨(some 26), .mv (.t 7), none⟩, ⟨(some 27), .indexSl (.t 25) (.t 26) 1, none⟩, ⟨none, .store (.t 27) (.c (.cpx 4648093047446306816 0)) 1, none⟩]))
 (.reg [⟨(some 23), .mv (.t 7), none⟩, ⟨(some 24), .bin .add (.t 23) (.c (.int .i64 (1))), none⟩, ⟨(some 7), .mv (.t 24), none⟩])))
def c_law11_fresh_L2 : AC := (.seq (.seq (.reg [⟨(some 28), .mv (.t 8), none⟩, ⟨(some 29), .bin .lss (.t 28) (.c (.int .i64 (20))), none⟩])
 (.cond (.t 29) .skip
 (.exit 2)))
 (.seq (.block 3 (.reg [⟨(some 32), .mv (.t 0), none⟩, ⟨(some 33), .buildSl [(.cpx 0 0)] 1 1 [(0, 1, (.c (.cpx 4649069413771771904 0)))] 33, none⟩, ⟨(some 34), .app (.t 32) (.t 33) 1 16 33, none⟩, ⟨(some 0), .mv (.t 34), none⟩]))
 (.reg [⟨(some 30), .mv (.t 8), none⟩, ⟨(some 31), .bin .add (.t 30) (.c (.int .i64 (1))), none⟩, ⟨(some 8), .mv (.t 31), none⟩])))
def c_law11_fresh_R3 : AC := (.seq (.reg [⟨(some 35), .mv (.t 1), none⟩, ⟨(some 36), .mv (.t 2), none⟩, ⟨(some 37), .call f_ref11_Same [(.t 35), (.t 36)], none⟩, ⟨(some 38), .mv (.t 37), none⟩, ⟨(some 39), .mv (.t 0), (some (38, true))⟩, ⟨(some 40), .lenSl (.t 39), (some (38, true))⟩, ⟨(some 41), .mv (.t 2), (some (38, true))⟩, ⟨(some 42), .lenSl (.t 41), (some (38, true))⟩, ⟨(some 43), .bin .add (.t 42) (.c (.int .i64 (20))), (some (38, true))⟩, ⟨(some 44), .bin .eql (.t 40) (.t 43), (some (38, true))⟩, ⟨(some 45), .pick (.t 38) (.t 44) (.c (.bool false)), none⟩, ⟨(some 6), .mv (.t 45), none⟩])
 .ret)
def c_law11_fresh_R1 : AC := (.seq (.seq (.reg [⟨(some 8), .mv (.c (.int .i64 (0))), none⟩])
 (.block 2 (.loop c_law11_fresh_L2)))
 c_law11_fresh_R3)
def b_law11_fresh : AC := (.seq (.reg [⟨(some 6), .mv (.c (.bool false)), none⟩])
 (.seq (.seq (.reg [⟨(some 9), .mv (.t 0), none⟩, ⟨(some 10), .mv (.t 2), none⟩, ⟨(some 11), .call f_ref11_Same [(.t 9), (.t 10)], none⟩, ⟨(some 12), .un .not (.t 11), none⟩, ⟨(some 13), .mv (.t 12), none⟩, ⟨(some 14), .mv (.t 1), (some (13, false))⟩, ⟨(some 15), .mv (.t 2), (some (13, false))⟩, ⟨(some 16), .call f_ref11_Same [(.t 14), (.t 15)], (some (13, false))⟩, ⟨(some 17), .un .not (.t 16), (some (13, false))⟩, ⟨(some 18), .pick (.t 13) (.c (.bool true)) (.t 17), none⟩])
 (.cond (.t 18) (.seq (.reg [⟨(some 6), .mv (.c (.bool false)), none⟩])
 .ret)
 .skip))
 (.seq (.seq (.reg [⟨(some 7), .mv (.c (.int .i64 (0))), none⟩])
 (.block 0 (.loop c_law11_fresh_L0)))
 c_law11_fresh_R1)))
def c_law11_fresh : AFun := .code 46 [(.tmp 6)] b_law11_fresh
def c_ref02_Same_L0 : AC := (.seq (.seq (.reg [⟨(some 11), .mv (.t 5), none⟩, ⟨(some 12), .mv (.t 0), none⟩, ⟨(some 13), .lenSl (.t 12), none⟩, ⟨(some 14), .bin .lss (.t 11) (.t 13), none⟩])
 (.cond (.t 14) .skip
 (.exit 0)))
 (.seq (.block 1 (.seq (dr [(⟨(some 17), .mv (.t 0), none⟩, .plain), (⟨(some 18), .mv (.t 5), none⟩, .plain), (⟨(some 19), .indexSl (.t 17) (.t 18) 2, none⟩, .plain), (⟨(some 20), .fieldAddr (.t 19) 1, none⟩, .plain), (⟨(some 21), .load (.t 20) 1 false, none⟩, .alone), (⟨(some 22), .mv (.t 1), none⟩, .plain), (⟨(some 23), .mv (.t 5), none⟩, .plain), (⟨(some 24), .indexSl (.t 22) (.t 23) 2, none⟩, .plain), (⟨(some 25), .fieldAddr (.t 24) 1, none⟩, .plain), (⟨(some 26), .load (.t 25) 1 false, none⟩, .alone), (⟨(some 27), .eq true (.prim .bool) (.t 21) (.t 26), none⟩, .plain), (⟨(some 28), .mv (.t 27), none⟩, .plain), (⟨(some 29), .mv (.t 0), (some (28, false))⟩, .plain), (⟨(some 30), .mv (.t 5), (some (28, false))⟩, .plain), (⟨(some 31), .indexSl (.t 29) (.t 30) 2, (some (28, false))⟩, .plain), (⟨(some 32), .fieldAddr (.t 31) 0, (some (28, false))⟩, .plain), (⟨(some 33), .load (.t 32) 1 false, (some (28, false))⟩, .alone), (⟨(some 34), .mv (.t 1), (some (28, false))⟩, .plain), (⟨(some 35), .mv (.t 5), (some (28, false))⟩, .plain), (⟨(some 36), .indexSl (.t 34) (.t 35) 2, (some (28, false))⟩, .plain), (⟨(some 37), .fieldAddr (.t 36) 0, (some (28, false))⟩, .plain), (⟨(some 38), .load (.t 37) 1 false, (some (28, false))⟩, .alone), (⟨(some 39), .bin .neq (.t 33) (.t 38), (some (28, false))⟩, .plain), (⟨(some 40), .pick (.t 28) (.c (.bool true)) (.t 39), none⟩, .plain)])
 (.cond (.t 40) (.seq (.reg [⟨(some 4), .mv (.c (.bool false)), none⟩])
 .ret)
 .skip)))
 (.reg [⟨(some 15), .mv (.t 5), none⟩, ⟨(some 16), .bin .add (.t 15) (.c (.int .i64 (1))), none⟩, ⟨(some 5), .mv (.t 16), none⟩])))
def c_ref02_Same_R1 : AC := (.seq (.reg [⟨(some 4), .mv (.c (.bool true)), none⟩])
 .ret)
def b_ref02_Same : AC := (.seq (.reg [⟨(some 4), .mv (.c (.bool false)), none⟩])
 (.seq (.seq (.reg [⟨(some 6), .mv (.t 0), none⟩, ⟨(some 7), .lenSl (.t 6), none⟩, ⟨(some 8), .mv (.t 1), none⟩, ⟨(some 9), .lenSl (.t 8), none⟩, ⟨(some 10), .bin .neq (.t 7) (.t 9), none⟩])
 (.cond (.t 10) (.seq (.reg [⟨(some 4), .mv (.c (.bool false)), none⟩])
 .ret)
 .skip))
 (.seq (.seq (.reg [⟨(some 5), .mv (.c (.int .i64 (0))), none⟩])
 (.block 0 (.loop c_ref02_Same_L0)))
 c_ref02_Same_R1)))
def c_ref02_Same : AFun := .code 41 [(.tmp 4)] b_ref02_Same
def c_feedback_Echo_L0 : AC := (.seq (.reg [⟨(some 27), .bin .lss (.t 26) (.t 25), none⟩])
 (.seq (.cond (.t 27) .skip
 (.exit 1))
 (.seq (.block 2 (.seq (.reg [⟨(some 28), .indexSl (.t 24) (.t 26) 1, none⟩, ⟨(some 29), .load (.t 28) 1 false, none⟩, ⟨(some 7), .mv (.t 29), none⟩])
 (.seq (.reg [⟨(some 30), .mv (.t 7), none⟩, ⟨(some 31), .real (.t 30), none⟩, ⟨(some 32), .call f_grid_On [(.t 31)], none⟩, ⟨(some 33), .un .not (.t 32), none⟩, ⟨(some 34), .mv (.t 33), none⟩, ⟨(some 35), .mv (.t 7), (some (34, false))⟩, ⟨(some 36), .imag (.t 35), (some (34, false))⟩, ⟨(some 37), .call f_grid_On [(.t 36)], (some (34, false))⟩, ⟨(some 38), .un .not (.t 37), (some (34, false))⟩, ⟨(some 39), .pick (.t 34) (.c (.bool true)) (.t 38), none⟩])
 (.cond (.t 39) (.seq (.reg [⟨(some 4), .mv (.c .nilSl), none⟩, ⟨(some 5), .mv (.c (.int .i64 (7))), none⟩])
 .ret)
 .skip))))
 (.reg [⟨(some 40), .bin .add (.t 26) (.c (.int .i64 (1))), none⟩, ⟨(some 26), .mv (.t 40), none⟩]))))
def c_feedback_Echo_L3 : AC := (.seq (.reg [⟨(some 58), .bin .lss (.t 57) (.t 56), none⟩])
 (.seq (.cond (.t 58) .skip
 (.exit 5))
 (.seq (.block 6 (.seq (.reg [⟨(some 59), .mv (.t 57), none⟩, ⟨(some 60), .indexSl (.t 55) (.t 57) 1, none⟩, ⟨(some 61), .load (.t 60) 1 false, none⟩, ⟨(some 12), .mv (.t 59), none⟩, ⟨(some 13), .mv (.t 61), none⟩])
 (.seq (.reg [⟨(some 63), .mv (.t 13), none⟩, ⟨(some 64), .mv (.t 1), none⟩, ⟨(some 65), .mv (.t 9), none⟩, ⟨(some 66), .mv (.t 12), none⟩, ⟨(some 67), .bin .sub (.t 65) (.t 66), none⟩, ⟨(some 68), .indexSl (.t 64) (.t 67) 1, none⟩, ⟨(some 69), .load (.t 68) 1 false, none⟩, ⟨(some 70), .call f_feedback_times [(.t 63), (.t 69)], none⟩, ⟨(some 62), .mv (.t 70), none⟩, ⟨(some 71), .extract (.t 62) 0, none⟩, ⟨(some 72), .extract (.t 62) 1, none⟩, ⟨(some 14), .mv (.t 71), none⟩, ⟨(some 15), .mv (.t 72), none⟩])
 (.seq (.reg [⟨(some 73), .mv (.t 10), none⟩, ⟨(some 74), .mv (.t 14), none⟩, ⟨(some 75), .bin .add (.t 73) (.t 74), none⟩, ⟨(some 10), .mv (.t 75), none⟩])
 (.reg [⟨(some 76), .mv (.t 11), none⟩, ⟨(some 77), .mv (.t 15), none⟩, ⟨(some 78), .bin .add (.t 76) (.t 77), none⟩, ⟨(some 11), .mv (.t 78), none⟩])))))
 (.reg [⟨(some 79), .bin .add (.t 57) (.c (.int .i64 (1))), none⟩, ⟨(some 57), .mv (.t 79), none⟩]))))
def c_feedback_Echo_R4 : AC := (.reg [⟨(some 80), .mv (.t 8), none⟩, ⟨(some 81), .mv (.t 10), none⟩, ⟨(some 82), .mv (.t 11), none⟩, ⟨(some 83), .cplx (.t 81) (.t 82), none⟩, ⟨(some 84), .buildSl [(.cpx 0 0)] 1 1 [(0, 1, (.t 83))] 33, none⟩, ⟨(some 85), .app (.t 80) (.t 84) 1 16 33, none⟩, ⟨(some 8), .mv (.t 85), none⟩])
def c_feedback_Echo_R5 : AC := (.reg [⟨(some 86), .bin .add (.t 46) (.c (.int .i64 (1))), none⟩, ⟨(some 46), .mv (.t 86), none⟩])
def c_feedback_Echo_L2 : AC := (.seq (.reg [⟨(some 47), .bin .lss (.t 46) (.t 45), none⟩])
 (.seq (.cond (.t 47) .skip
 (.exit 3))
 (.seq (.block 4 (.seq (.reg [⟨(some 48), .mv (.t 46), none⟩, ⟨(some 9), .mv (.t 48), none⟩])
 (.seq (.reg [⟨(some 10), .mv (.c (.flt 0)), none⟩, ⟨(some 11), .mv (.c (.flt 0)), none⟩])
 (.seq (.seq (.reg [⟨(some 49), .mv (.t 0), none⟩, ⟨(some 50), .mv (.t 0), none⟩, ⟨(some 51), .lenSl (.t 50), none⟩, ⟨(some 52), .mv (.t 9), none⟩, ⟨(some 53), .bin .add (.t 52) (.c (.int .i64 (1))), none⟩, ⟨(some 54), .mm false [(.t 51), (.t 53)], none⟩, ⟨(some 55), .slSl (.t 49) none (some (.t 54)) none 1, none⟩, ⟨(some 56), .lenSl (.t 55), none⟩, ⟨(some 57), .mv (.c (.int .i64 (0))), none⟩])
 (.block 5 (.loop c_feedback_Echo_L3)))
 c_feedback_Echo_R4))))
 c_feedback_Echo_R5)))
def c_feedback_Echo_R6 : AC := (.seq (.reg [⟨(some 87), .mv (.t 8), none⟩, ⟨(some 4), .mv (.t 87), none⟩, ⟨(some 5), .mv (.c (.int .i64 (0))), none⟩])
 .ret)
def c_feedback_Echo_R1 : AC := (.seq (.reg [⟨(some 41), .mv (.t 1), none⟩, ⟨(some 42), .lenSl (.t 41), none⟩, ⟨(some 43), .mkSl (.c (.int .i64 (0))) (.t 42) [(.cpx 0 0)] 1 16 33, none⟩, ⟨(some 8), .mv (.t 43), none⟩])
 (.seq (.seq (.reg [⟨(some 44), .mv (.t 1), none⟩, ⟨(some 45), .lenSl (.t 44), none⟩, ⟨(some 46), .mv (.c (.int .i64 (0))), none⟩])
 (.block 3 (.loop c_feedback_Echo_L2)))
 c_feedback_Echo_R6))
def b_feedback_Echo : AC := (.seq (.reg [⟨(some 4), .mv (.c .nilSl), none⟩, ⟨(some 5), .mv (.c (.int .i64 (0))), none⟩])
 (.seq (.block 0 (.seq (.reg [⟨(some 17), .mv (.t 0), none⟩, ⟨(some 18), .call f_feedback_taps [(.t 17)], none⟩, ⟨(some 19), .un .not (.t 18), none⟩, ⟨(some 16), .mv (.t 19), none⟩])
 (.cond (.t 16) (.seq (.reg [⟨(some 4), .mv (.c .nilSl), none⟩, ⟨(some 5), .mv (.c (.int .i64 (8))), none⟩])
 .ret)
 (.seq (.reg [⟨(some 21), .mv (.t 1), none⟩, ⟨(some 22), .lenSl (.t 21), none⟩, ⟨(some 23), .bin .gtr (.t 22) (.c (.int .i64 (65536))), none⟩, ⟨(some 20), .mv (.t 23), none⟩])
 (.cond (.t 20) (.seq (.reg [⟨(some 4), .mv (.c .nilSl), none⟩, ⟨(some 5), .mv (.c (.int .i64 (1))), none⟩])
 .ret)
 .skip)))))
 (.seq (.seq (.reg [⟨(some 24), .mv (.t 1), none⟩, ⟨(some 25), .lenSl (.t 24), none⟩, ⟨(some 26), .mv (.c (.int .i64 (0))), none⟩])
 (.block 1 (.loop c_feedback_Echo_L0)))
 c_feedback_Echo_R1)))
def c_feedback_Echo : AFun := .code 88 [(.tmp 4), (.tmp 5)] b_feedback_Echo
def c_ref04_All_L0 : AC := (.seq (.seq (.reg [⟨(some 13), .mv (.t 7), none⟩, ⟨(some 14), .mv (.t 4), none⟩, ⟨(some 15), .lenSl (.t 14), none⟩, ⟨(some 16), .bin .lss (.t 13) (.t 15), none⟩])
 (.cond (.t 16) .skip
 (.exit 0)))
 (.seq (.block 1 (.reg [⟨(some 19), .mv (.t 6), none⟩, ⟨(some 20), .mv (.t 4), none⟩, ⟨(some 21), .mv (.t 7), none⟩, ⟨(some 22), .indexSl (.t 20) (.t 21) 2, none⟩, ⟨(some 23), .load (.t 22) 2 true, none⟩, ⟨(some 24), .call f_ref04_Number [(.t 23)], none⟩, ⟨(some 25), .buildSl [(.cpx 0 0)] 1 1 [(0, 1, (.t 24))] 33, none⟩, ⟨(some 26), .app (.t 19) (.t 25) 1 16 33, none⟩, ⟨(some 6), .mv (.t 26), none⟩]))
 (.reg [⟨(some 17), .mv (.t 7), none⟩, ⟨(some 18), .bin .add (.t 17) (.c (.int .i64 (1))), none⟩, ⟨(some 7), .mv (.t 18), none⟩])))
def c_ref04_All_R1 : AC := (.seq (.reg [⟨(some 27), .mv (.t 6), none⟩, ⟨(some 28), .mv (.t 5), none⟩, ⟨(some 2), .mv (.t 27), none⟩, ⟨(some 3), .mv (.t 28), none⟩])
 .ret)
def b_ref04_All : AC := (.seq (.reg [⟨(some 2), .mv (.c .nilSl), none⟩, ⟨(some 3), .mv (.c (.int .i64 (0))), none⟩])
 (.seq (.reg [⟨(some 9), .mv (.t 0), none⟩, ⟨(some 10), .call f_ref04_Points [(.t 9)], none⟩, ⟨(some 8), .mv (.t 10), none⟩, ⟨(some 11), .extract (.t 8) 0, none⟩, ⟨(some 12), .extract (.t 8) 1, none⟩, ⟨(some 4), .mv (.t 11), none⟩, ⟨(some 5), .mv (.t 12), none⟩])
 (.seq (.reg [⟨(some 6), .mv (.c .nilSl), none⟩])
 (.seq (.seq (.reg [⟨(some 7), .mv (.c (.int .i64 (0))), none⟩])
 (.block 0 (.loop c_ref04_All_L0)))
 c_ref04_All_R1))))
def c_ref04_All : AFun := .code 29 [(.tmp 2), (.tmp 3)] b_ref04_All
def c_ref11_First_L1 : AC := (.seq (.seq (.reg [⟨(some 13), .mv (.t 6), none⟩, ⟨(some 14), .bin .lss (.t 13) (.c (.int .i64 (4))), none⟩])
 (.cond (.t 14) .skip
 (.exit 2)))
 (.seq (.block 3 (.seq (.reg [⟨(some 17), .mv (.t 5), none⟩, ⟨(some 18), .cplx (.t 17) (.c (.flt 0)), none⟩, ⟨(some 19), .mv (.t 6), none⟩, ⟨(some 20), .call f_ref11_Turn [(.t 18), (.t 19)], none⟩, ⟨(some 21), .mv (.t 0), none⟩, ⟨(some 22), .bin .eql (.t 20) (.t 21), none⟩])
 (.cond (.t 22) (.seq (.reg [⟨(some 23), .mv (.t 5), none⟩, ⟨(some 24), .mv (.t 6), none⟩, ⟨(some 2), .mv (.t 23), none⟩, ⟨(some 3), .mv (.t 24), none⟩])
 .ret)
 .skip)))
 (.reg [⟨(some 15), .mv (.t 6), none⟩, ⟨(some 16), .bin .add (.t 15) (.c (.int .i64 (1))), none⟩, ⟨(some 6), .mv (.t 16), none⟩])))
def c_ref11_First_R2 : AC := (.reg [⟨(some 25), .bin .add (.t 9) (.c (.int .i64 (1))), none⟩, ⟨(some 9), .mv (.t 25), none⟩])
def c_ref11_First_L0 : AC := (.seq (.reg [⟨(some 10), .bin .lss (.t 9) (.t 8), none⟩])
 (.seq (.cond (.t 10) .skip
 (.exit 0))
 (.seq (.block 1 (.seq (.reg [⟨(some 11), .indexSl (.t 7) (.t 9) 1, none⟩, ⟨(some 12), .load (.t 11) 1 false, none⟩, ⟨(some 5), .mv (.t 12), none⟩])
 (.seq (.reg [⟨(some 6), .mv (.c (.int .i64 (0))), none⟩])
 (.block 2 (.loop c_ref11_First_L1)))))
 c_ref11_First_R2)))
def c_ref11_First_R3 : AC := (.seq (.reg [⟨(some 2), .mv (.c (.flt 0)), none⟩, ⟨(some 3), .mv (.c (.int .i64 (0))), none⟩])
 .ret)
def b_ref11_First : AC := (.seq (.reg [⟨(some 2), .mv (.c (.flt 0)), none⟩, ⟨(some 3), .mv (.c (.int .i64 (0))), none⟩])
 (.seq (.seq (.reg [⟨(some 7), .buildSl [(.flt 0), (.flt 0), (.flt 0)] 1 3 [(0, 1, (.c (.flt 4607182418800017408))), (1, 1, (.c (.flt 4602678819172646912))), (2, 1, (.c (.flt 4598175219545276416)))] 76, none⟩, ⟨(some 8), .lenSl (.t 7), none⟩, ⟨(some 9), .mv (.c (.int .i64 (0))), none⟩])
 (.block 0 (.loop c_ref11_First_L0)))
 c_ref11_First_R3))
def c_ref11_First : AFun := .code 26 [(.tmp 2), (.tmp 3)] b_ref11_First
def c_law11_answer_L0 : AC := (.seq (.seq (.reg [⟨(some 11), .mv (.t 9), none⟩, ⟨(some 12), .mv (.t 0), none⟩, ⟨(some 13), .lenSl (.t 12), none⟩, ⟨(some 14), .bin .lss (.t 11) (.t 13), none⟩, ⟨(some 15), .mv (.t 14), none⟩, ⟨(some 16), .mv (.t 9), (some (15, true))⟩, ⟨(some 17), .mv (.t 2), (some (15, true))⟩, ⟨(some 18), .bin .leq (.t 16) (.t 17), (some (15, true))⟩, ⟨(some 19), .pick (.t 15) (.t 18) (.c (.bool false)), none⟩])
 (.cond (.t 19) .skip
 (.exit 0)))
 (.seq (.block 1 (.seq (.reg [⟨(some 22), .mv (.t 1), none⟩, ⟨(some 23), .mv (.t 2), none⟩, ⟨(some 24), .mv (.t 9), none⟩, ⟨(some 25), .bin .sub (.t 23) (.t 24), none⟩, ⟨(some 26), .indexSl (.t 22) (.t 25) 1, none⟩, ⟨(some 27), .load (.t 26) 1 false, none⟩, ⟨(some 10), .mv (.t 27), none⟩])
 (.seq (dr [(⟨(some 28), .mv (.t 7), none⟩, .plain), (⟨(some 29), .mv (.t 0), none⟩, .plain), (⟨(some 30), .mv (.t 9), none⟩, .plain), (⟨(some 31), .indexSl (.t 29) (.t 30) 1, none⟩, .plain), (⟨(some 32), .load (.t 31) 1 false, none⟩, .alone), (⟨(some 33), .real (.t 32), none⟩, .plain), (⟨(some 34), .mv (.t 10), none⟩, .plain), (⟨(some 35), .real (.t 34), none⟩, .plain), (⟨(some 36), .bin .mul (.t 33) (.t 35), none⟩, .plain), (⟨(some 37), .mv (.t 0), none⟩, .plain), (⟨(some 38), .mv (.t 9), none⟩, .plain), (⟨(some 39), .indexSl (.t 37) (.t 38) 1, none⟩, .plain), (⟨(some 40), .load (.t 39) 1 false, none⟩, .alone), (⟨(some 41), .imag (.t 40), none⟩, .plain), (⟨(some 42), .mv (.t 10), none⟩, .plain), (⟨(some 43), .imag (.t 42), none⟩, .plain), (⟨(some 44), .bin .mul (.t 41) (.t 43), none⟩, .plain), (⟨(some 45), .bin .sub (.t 36) (.t 44), none⟩, .plain), (⟨(some 46), .bin .add (.t 28) (.t 45), none⟩, .plain), (⟨(some 7), .mv (.t 46), none⟩, .plain)])
 (dr [(⟨(some 47), .mv (.t 8), none⟩, .plain), (⟨(some 48), .mv (.t 0), none⟩, .plain), (⟨(some 49), .mv (.t 9), none⟩, .plain), (⟨(some 50), .indexSl (.t 48) (.t 49) 1, none⟩, .plain), (⟨(some 51), .load (.t 50) 1 false, none⟩, .alone), (⟨(some 52), .real (.t 51), none⟩, .plain), (⟨(some 53), .mv (.t 10), none⟩, .plain), (⟨(some 54), .imag (.t 53), none⟩, .plain), (⟨(some 55), .bin .mul (.t 52) (.t 54), none⟩, .plain), (⟨(some 56), .mv (.t 0), none⟩, .plain), (⟨(some 57), .mv (.t 9), none⟩, .plain), (⟨(some 58), .indexSl (.t 56) (.t 57) 1, none⟩, .plain), (⟨(some 59), .load (.t 58) 1 false, none⟩, .alone), (⟨(some 60), .imag (.t 59), none⟩, .plain), (⟨(some 61), .mv (.t 10), none⟩, .plain), (⟨(some 62), .real (.t 61), none⟩, .plain), (⟨(some 63), .bin .mul (.t 60) (.t 62), none⟩, .plain), (⟨(some 64), .bin .add (.t 55) (.t 63), none⟩, .plain), (⟨(some 65), .bin .add (.t 47) (.t 64), none⟩, .plain), (⟨(some 8), .mv (.t 65), none⟩, .plain)]))))
 (.reg [⟨(some 20), .mv (.t 9), none⟩, ⟨(some 21), .bin .add (.t 20) (.c (.int .i64 (1))), none⟩, ⟨(some 9), .mv (.t 21), none⟩])))
def c_law11_answer_R1 : AC := (.seq (.reg [⟨(some 66), .mv (.t 7), none⟩, ⟨(some 67), .mv (.t 8), none⟩, ⟨(some 68), .cplx (.t 66) (.t 67), none⟩, ⟨(some 6), .mv (.t 68), none⟩])
 .ret)
def b_law11_answer : AC := (.seq (.reg [⟨(some 6), .mv (.c (.cpx 0 0)), none⟩])
 (.seq (.reg [⟨(some 7), .mv (.c (.flt 0)), none⟩])
 (.seq (.reg [⟨(some 8), .mv (.c (.flt 0)), none⟩])
 (.seq (.seq (.reg [⟨(some 9), .mv (.c (.int .i64 (0))), none⟩])
 (.block 0 (.loop c_law11_answer_L0)))
 c_law11_answer_R1))))
def c_law11_answer : AFun := .code 69 [(.tmp 6)] b_law11_answer
def c_ref11_Same_L0 : AC := (.seq (.seq (.reg [⟨(some 11), .mv (.t 5), none⟩, ⟨(some 12), .mv (.t 0), none⟩, ⟨(some 13), .lenSl (.t 12), none⟩, ⟨(some 14), .bin .lss (.t 11) (.t 13), none⟩])
 (.cond (.t 14) .skip
 (.exit 0)))
 (.seq (.block 1 (.seq (dr [(⟨(some 17), .mv (.t 0), none⟩, .plain), (⟨(some 18), .mv (.t 5), none⟩, .plain), (⟨(some 19), .indexSl (.t 17) (.t 18) 1, none⟩, .plain), (⟨(some 20), .load (.t 19) 1 false, none⟩, .alone), (⟨(some 21), .mv (.t 1), none⟩, .plain), (⟨(some 22), .mv (.t 5), none⟩, .plain), (⟨(some 23), .indexSl (.t 21) (.t 22) 1, none⟩, .plain), (⟨(some 24), .load (.t 23) 1 false, none⟩, .alone), (⟨(some 25), .bin .neq (.t 20) (.t 24), none⟩, .plain)])
 (.cond (.t 25) (.seq (.reg [⟨(some 4), .mv (.c (.bool false)), none⟩])
 .ret)
 .skip)))
 (.reg [⟨(some 15), .mv (.t 5), none⟩, ⟨(some 16), .bin .add (.t 15) (.c (.int .i64 (1))), none⟩, ⟨(some 5), .mv (.t 16), none⟩])))
def c_ref11_Same_R1 : AC := (.seq (.reg [⟨(some 4), .mv (.c (.bool true)), none⟩])
 .ret)
def b_ref11_Same : AC := (.seq (.reg [⟨(some 4), .mv (.c (.bool false)), none⟩])
 (.seq (.seq (.reg [⟨(some 6), .mv (.t 0), none⟩, ⟨(some 7), .lenSl (.t 6), none⟩, ⟨(some 8), .mv (.t 1), none⟩, ⟨(some 9), .lenSl (.t 8), none⟩, ⟨(some 10), .bin .neq (.t 7) (.t 9), none⟩])
 (.cond (.t 10) (.seq (.reg [⟨(some 4), .mv (.c (.bool false)), none⟩])
 .ret)
 .skip))
 (.seq (.seq (.reg [⟨(some 5), .mv (.c (.int .i64 (0))), none⟩])
 (.block 0 (.loop c_ref11_Same_L0)))
 c_ref11_Same_R1)))
def c_ref11_Same : AFun := .code 26 [(.tmp 4)] b_ref11_Same
def c_math_Float64frombits : AFun := .ext .from
def b_ref04_Edge : AC := (.seq (.reg [⟨(some 2), .mv (.c (.int .i64 (0))), none⟩, ⟨(some 3), .mv (.c (.int .i64 (0))), none⟩])
 (.seq (.seq (.reg [⟨(some 4), .mv (.t 0), none⟩])
 (.block 0 (.seq (.reg [⟨(some 6), .bin .eql (.t 4) (.c (.int .i64 (4))), none⟩, ⟨(some 5), .mv (.t 6), none⟩])
 (.cond (.t 5) (.seq (.reg [⟨(some 2), .mv (.c (.int .i64 (1))), none⟩, ⟨(some 3), .mv (.c (.int .i64 (0))), none⟩])
 .ret)
 (.seq (.reg [⟨(some 8), .bin .eql (.t 4) (.c (.int .i64 (16))), none⟩, ⟨(some 7), .mv (.t 8), none⟩])
 (.cond (.t 7) (.seq (.reg [⟨(some 2), .mv (.c (.int .i64 (3))), none⟩, ⟨(some 3), .mv (.c (.int .i64 (0))), none⟩])
 .ret)
 (.seq (.reg [⟨(some 10), .bin .eql (.t 4) (.c (.int .i64 (32))), none⟩, ⟨(some 9), .mv (.t 10), none⟩])
 (.cond (.t 9) (.seq (.reg [⟨(some 2), .mv (.c (.int .i64 (5))), none⟩, ⟨(some 3), .mv (.c (.int .i64 (0))), none⟩])
 .ret)
 (.seq (.reg [⟨(some 12), .bin .eql (.t 4) (.c (.int .i64 (64))), none⟩, ⟨(some 11), .mv (.t 12), none⟩])
 (.cond (.t 11) (.seq (.reg [⟨(some 2), .mv (.c (.int .i64 (7))), none⟩, ⟨(some 3), .mv (.c (.int .i64 (0))), none⟩])
 .ret)
 (.seq (.reg [⟨(some 14), .bin .eql (.t 4) (.c (.int .i64 (128))), none⟩, ⟨(some 13), .mv (.t 14), none⟩])
 (.cond (.t 13) (.seq (.reg [⟨(some 2), .mv (.c (.int .i64 (11))), none⟩, ⟨(some 3), .mv (.c (.int .i64 (0))), none⟩])
 .ret)
 (.seq (.reg [⟨(some 16), .bin .eql (.t 4) (.c (.int .i64 (256))), none⟩, ⟨(some 15), .mv (.t 16), none⟩])
 (.cond (.t 15) (.seq (.reg [⟨(some 2), .mv (.c (.int .i64 (15))), none⟩, ⟨(some 3), .mv (.c (.int .i64 (0))), none⟩])
 .ret)
 .skip))))))))))))))
 (.seq (.reg [⟨(some 2), .mv (.c (.int .i64 (0))), none⟩, ⟨(some 3), .mv (.c (.int .i64 (1))), none⟩])
 .ret)))
def c_ref04_Edge : AFun := .code 17 [(.tmp 2), (.tmp 3)] b_ref04_Edge
def b_ref11_Check : AC := (.seq (.reg [⟨(some 2), .mv (.c (.int .i64 (0))), none⟩])
 (.seq (.seq (.reg [⟨(some 5), .mv (.t 0), none⟩, ⟨(some 6), .call f_ref11_Taps [(.t 5)], none⟩, ⟨(some 7), .un .not (.t 6), none⟩])
 (.cond (.t 7) (.seq (.reg [⟨(some 2), .mv (.c (.int .i64 (8))), none⟩])
 .ret)
 .skip))
 (.seq (.reg [⟨(some 9), .mv (.t 0), none⟩, ⟨(some 10), .indexSl (.t 9) (.c (.int .i64 (0))) 1, none⟩, ⟨(some 11), .load (.t 10) 1 false, none⟩, ⟨(some 12), .call f_ref11_First [(.t 11)], none⟩, ⟨(some 8), .mv (.t 12), none⟩, ⟨(some 13), .extract (.t 8) 0, none⟩, ⟨(some 14), .extract (.t 8) 1, none⟩, ⟨(some 3), .mv (.t 13), none⟩, ⟨(some 4), .mv (.t 14), none⟩])
 (.seq (.seq (.reg [⟨(some 15), .mv (.t 3), none⟩, ⟨(some 16), .bin .eql (.t 15) (.c (.flt 0)), none⟩])
 (.cond (.t 16) (.seq (.reg [⟨(some 2), .mv (.c (.int .i64 (110))), none⟩])
 .ret)
 .skip))
 (.seq (.reg [⟨(some 2), .mv (.c (.int .i64 (0))), none⟩])
 .ret)))))
def c_ref11_Check : AFun := .code 17 [(.tmp 2)] b_ref11_Check
def b_points_Edge : AC := (.seq (.reg [⟨(some 2), .mv (.c (.int .i64 (0))), none⟩, ⟨(some 3), .mv (.c (.int .i64 (0))), none⟩])
 (.seq (.reg [⟨(some 7), .mv (.t 0), none⟩, ⟨(some 8), .call f_points_of [(.t 7)], none⟩, ⟨(some 6), .mv (.t 8), none⟩, ⟨(some 9), .extract (.t 6) 0, none⟩, ⟨(some 10), .extract (.t 6) 1, none⟩, ⟨(some 4), .alloc [(.int .i64 (0)), (.int .i64 (0)), .nilFunc] 121, none⟩, ⟨none, .store (.t 4) (.t 9) 3, none⟩, ⟨(some 5), .mv (.t 10), none⟩])
 (.seq (.seq (.reg [⟨(some 11), .mv (.t 5), none⟩, ⟨(some 12), .un .not (.t 11), none⟩])
 (.cond (.t 12) (.seq (.reg [⟨(some 2), .mv (.c (.int .i64 (0))), none⟩, ⟨(some 3), .mv (.c (.int .i64 (1))), none⟩])
 .ret)
 .skip))
 (.seq (.reg [⟨(some 13), .fieldAddr (.t 4) 1, none⟩, ⟨(some 14), .load (.t 13) 1 false, none⟩, ⟨(some 2), .mv (.t 14), none⟩, ⟨(some 3), .mv (.c (.int .i64 (0))), none⟩])
 .ret))))
def c_points_Edge : AFun := .code 15 [(.tmp 2), (.tmp 3)] b_points_Edge
def c_feedback_first_L0 : AC := (.seq (.reg [⟨(some 8), .bin .lss (.t 7) (.c (.int .i64 (4))), none⟩])
 (.seq (.cond (.t 8) .skip
 (.exit 0))
 (.seq (.block 1 (.seq (.reg [⟨(some 9), .mv (.t 7), none⟩, ⟨(some 5), .mv (.t 9), none⟩])
 (.seq (.reg [⟨(some 10), .mv (.t 0), none⟩, ⟨(some 11), .mv (.t 5), none⟩, ⟨(some 12), .call f_feedback_turned [(.t 10), (.t 11)], none⟩, ⟨(some 6), .mv (.t 12), none⟩])
 (.seq (.reg [⟨(some 13), .mv (.t 6), none⟩, ⟨(some 14), .imag (.t 13), none⟩, ⟨(some 15), .bin .eql (.t 14) (.c (.flt 0)), none⟩, ⟨(some 16), .mv (.t 15), none⟩, ⟨(some 17), .mv (.t 6), (some (16, true))⟩, ⟨(some 18), .real (.t 17), (some (16, true))⟩, ⟨(some 19), .bin .eql (.t 18) (.c (.flt 4607182418800017408)), (some (16, true))⟩, ⟨(some 20), .mv (.t 19), (some (16, true))⟩, ⟨(some 21), .mv (.t 6), (some (20, false))⟩, ⟨(some 22), .real (.t 21), (some (20, false))⟩, ⟨(some 23), .bin .eql (.t 22) (.c (.flt 4602678819172646912)), (some (20, false))⟩, ⟨(some 24), .pick (.t 20) (.c (.bool true)) (.t 23), (some (16, true))⟩, ⟨(some 25), .mv (.t 24), (some (16, true))⟩, ⟨(some 26), .mv (.t 6), (some (25, false))⟩, ⟨(some 27), .real (.t 26), (some (25, false))⟩, ⟨(some 28), .bin .eql (.t 27) (.c (.flt 4598175219545276416)), (some (25, false))⟩, ⟨(some 29), .pick (.t 25) (.c (.bool true)) (.t 28), (some (16, true))⟩, ⟨(some 30), .pick (.t 16) (.t 29) (.c (.bool false)), none⟩])
 (.cond (.t 30) (.seq (.reg [⟨(some 31), .mv (.t 6), none⟩, ⟨(some 32), .real (.t 31), none⟩, ⟨(some 33), .mv (.t 5), none⟩, ⟨(some 2), .mv (.t 32), none⟩, ⟨(some 3), .mv (.t 33), none⟩, ⟨(some 4), .mv (.c (.bool true)), none⟩])
 .ret)
 .skip)))))
 (.reg [⟨(some 34), .bin .add (.t 7) (.c (.int .i64 (1))), none⟩, ⟨(some 7), .mv (.t 34), none⟩]))))
def c_feedback_first_R1 : AC := (.seq (.reg [⟨(some 2), .mv (.c (.flt 0)), none⟩, ⟨(some 3), .mv (.c (.int .i64 (0))), none⟩, ⟨(some 4), .mv (.c (.bool false)), none⟩])
 .ret)
def b_feedback_first : AC := (.seq (.reg [⟨(some 2), .mv (.c (.flt 0)), none⟩, ⟨(some 3), .mv (.c (.int .i64 (0))), none⟩, ⟨(some 4), .mv (.c (.bool false)), none⟩])
 (.seq (.seq (.reg [⟨(some 7), .mv (.c (.int .i64 (0))), none⟩])
 (.block 0 (.loop c_feedback_first_L0)))
 c_feedback_first_R1))
def c_feedback_first : AFun := .code 35 [(.tmp 2), (.tmp 3), (.tmp 4)] b_feedback_first
def b_ref02_May : AC := (.seq (.reg [⟨(some 1), .box (.t 0) 39, none⟩, ⟨(some 2), .mv (.c (.bool false)), none⟩])
 (.seq (.seq (.reg [⟨(some 3), .fieldAddr (.t 1) 1, none⟩, ⟨(some 4), .load (.t 3) 1 false, none⟩])
 (.cond (.t 4) (.seq (.reg [⟨(some 5), .fieldAddr (.t 1) 0, none⟩, ⟨(some 6), .load (.t 5) 1 false, none⟩, ⟨(some 7), .real (.t 6), none⟩, ⟨(some 8), .bin .eql (.t 7) (.c (.flt 0)), none⟩, ⟨(some 9), .mv (.t 8), none⟩, ⟨(some 10), .fieldAddr (.t 1) 0, (some (9, true))⟩, ⟨(some 11), .load (.t 10) 1 false, (some (9, true))⟩, ⟨(some 12), .imag (.t 11), (some (9, true))⟩, ⟨(some 13), .bin .eql (.t 12) (.c (.flt 0)), (some (9, true))⟩, ⟨(some 14), .pick (.t 9) (.t 13) (.c (.bool false)), none⟩, ⟨(some 2), .mv (.t 14), none⟩])
 .ret)
 .skip))
 (.seq (.reg [⟨(some 15), .fieldAddr (.t 1) 0, none⟩, ⟨(some 16), .load (.t 15) 1 false, none⟩, ⟨(some 17), .real (.t 16), none⟩, ⟨(some 18), .call f_ref02_On [(.t 17)], none⟩, ⟨(some 19), .mv (.t 18), none⟩, ⟨(some 20), .fieldAddr (.t 1) 0, (some (19, true))⟩, ⟨(some 21), .load (.t 20) 1 false, (some (19, true))⟩, ⟨(some 22), .imag (.t 21), (some (19, true))⟩, ⟨(some 23), .call f_ref02_On [(.t 22)], (some (19, true))⟩, ⟨(some 24), .pick (.t 19) (.t 23) (.c (.bool false)), none⟩, ⟨(some 2), .mv (.t 24), none⟩])
 .ret)))
def c_ref02_May : AFun := .code 25 [(.tmp 2)] b_ref02_May
def b_ref11_mul : AC := (.seq (.reg [⟨(some 4), .mv (.c (.cpx 0 0)), none⟩])
 (.seq (.reg [⟨(some 5), .mv (.t 0), none⟩, ⟨(some 6), .real (.t 5), none⟩, ⟨(some 7), .mv (.t 1), none⟩, ⟨(some 8), .real (.t 7), none⟩, ⟨(some 9), .bin .mul (.t 6) (.t 8), none⟩, ⟨(some 10), .mv (.t 0), none⟩, ⟨(some 11), .imag (.t 10), none⟩, ⟨(some 12), .mv (.t 1), none⟩, ⟨(some 13), .imag (.t 12), none⟩, ⟨(some 14), .bin .mul (.t 11) (.t 13), none⟩, ⟨(some 15), .bin .sub (.t 9) (.t 14), none⟩, ⟨(some 16), .mv (.t 0), none⟩, ⟨(some 17), .real (.t 16), none⟩, ⟨(some 18), .mv (.t 1), none⟩, ⟨(some 19), .imag (.t 18), none⟩, ⟨(some 20), .bin .mul (.t 17) (.t 19), none⟩, ⟨(some 21), .mv (.t 0), none⟩, ⟨(some 22), .imag (.t 21), none⟩, ⟨(some 23), .mv (.t 1), none⟩, ⟨(some 24), .real (.t 23), none⟩, ⟨(some 25), .bin .mul (.t 22) (.t 24), none⟩, ⟨(some 26), .bin .add (.t 20) (.t 25), none⟩, ⟨(some 27), .cplx (.t 15) (.t 26), none⟩, ⟨(some 4), .mv (.t 27), none⟩])
 .ret))
def c_ref11_mul : AFun := .code 28 [(.tmp 4)] b_ref11_mul
def c_ref05_Decide_L0 : AC := (.seq (.seq (.reg [⟨(some 85), .mv (.t 20), none⟩, ⟨(some 86), .mv (.t 15), none⟩, ⟨(some 87), .lenSl (.t 86), none⟩, ⟨(some 88), .bin .lss (.t 85) (.t 87), none⟩])
 (.cond (.t 88) .skip
 (.exit 0)))
 (.seq (.block 1 (.seq (dr [(⟨(some 91), .mv (.t 17), none⟩, .plain), (⟨(some 92), .mv (.t 15), none⟩, .plain), (⟨(some 93), .mv (.t 20), none⟩, .plain), (⟨(some 94), .indexSl (.t 92) (.t 93) 1, none⟩, .plain), (⟨(some 95), .load (.t 94) 1 false, none⟩, .quiet), (⟨(some 96), .call f_ref05_gap [(.t 91), (.t 95)], none⟩, .mark), (⟨(some 97), .mv (.t 17), none⟩, .plain), (⟨(some 98), .mv (.t 15), none⟩, .plain), (⟨(some 99), .mv (.t 19), none⟩, .plain), (⟨(some 100), .indexSl (.t 98) (.t 99) 1, none⟩, .plain), (⟨(some 101), .load (.t 100) 1 false, none⟩, .quiet), (⟨(some 102), .call f_ref05_gap [(.t 97), (.t 101)], none⟩, .plain), (⟨(some 103), .bin .lss (.t 96) (.t 102), none⟩, .plain)])
 (.cond (.t 103) (.reg [⟨(some 104), .mv (.t 20), none⟩, ⟨(some 19), .mv (.t 104), none⟩])
 .skip)))
 (.reg [⟨(some 89), .mv (.t 20), none⟩, ⟨(some 90), .bin .add (.t 89) (.c (.int .i64 (1))), none⟩, ⟨(some 20), .mv (.t 90), none⟩])))
def c_ref05_Decide_R1 : AC := (.seq (.reg [⟨(some 105), .mv (.t 19), none⟩, ⟨(some 106), .mv (.t 15), none⟩, ⟨(some 107), .mv (.t 19), none⟩, ⟨(some 108), .indexSl (.t 106) (.t 107) 1, none⟩, ⟨(some 109), .load (.t 108) 1 false, none⟩, ⟨(some 110), .build [(.int .i64 (0)), (.cpx 0 0), (.bool false)] [(0, 1, (.t 105)), (1, 1, (.t 109))], none⟩, ⟨none, .store (.t 4) (.t 110) 3, none⟩, ⟨(some 5), .mv (.c (.int .i64 (0))), none⟩])
 .ret)
def b_ref05_Decide : AC := (.seq (.reg [⟨(some 4), .alloc [(.int .i64 (0)), (.cpx 0 0), (.bool false)] 44, none⟩, ⟨(some 5), .mv (.c (.int .i64 (0))), none⟩])
 (.seq (.reg [⟨(some 22), .mv (.t 0), none⟩, ⟨(some 23), .call f_ref04_Edge [(.t 22)], none⟩, ⟨(some 21), .mv (.t 23), none⟩, ⟨(some 24), .extract (.t 21) 0, none⟩, ⟨(some 25), .extract (.t 21) 1, none⟩, ⟨(some 6), .mv (.t 24), none⟩, ⟨(some 7), .mv (.t 25), none⟩])
 (.seq (.seq (.reg [⟨(some 26), .mv (.t 7), none⟩, ⟨(some 27), .bin .neq (.t 26) (.c (.int .i64 (0))), none⟩])
 (.cond (.t 27) (.seq (.reg [⟨(some 28), .build [(.int .i64 (0)), (.cpx 0 0), (.bool false)] [], none⟩, ⟨none, .store (.t 4) (.t 28) 3, none⟩, ⟨(some 5), .mv (.c (.int .i64 (1))), none⟩])
 .ret)
 .skip))
 (.seq (.seq (.reg [⟨(some 29), .mv (.t 1), none⟩, ⟨(some 30), .real (.t 29), none⟩, ⟨(some 31), .call f_ref02_Finite [(.t 30)], none⟩, ⟨(some 32), .un .not (.t 31), none⟩, ⟨(some 33), .mv (.t 32), none⟩, ⟨(some 34), .mv (.t 1), (some (33, false))⟩, ⟨(some 35), .imag (.t 34), (some (33, false))⟩, ⟨(some 36), .call f_ref02_Finite [(.t 35)], (some (33, false))⟩, ⟨(some 37), .un .not (.t 36), (some (33, false))⟩, ⟨(some 38), .pick (.t 33) (.c (.bool true)) (.t 37), none⟩])
 (.cond (.t 38) (.seq (.reg [⟨(some 39), .build [(.int .i64 (0)), (.cpx 0 0), (.bool false)] [(2, 1, (.c (.bool true)))], none⟩, ⟨none, .store (.t 4) (.t 39) 3, none⟩, ⟨(some 5), .mv (.c (.int .i64 (0))), none⟩])
 .ret)
 .skip))
 (.seq (.seq (.reg [⟨(some 40), .mv (.t 0), none⟩, ⟨(some 41), .bin .neq (.t 40) (.c (.int .i64 (32))), none⟩, ⟨(some 42), .mv (.t 41), none⟩, ⟨(some 43), .mv (.t 0), (some (42, true))⟩, ⟨(some 44), .bin .neq (.t 43) (.c (.int .i64 (128))), (some (42, true))⟩, ⟨(some 45), .pick (.t 42) (.t 44) (.c (.bool false)), none⟩])
 (.cond (.t 45) (.seq (.reg [⟨(some 47), .mv (.t 1), none⟩, ⟨(some 48), .real (.t 47), none⟩, ⟨(some 49), .mv (.t 6), none⟩, ⟨(some 50), .call f_ref05_Axis [(.t 48), (.t 49)], none⟩, ⟨(some 46), .mv (.t 50), none⟩, ⟨(some 51), .extract (.t 46) 0, none⟩, ⟨(some 52), .extract (.t 46) 1, none⟩, ⟨(some 8), .mv (.t 51), none⟩, ⟨(some 9), .mv (.t 52), none⟩])
 (.seq (.reg [⟨(some 54), .mv (.t 1), none⟩, ⟨(some 55), .imag (.t 54), none⟩, ⟨(some 56), .mv (.t 6), none⟩, ⟨(some 57), .call f_ref05_Axis [(.t 55), (.t 56)], none⟩, ⟨(some 53), .mv (.t 57), none⟩, ⟨(some 58), .extract (.t 53) 0, none⟩, ⟨(some 59), .extract (.t 53) 1, none⟩, ⟨(some 10), .mv (.t 58), none⟩, ⟨(some 11), .mv (.t 59), none⟩])
 (.seq (.reg [⟨(some 60), .mv (.t 8), none⟩, ⟨(some 61), .conv .toFlt (.t 60), none⟩, ⟨(some 62), .mv (.t 10), none⟩, ⟨(some 63), .conv .toFlt (.t 62), none⟩, ⟨(some 64), .cplx (.t 61) (.t 63), none⟩, ⟨(some 12), .mv (.t 64), none⟩])
 (.seq (.reg [⟨(some 66), .mv (.t 0), none⟩, ⟨(some 67), .mv (.t 12), none⟩, ⟨(some 68), .call f_ref04_Label [(.t 66), (.t 67)], none⟩, ⟨(some 65), .mv (.t 68), none⟩, ⟨(some 69), .extract (.t 65) 0, none⟩, ⟨(some 70), .extract (.t 65) 1, none⟩, ⟨(some 13), .mv (.t 69), none⟩, ⟨(some 14), .mv (.t 70), none⟩])
 (.seq (.reg [⟨(some 71), .mv (.t 13), none⟩, ⟨(some 72), .mv (.t 12), none⟩, ⟨(some 73), .build [(.int .i64 (0)), (.cpx 0 0), (.bool false)] [(0, 1, (.t 71)), (1, 1, (.t 72))], none⟩, ⟨none, .store (.t 4) (.t 73) 3, none⟩, ⟨(some 5), .mv (.c (.int .i64 (0))), none⟩])
 .ret)))))
 .skip))
 (.seq (.reg [⟨(some 75), .mv (.t 0), none⟩, ⟨(some 76), .call f_ref04_All [(.t 75)], none⟩, ⟨(some 74), .mv (.t 76), none⟩, ⟨(some 77), .extract (.t 74) 0, none⟩, ⟨(some 78), .extract (.t 74) 1, none⟩, ⟨(some 15), .mv (.t 77), none⟩, ⟨(some 16), .mv (.t 78), none⟩])
 (.seq (.reg [⟨(some 80), .mv (.t 0), none⟩, ⟨(some 81), .mv (.t 1), none⟩, ⟨(some 82), .call f_ref05_Cut [(.t 80), (.t 81)], none⟩, ⟨(some 79), .mv (.t 82), none⟩, ⟨(some 83), .extract (.t 79) 0, none⟩, ⟨(some 84), .extract (.t 79) 1, none⟩, ⟨(some 17), .mv (.t 83), none⟩, ⟨(some 18), .mv (.t 84), none⟩])
 (.seq (.reg [⟨(some 19), .mv (.c (.int .i64 (0))), none⟩])
 (.seq (.seq (.reg [⟨(some 20), .mv (.c (.int .i64 (1))), none⟩])
 (.block 0 (.loop c_ref05_Decide_L0)))
 c_ref05_Decide_R1)))))))))
def c_ref05_Decide : AFun := .code 111 [(.cell 4 3 true), (.tmp 5)] b_ref05_Decide
def c_grid_Check_L0 : AC := (.seq (.reg [⟨(some 12), .bin .lss (.t 11) (.t 10), none⟩])
 (.seq (.cond (.t 12) .skip
 (.exit 0))
 (.seq (.block 1 (.seq (.reg [⟨(some 13), .mv (.t 11), none⟩, ⟨(some 14), .indexSl (.t 9) (.t 11) 2, none⟩, ⟨(some 15), .load (.t 14) 2 true, none⟩, ⟨(some 5), .alloc [(.cpx 0 0), (.bool false)] 39, none⟩, ⟨(some 4), .mv (.t 13), none⟩, ⟨none, .store (.t 5) (.t 15) 2, none⟩])
 (.seq (.reg [⟨(some 16), .load (.t 5) 2 true, none⟩, ⟨(some 17), .call f_grid_may [(.t 16)], none⟩, ⟨(some 18), .un .not (.t 17), none⟩])
 (.cond (.t 18) (.seq (.reg [⟨(some 19), .mv (.t 4), none⟩, ⟨(some 2), .mv (.t 19), none⟩, ⟨(some 3), .mv (.c (.int .i64 (7))), none⟩])
 .ret)
 .skip))))
 (.reg [⟨(some 20), .bin .add (.t 11) (.c (.int .i64 (1))), none⟩, ⟨(some 11), .mv (.t 20), none⟩]))))
def c_grid_Check_R1 : AC := (.seq (.reg [⟨(some 2), .mv (.c (.int .i64 (0))), none⟩, ⟨(some 3), .mv (.c (.int .i64 (0))), none⟩])
 .ret)
def b_grid_Check : AC := (.seq (.reg [⟨(some 2), .mv (.c (.int .i64 (0))), none⟩, ⟨(some 3), .mv (.c (.int .i64 (0))), none⟩])
 (.seq (.seq (.reg [⟨(some 6), .mv (.t 0), none⟩, ⟨(some 7), .lenSl (.t 6), none⟩, ⟨(some 8), .bin .gtr (.t 7) (.c (.int .i64 (65536))), none⟩])
 (.cond (.t 8) (.seq (.reg [⟨(some 2), .mv (.c (.int .i64 (0))), none⟩, ⟨(some 3), .mv (.c (.int .i64 (1))), none⟩])
 .ret)
 .skip))
 (.seq (.seq (.reg [⟨(some 9), .mv (.t 0), none⟩, ⟨(some 10), .lenSl (.t 9), none⟩, ⟨(some 11), .mv (.c (.int .i64 (0))), none⟩])
 (.block 0 (.loop c_grid_Check_L0)))
 c_grid_Check_R1)))
def c_grid_Check : AFun := .code 21 [(.tmp 2), (.tmp 3)] b_grid_Check
def b_feedback_times : AC := (.seq (.reg [⟨(some 4), .mv (.c (.flt 0)), none⟩, ⟨(some 5), .mv (.c (.flt 0)), none⟩])
 (.seq (.reg [⟨(some 6), .mv (.t 0), none⟩, ⟨(some 7), .real (.t 6), none⟩, ⟨(some 8), .mv (.t 1), none⟩, ⟨(some 9), .real (.t 8), none⟩, ⟨(some 10), .bin .mul (.t 7) (.t 9), none⟩, ⟨(some 11), .mv (.t 0), none⟩, ⟨(some 12), .imag (.t 11), none⟩, ⟨(some 13), .mv (.t 1), none⟩, ⟨(some 14), .imag (.t 13), none⟩, ⟨(some 15), .bin .mul (.t 12) (.t 14), none⟩, ⟨(some 16), .bin .sub (.t 10) (.t 15), none⟩, ⟨(some 17), .mv (.t 0), none⟩, ⟨(some 18), .real (.t 17), none⟩, ⟨(some 19), .mv (.t 1), none⟩, ⟨(some 20), .imag (.t 19), none⟩, ⟨(some 21), .bin .mul (.t 18) (.t 20), none⟩, ⟨(some 22), .mv (.t 0), none⟩, ⟨(some 23), .imag (.t 22), none⟩, ⟨(some 24), .mv (.t 1), none⟩, ⟨(some 25), .real (.t 24), none⟩, ⟨(some 26), .bin .mul (.t 23) (.t 25), none⟩, ⟨(some 27), .bin .add (.t 21) (.t 26), none⟩, ⟨(some 4), .mv (.t 16), none⟩, ⟨(some 5), .mv (.t 27), none⟩])
 .ret))
def c_feedback_times : AFun := .code 28 [(.tmp 4), (.tmp 5)] b_feedback_times
def c_feedback_turned_L0 : AC := (.seq (.reg [⟨(some 7), .bin .lss (.t 6) (.t 5), none⟩])
 (.seq (.cond (.t 7) .skip
 (.exit 0))
 (.seq (.block 1 (.reg [⟨(some 8), .mv (.t 0), none⟩, ⟨(some 9), .imag (.t 8), none⟩, ⟨(some 10), .mv (.t 0), none⟩, ⟨(some 11), .real (.t 10), none⟩, ⟨(some 12), .un .neg (.t 11), none⟩, ⟨(some 13), .cplx (.t 9) (.t 12), none⟩, ⟨(some 0), .mv (.t 13), none⟩]))
 (.reg [⟨(some 14), .bin .add (.t 6) (.c (.int .i64 (1))), none⟩, ⟨(some 6), .mv (.t 14), none⟩]))))
def c_feedback_turned_R1 : AC := (.seq (.reg [⟨(some 15), .mv (.t 0), none⟩, ⟨(some 4), .mv (.t 15), none⟩])
 .ret)
def b_feedback_turned : AC := (.seq (.reg [⟨(some 4), .mv (.c (.cpx 0 0)), none⟩])
 (.seq (.seq (.reg [⟨(some 5), .mv (.t 1), none⟩, ⟨(some 6), .mv (.c (.int .i64 (0))), none⟩])
 (.block 0 (.loop c_feedback_turned_L0)))
 c_feedback_turned_R1))
def c_feedback_turned : AFun := .code 16 [(.tmp 4)] b_feedback_turned
def b_slice_Decide : AC := (.seq (.reg [⟨(some 4), .alloc [(.int .i64 (0)), (.cpx 0 0), (.bool false)] 47, none⟩, ⟨(some 5), .mv (.c (.int .i64 (0))), none⟩])
 (.seq (.reg [⟨(some 9), .mv (.t 0), none⟩, ⟨(some 10), .call f_points_Edge [(.t 9)], none⟩, ⟨(some 8), .mv (.t 10), none⟩, ⟨(some 11), .extract (.t 8) 0, none⟩, ⟨(some 12), .extract (.t 8) 1, none⟩, ⟨(some 6), .mv (.t 11), none⟩, ⟨(some 7), .mv (.t 12), none⟩])
 (.seq (.seq (.reg [⟨(some 13), .mv (.t 7), none⟩, ⟨(some 14), .bin .neq (.t 13) (.c (.int .i64 (0))), none⟩])
 (.cond (.t 14) (.seq (.reg [⟨(some 15), .build [(.int .i64 (0)), (.cpx 0 0), (.bool false)] [], none⟩, ⟨none, .store (.t 4) (.t 15) 3, none⟩, ⟨(some 5), .mv (.c (.int .i64 (1))), none⟩])
 .ret)
 .skip))
 (.seq (.reg [⟨(some 16), .mv (.t 0), none⟩, ⟨(some 17), .mv (.t 6), none⟩, ⟨(some 18), .mv (.t 1), none⟩, ⟨(some 19), .call f_slice_decide [(.t 16), (.t 17), (.t 18)], none⟩, ⟨none, .store (.t 4) (.t 19) 3, none⟩, ⟨(some 5), .mv (.c (.int .i64 (0))), none⟩])
 .ret))))
def c_slice_Decide : AFun := .code 20 [(.cell 4 3 true), (.tmp 5)] b_slice_Decide
def c_feedback_taps_L0 : AC := (.seq (.reg [⟨(some 9), .bin .lss (.t 8) (.t 7), none⟩])
 (.seq (.cond (.t 9) .skip
 (.exit 0))
 (.seq (.block 1 (.seq (.reg [⟨(some 10), .indexSl (.t 6) (.t 8) 1, none⟩, ⟨(some 11), .load (.t 10) 1 false, none⟩, ⟨(some 5), .mv (.t 11), none⟩])
 (.seq (.seq (.reg [⟨(some 12), .mv (.t 5), none⟩, ⟨(some 13), .real (.t 12), none⟩, ⟨(some 14), .call f_feedback_step [(.t 13)], none⟩, ⟨(some 15), .un .not (.t 14), none⟩, ⟨(some 16), .mv (.t 15), none⟩, ⟨(some 17), .mv (.t 5), (some (16, false))⟩, ⟨(some 18), .imag (.t 17), (some (16, false))⟩, ⟨(some 19), .call f_feedback_step [(.t 18)], (some (16, false))⟩, ⟨(some 20), .un .not (.t 19), (some (16, false))⟩, ⟨(some 21), .pick (.t 16) (.c (.bool true)) (.t 20), none⟩])
 (.cond (.t 21) (.seq (.reg [⟨(some 2), .mv (.c (.bool false)), none⟩])
 .ret)
 .skip))
 (.reg [⟨(some 22), .mv (.t 3), none⟩, ⟨(some 23), .mv (.t 5), none⟩, ⟨(some 24), .real (.t 23), none⟩, ⟨(some 25), .call f_math_Abs [(.t 24)], none⟩, ⟨(some 26), .mv (.t 5), none⟩, ⟨(some 27), .imag (.t 26), none⟩, ⟨(some 28), .call f_math_Abs [(.t 27)], none⟩, ⟨(some 29), .bin .add (.t 25) (.t 28), none⟩, ⟨(some 30), .bin .add (.t 22) (.t 29), none⟩, ⟨(some 3), .mv (.t 30), none⟩]))))
 (.reg [⟨(some 31), .bin .add (.t 8) (.c (.int .i64 (1))), none⟩, ⟨(some 8), .mv (.t 31), none⟩]))))
def c_feedback_taps_R1 : AC := (.seq (.reg [⟨(some 32), .mv (.t 0), none⟩, ⟨(some 33), .lenSl (.t 32), none⟩, ⟨(some 34), .bin .gtr (.t 33) (.c (.int .i64 (0))), none⟩, ⟨(some 35), .mv (.t 34), none⟩, ⟨(some 36), .mv (.t 0), (some (35, true))⟩, ⟨(some 37), .lenSl (.t 36), (some (35, true))⟩, ⟨(some 38), .bin .leq (.t 37) (.c (.int .i64 (64))), (some (35, true))⟩, ⟨(some 39), .pick (.t 35) (.t 38) (.c (.bool false)), none⟩, ⟨(some 40), .mv (.t 39), none⟩, ⟨(some 41), .mv (.t 3), (some (40, true))⟩, ⟨(some 42), .bin .leq (.t 41) (.c (.flt 4616189618054758400)), (some (40, true))⟩, ⟨(some 43), .pick (.t 40) (.t 42) (.c (.bool false)), none⟩, ⟨(some 2), .mv (.t 43), none⟩])
 .ret)
def b_feedback_taps : AC := (.seq (.reg [⟨(some 2), .mv (.c (.bool false)), none⟩])
 (.seq (.reg [⟨(some 3), .mv (.c (.flt 0)), none⟩])
 (.seq (.seq (.reg [⟨(some 6), .mv (.t 0), none⟩, ⟨(some 7), .lenSl (.t 6), none⟩, ⟨(some 8), .mv (.c (.int .i64 (0))), none⟩])
 (.block 0 (.loop c_feedback_taps_L0)))
 c_feedback_taps_R1)))
def c_feedback_taps : AFun := .code 44 [(.tmp 2)] b_feedback_taps
def c_feedback_run_L0 : AC := (.seq (.reg [⟨(some 46), .bin .lss (.t 45) (.t 44), none⟩])
 (.seq (.cond (.t 46) .skip
 (.exit 0))
 (.seq (.block 1 (.seq (.reg [⟨(some 47), .indexSl (.t 43) (.t 45) 2, none⟩, ⟨(some 48), .load (.t 47) 2 true, none⟩, ⟨(some 16), .alloc [(.cpx 0 0), (.bool false)] 39, none⟩, ⟨none, .store (.t 16) (.t 48) 2, none⟩])
 (.seq (.reg [⟨(some 50), .mv (.t 9), none⟩, ⟨(some 51), .load (.t 16) 2 true, none⟩, ⟨(some 52), .call f_feedback_Loop_Step [(.t 50), (.t 51)], none⟩, ⟨(some 49), .mv (.t 52), none⟩, ⟨(some 53), .extract (.t 49) 0, none⟩, ⟨(some 54), .extract (.t 49) 1, none⟩, ⟨(some 17), .alloc [(.int .i64 (0)), (.cpx 0 0), (.bool false)] 47, none⟩, ⟨none, .store (.t 17) (.t 53) 3, none⟩, ⟨(some 18), .mv (.t 54), none⟩])
 (.seq (.reg [⟨(some 19), .mv (.c (.cpx 0 0)), none⟩])
 (.seq (.seq (.reg [⟨(some 55), .fieldAddr (.t 17) 2, none⟩, ⟨(some 56), .load (.t 55) 1 false, none⟩, ⟨(some 57), .un .not (.t 56), none⟩])
 (.cond (.t 57) (dr [(⟨(some 58), .mv (.t 9), none⟩, .plain), (⟨(some 59), .nilck (.t 58), none⟩, .plain), (⟨(some 60), .fieldAddr (.t 59) 135, none⟩, .plain), (⟨(some 61), .load (.t 60) 1 false, none⟩, .alone), (⟨(some 62), .real (.t 61), none⟩, .plain), (⟨(some 63), .fieldAddr (.t 17) 1, none⟩, .plain), (⟨(some 64), .load (.t 63) 1 false, none⟩, .alone), (⟨(some 65), .real (.t 64), none⟩, .plain), (⟨(some 66), .bin .sub (.t 62) (.t 65), none⟩, .plain), (⟨(some 67), .mv (.t 9), none⟩, .plain), (⟨(some 68), .nilck (.t 67), none⟩, .plain), (⟨(some 69), .fieldAddr (.t 68) 135, none⟩, .plain), (⟨(some 70), .load (.t 69) 1 false, none⟩, .alone), (⟨(some 71), .imag (.t 70), none⟩, .plain), (⟨(some 72), .fieldAddr (.t 17) 1, none⟩, .plain), (⟨(some 73), .load (.t 72) 1 false, none⟩, .alone), (⟨(some 74), .imag (.t 73), none⟩, .plain), (⟨(some 75), .bin .sub (.t 71) (.t 74), none⟩, .plain), (⟨(some 76), .cplx (.t 66) (.t 75), none⟩, .plain), (⟨(some 19), .mv (.t 76), none⟩, .plain)])
 .skip))
 (.reg [⟨(some 77), .mv (.t 13), none⟩, ⟨(some 78), .load (.t 17) 3 true, none⟩, ⟨(some 79), .buildSl [(.int .i64 (0)), (.cpx 0 0), (.bool false)] 3 1 [(0, 3, (.t 78))] 47, none⟩, ⟨(some 80), .app (.t 77) (.t 79) 3 32 47, none⟩, ⟨(some 81), .mv (.t 14), none⟩, ⟨(some 82), .mv (.t 19), none⟩, ⟨(some 83), .buildSl [(.cpx 0 0)] 1 1 [(0, 1, (.t 82))] 33, none⟩, ⟨(some 84), .app (.t 81) (.t 83) 1 16 33, none⟩, ⟨(some 13), .mv (.t 80), none⟩, ⟨(some 14), .mv (.t 84), none⟩]))))))
 (.reg [⟨(some 85), .bin .add (.t 45) (.c (.int .i64 (1))), none⟩, ⟨(some 45), .mv (.t 85), none⟩]))))
def c_feedback_run_R1 : AC := (.seq (.reg [⟨(some 86), .mv (.t 13), none⟩, ⟨(some 87), .mv (.t 14), none⟩, ⟨(some 6), .mv (.t 86), none⟩, ⟨(some 7), .mv (.t 87), none⟩, ⟨(some 8), .mv (.c (.int .i64 (0))), none⟩])
 .ret)
def b_feedback_run : AC := (.seq (.reg [⟨(some 6), .mv (.c .nilSl), none⟩, ⟨(some 7), .mv (.c .nilSl), none⟩, ⟨(some 8), .mv (.c (.int .i64 (0))), none⟩])
 (.seq (.reg [⟨(some 21), .mv (.t 0), none⟩, ⟨(some 22), .mv (.t 1), none⟩, ⟨(some 23), .call f_feedback_New [(.t 21), (.t 22)], none⟩, ⟨(some 20), .mv (.t 23), none⟩, ⟨(some 24), .extract (.t 20) 0, none⟩, ⟨(some 25), .extract (.t 20) 1, none⟩, ⟨(some 9), .mv (.t 24), none⟩, ⟨(some 10), .mv (.t 25), none⟩])
 (.seq (.seq (.reg [⟨(some 26), .mv (.t 10), none⟩, ⟨(some 27), .bin .neq (.t 26) (.c (.int .i64 (0))), none⟩])
 (.cond (.t 27) (.seq (.reg [⟨(some 28), .mv (.t 10), none⟩, ⟨(some 6), .mv (.c .nilSl), none⟩, ⟨(some 7), .mv (.c .nilSl), none⟩, ⟨(some 8), .mv (.t 28), none⟩])
 .ret)
 .skip))
 (.seq (.seq (.reg [⟨(some 30), .mv (.t 2), none⟩, ⟨(some 31), .call f_grid_Check [(.t 30)], none⟩, ⟨(some 29), .mv (.t 31), none⟩, ⟨(some 32), .extract (.t 29) 0, none⟩, ⟨(some 33), .extract (.t 29) 1, none⟩, ⟨(some 11), .mv (.t 32), none⟩, ⟨(some 12), .mv (.t 33), none⟩])
 (.seq (.reg [⟨(some 34), .mv (.t 12), none⟩, ⟨(some 35), .bin .neq (.t 34) (.c (.int .i64 (0))), none⟩])
 (.cond (.t 35) (.seq (.reg [⟨(some 36), .mv (.t 12), none⟩, ⟨(some 6), .mv (.c .nilSl), none⟩, ⟨(some 7), .mv (.c .nilSl), none⟩, ⟨(some 8), .mv (.t 36), none⟩])
 .ret)
 .skip)))
 (.seq (dr [(⟨(some 37), .mv (.t 2), none⟩, .plain), (⟨(some 38), .lenSl (.t 37), none⟩, .plain), (⟨(some 39), .mkSl (.c (.int .i64 (0))) (.t 38) [(.int .i64 (0)), (.cpx 0 0), (.bool false)] 3 32 47, none⟩, .alone), (⟨(some 40), .mv (.t 2), none⟩, .plain), (⟨(some 41), .lenSl (.t 40), none⟩, .plain), (⟨(some 42), .mkSl (.c (.int .i64 (0))) (.t 41) [(.cpx 0 0)] 1 16 33, none⟩, .alone), (⟨(some 13), .mv (.t 39), none⟩, .plain), (⟨(some 14), .mv (.t 42), none⟩, .plain)])
 (.seq (.seq (.reg [⟨(some 43), .mv (.t 2), none⟩, ⟨(some 44), .lenSl (.t 43), none⟩, ⟨(some 45), .mv (.c (.int .i64 (0))), none⟩])
 (.block 0 (.loop c_feedback_run_L0)))
 c_feedback_run_R1))))))
def c_feedback_run : AFun := .code 88 [(.tmp 6), (.tmp 7), (.tmp 8)] b_feedback_run
def c_ref02_Check_L0 : AC := (.seq (.seq (.reg [⟨(some 8), .mv (.t 4), none⟩, ⟨(some 9), .mv (.t 0), none⟩, ⟨(some 10), .lenSl (.t 9), none⟩, ⟨(some 11), .bin .lss (.t 8) (.t 10), none⟩])
 (.cond (.t 11) .skip
 (.exit 0)))
 (.seq (.block 1 (.seq (.reg [⟨(some 14), .mv (.t 0), none⟩, ⟨(some 15), .mv (.t 4), none⟩, ⟨(some 16), .indexSl (.t 14) (.t 15) 2, none⟩, ⟨(some 17), .load (.t 16) 2 true, none⟩, ⟨(some 18), .call f_ref02_May [(.t 17)], none⟩, ⟨(some 19), .un .not (.t 18), none⟩])
 (.cond (.t 19) (.seq (.reg [⟨(some 20), .mv (.t 4), none⟩, ⟨(some 2), .mv (.t 20), none⟩, ⟨(some 3), .mv (.c (.int .i64 (7))), none⟩])
 .ret)
 .skip)))
 (.reg [⟨(some 12), .mv (.t 4), none⟩, ⟨(some 13), .bin .add (.t 12) (.c (.int .i64 (1))), none⟩, ⟨(some 4), .mv (.t 13), none⟩])))
def c_ref02_Check_R1 : AC := (.seq (.reg [⟨(some 2), .mv (.c (.int .i64 (0))), none⟩, ⟨(some 3), .mv (.c (.int .i64 (0))), none⟩])
 .ret)
def b_ref02_Check : AC := (.seq (.reg [⟨(some 2), .mv (.c (.int .i64 (0))), none⟩, ⟨(some 3), .mv (.c (.int .i64 (0))), none⟩])
 (.seq (.seq (.reg [⟨(some 5), .mv (.t 0), none⟩, ⟨(some 6), .lenSl (.t 5), none⟩, ⟨(some 7), .bin .gtr (.t 6) (.c (.int .i64 (65536))), none⟩])
 (.cond (.t 7) (.seq (.reg [⟨(some 2), .mv (.c (.int .i64 (0))), none⟩, ⟨(some 3), .mv (.c (.int .i64 (1))), none⟩])
 .ret)
 .skip))
 (.seq (.seq (.reg [⟨(some 4), .mv (.c (.int .i64 (0))), none⟩])
 (.block 0 (.loop c_ref02_Check_L0)))
 c_ref02_Check_R1)))
def c_ref02_Check : AFun := .code 21 [(.tmp 2), (.tmp 3)] b_ref02_Check
def b_grid_On : AC := (.seq (.reg [⟨(some 2), .mv (.c (.bool false)), none⟩])
 (.seq (.reg [⟨(some 3), .mv (.t 0), none⟩, ⟨(some 4), .call f_grid_within [(.t 3)], none⟩, ⟨(some 5), .mv (.t 4), none⟩, ⟨(some 6), .mv (.t 0), (some (5, true))⟩, ⟨(some 7), .bin .mul (.t 6) (.c (.flt 4661225614328463360)), (some (5, true))⟩, ⟨(some 8), .call f_math_Floor [(.t 7)], (some (5, true))⟩, ⟨(some 9), .mv (.t 0), (some (5, true))⟩, ⟨(some 10), .bin .mul (.t 9) (.c (.flt 4661225614328463360)), (some (5, true))⟩, ⟨(some 11), .bin .eql (.t 8) (.t 10), (some (5, true))⟩, ⟨(some 12), .pick (.t 5) (.t 11) (.c (.bool false)), none⟩, ⟨(some 2), .mv (.t 12), none⟩])
 .ret))
def c_grid_On : AFun := .code 13 [(.tmp 2)] b_grid_On
def c_ref04_Points_L1 : AC := (.seq (.seq (.reg [⟨(some 28), .mv (.t 8), none⟩, ⟨(some 29), .mv (.t 4), none⟩, ⟨(some 30), .bin .leq (.t 28) (.t 29), none⟩])
 (.cond (.t 30) .skip
 (.exit 2)))
 (.seq (.block 3 (.seq (.reg [⟨(some 33), .mv (.t 0), none⟩, ⟨(some 34), .mv (.t 7), none⟩, ⟨(some 35), .mv (.t 8), none⟩, ⟨(some 36), .build [(.int .i64 (0)), (.int .i64 (0))] [(0, 1, (.t 34)), (1, 1, (.t 35))], none⟩, ⟨(some 37), .call f_ref04_in [(.t 33), (.t 36)], none⟩])
 (.cond (.t 37) (.reg [⟨(some 38), .mv (.t 6), none⟩, ⟨(some 39), .mv (.t 0), none⟩, ⟨(some 40), .mv (.t 7), none⟩, ⟨(some 41), .mv (.t 8), none⟩, ⟨(some 42), .build [(.int .i64 (0)), (.int .i64 (0))] [(0, 1, (.t 40)), (1, 1, (.t 41))], none⟩, ⟨(some 43), .call f_ref04_label [(.t 39), (.t 42)], none⟩, ⟨(some 44), .mv (.t 7), none⟩, ⟨(some 45), .mv (.t 8), none⟩, ⟨(some 46), .build [(.int .i64 (0)), (.int .i64 (0))] [(0, 1, (.t 44)), (1, 1, (.t 45))], none⟩, ⟨(some 47), .indexSl (.t 38) (.t 43) 2, none⟩, ⟨none, .store (.t 47) (.t 46) 2, none⟩])
 .skip)))
 (.reg [⟨(some 31), .mv (.t 8), none⟩, ⟨(some 32), .bin .add (.t 31) (.c (.int .i64 (1))), none⟩, ⟨(some 8), .mv (.t 32), none⟩])))
def c_ref04_Points_R2 : AC := (.reg [⟨(some 24), .mv (.t 7), none⟩, ⟨(some 25), .bin .add (.t 24) (.c (.int .i64 (1))), none⟩, ⟨(some 7), .mv (.t 25), none⟩])
def c_ref04_Points_L0 : AC := (.seq (.seq (.reg [⟨(some 21), .mv (.t 7), none⟩, ⟨(some 22), .mv (.t 4), none⟩, ⟨(some 23), .bin .leq (.t 21) (.t 22), none⟩])
 (.cond (.t 23) .skip
 (.exit 0)))
 (.seq (.block 1 (.seq (.reg [⟨(some 26), .mv (.t 4), none⟩, ⟨(some 27), .un .neg (.t 26), none⟩, ⟨(some 8), .mv (.t 27), none⟩])
 (.block 2 (.loop c_ref04_Points_L1))))
 c_ref04_Points_R2))
def c_ref04_Points_R3 : AC := (.seq (.reg [⟨(some 48), .mv (.t 6), none⟩, ⟨(some 2), .mv (.t 48), none⟩, ⟨(some 3), .mv (.c (.int .i64 (0))), none⟩])
 .ret)
def b_ref04_Points : AC := (.seq (.reg [⟨(some 2), .mv (.c .nilSl), none⟩, ⟨(some 3), .mv (.c (.int .i64 (0))), none⟩])
 (.seq (.reg [⟨(some 10), .mv (.t 0), none⟩, ⟨(some 11), .call f_ref04_Edge [(.t 10)], none⟩, ⟨(some 9), .mv (.t 11), none⟩, ⟨(some 12), .extract (.t 9) 0, none⟩, ⟨(some 13), .extract (.t 9) 1, none⟩, ⟨(some 4), .mv (.t 12), none⟩, ⟨(some 5), .mv (.t 13), none⟩])
 (.seq (.seq (.reg [⟨(some 14), .mv (.t 5), none⟩, ⟨(some 15), .bin .neq (.t 14) (.c (.int .i64 (0))), none⟩])
 (.cond (.t 15) (.seq (.reg [⟨(some 16), .mv (.t 5), none⟩, ⟨(some 2), .mv (.c .nilSl), none⟩, ⟨(some 3), .mv (.t 16), none⟩])
 .ret)
 .skip))
 (.seq (.reg [⟨(some 17), .mv (.t 0), none⟩, ⟨(some 18), .mkSl (.t 17) (.t 17) [(.int .i64 (0)), (.int .i64 (0))] 2 16 118, none⟩, ⟨(some 6), .mv (.t 18), none⟩])
 (.seq (.seq (.reg [⟨(some 19), .mv (.t 4), none⟩, ⟨(some 20), .un .neg (.t 19), none⟩, ⟨(some 7), .mv (.t 20), none⟩])
 (.block 0 (.loop c_ref04_Points_L0)))
 c_ref04_Points_R3)))))
def c_ref04_Points : AFun := .code 49 [(.tmp 2), (.tmp 3)] b_ref04_Points
def b_ref04_Number : AC := (.seq (.reg [⟨(some 1), .box (.t 0) 118, none⟩, ⟨(some 2), .mv (.c (.cpx 0 0)), none⟩])
 (.seq (.reg [⟨(some 3), .fieldAddr (.t 1) 0, none⟩, ⟨(some 4), .load (.t 3) 1 false, none⟩, ⟨(some 5), .conv .toFlt (.t 4), none⟩, ⟨(some 6), .fieldAddr (.t 1) 1, none⟩, ⟨(some 7), .load (.t 6) 1 false, none⟩, ⟨(some 8), .conv .toFlt (.t 7), none⟩, ⟨(some 9), .cplx (.t 5) (.t 8), none⟩, ⟨(some 2), .mv (.t 9), none⟩])
 .ret))
def c_ref04_Number : AFun := .code 10 [(.tmp 2)] b_ref04_Number
def c_ref11_Taps_L0 : AC := (.seq (.seq (.reg [⟨(some 13), .mv (.t 4), none⟩, ⟨(some 14), .mv (.t 0), none⟩, ⟨(some 15), .lenSl (.t 14), none⟩, ⟨(some 16), .bin .lss (.t 13) (.t 15), none⟩])
 (.cond (.t 16) .skip
 (.exit 0)))
 (.seq (.block 1 (.seq (.seq (.reg [⟨(some 19), .mv (.t 0), none⟩, ⟨(some 20), .mv (.t 4), none⟩, ⟨(some 21), .indexSl (.t 19) (.t 20) 1, none⟩, ⟨(some 22), .load (.t 21) 1 false, none⟩, ⟨(some 23), .real (.t 22), none⟩, ⟨(some 24), .call f_ref11_step [(.t 23)], none⟩, ⟨(some 25), .un .not (.t 24), none⟩, ⟨(some 26), .mv (.t 25), none⟩, ⟨(some 27), .mv (.t 0), (some (26, false))⟩, ⟨(some 28), .mv (.t 4), (some (26, false))⟩, ⟨(some 29), .indexSl (.t 27) (.t 28) 1, (some (26, false))⟩, ⟨(some 30), .load (.t 29) 1 false, (some (26, false))⟩, ⟨(some 31), .imag (.t 30), (some (26, false))⟩, ⟨(some 32), .call f_ref11_step [(.t 31)], (some (26, false))⟩, ⟨(some 33), .un .not (.t 32), (some (26, false))⟩, ⟨(some 34), .pick (.t 26) (.c (.bool true)) (.t 33), none⟩])
 (.cond (.t 34) (.seq (.reg [⟨(some 2), .mv (.c (.bool false)), none⟩])
 .ret)
 .skip))
 (dr [(⟨(some 35), .mv (.t 3), none⟩, .plain), (⟨(some 36), .mv (.t 0), none⟩, .plain), (⟨(some 37), .mv (.t 4), none⟩, .plain), (⟨(some 38), .indexSl (.t 36) (.t 37) 1, none⟩, .plain), (⟨(some 39), .load (.t 38) 1 false, none⟩, .quiet), (⟨(some 40), .real (.t 39), none⟩, .plain), (⟨(some 41), .call f_ref11_size [(.t 40)], none⟩, .mark), (⟨(some 42), .bin .add (.t 35) (.t 41), none⟩, .plain), (⟨(some 43), .mv (.t 0), none⟩, .plain), (⟨(some 44), .mv (.t 4), none⟩, .plain), (⟨(some 45), .indexSl (.t 43) (.t 44) 1, none⟩, .plain), (⟨(some 46), .load (.t 45) 1 false, none⟩, .quiet), (⟨(some 47), .imag (.t 46), none⟩, .plain), (⟨(some 48), .call f_ref11_size [(.t 47)], none⟩, .plain), (⟨(some 49), .bin .add (.t 42) (.t 48), none⟩, .plain), (⟨(some 3), .mv (.t 49), none⟩, .plain)])))
 (.reg [⟨(some 17), .mv (.t 4), none⟩, ⟨(some 18), .bin .add (.t 17) (.c (.int .i64 (1))), none⟩, ⟨(some 4), .mv (.t 18), none⟩])))
def c_ref11_Taps_R1 : AC := (.seq (.reg [⟨(some 50), .mv (.t 3), none⟩, ⟨(some 51), .bin .leq (.t 50) (.c (.flt 4616189618054758400)), none⟩, ⟨(some 2), .mv (.t 51), none⟩])
 .ret)
def b_ref11_Taps : AC := (.seq (.reg [⟨(some 2), .mv (.c (.bool false)), none⟩])
 (.seq (.seq (.reg [⟨(some 5), .mv (.t 0), none⟩, ⟨(some 6), .lenSl (.t 5), none⟩, ⟨(some 7), .bin .lss (.t 6) (.c (.int .i64 (1))), none⟩, ⟨(some 8), .mv (.t 7), none⟩, ⟨(some 9), .mv (.t 0), (some (8, false))⟩, ⟨(some 10), .lenSl (.t 9), (some (8, false))⟩, ⟨(some 11), .bin .gtr (.t 10) (.c (.int .i64 (64))), (some (8, false))⟩, ⟨(some 12), .pick (.t 8) (.c (.bool true)) (.t 11), none⟩])
 (.cond (.t 12) (.seq (.reg [⟨(some 2), .mv (.c (.bool false)), none⟩])
 .ret)
 .skip))
 (.seq (.reg [⟨(some 3), .mv (.c (.flt 0)), none⟩])
 (.seq (.seq (.reg [⟨(some 4), .mv (.c (.int .i64 (0))), none⟩])
 (.block 0 (.loop c_ref11_Taps_L0)))
 c_ref11_Taps_R1))))
def c_ref11_Taps : AFun := .code 52 [(.tmp 2)] b_ref11_Taps
def b_points_of : AC := (.seq (.reg [⟨(some 2), .alloc [(.int .i64 (0)), (.int .i64 (0)), .nilFunc] 121, none⟩, ⟨(some 3), .mv (.c (.bool false)), none⟩])
 (.seq (.seq (.reg [⟨(some 4), .mv (.t 0), none⟩])
 (.block 0 (.seq (.reg [⟨(some 6), .bin .eql (.t 4) (.c (.int .i64 (4))), none⟩, ⟨(some 5), .mv (.t 6), none⟩])
 (.cond (.t 5) (.seq (.reg [⟨(some 7), .call f_points_square [(.c (.int .i64 (2))), (.c (.int .i64 (1)))], none⟩, ⟨none, .store (.t 2) (.t 7) 3, none⟩, ⟨(some 3), .mv (.c (.bool true)), none⟩])
 .ret)
 (.seq (.reg [⟨(some 9), .bin .eql (.t 4) (.c (.int .i64 (16))), none⟩, ⟨(some 8), .mv (.t 9), none⟩])
 (.cond (.t 8) (.seq (.reg [⟨(some 10), .call f_points_square [(.c (.int .i64 (4))), (.c (.int .i64 (3)))], none⟩, ⟨none, .store (.t 2) (.t 10) 3, none⟩, ⟨(some 3), .mv (.c (.bool true)), none⟩])
 .ret)
 (.seq (.reg [⟨(some 12), .bin .eql (.t 4) (.c (.int .i64 (32))), none⟩, ⟨(some 11), .mv (.t 12), none⟩])
 (.cond (.t 11) (.seq (.reg [⟨(some 13), .call f_points_cross [(.c (.int .i64 (5))), (.c (.int .i64 (5))), (.c (.int .i64 (3)))], none⟩, ⟨none, .store (.t 2) (.t 13) 3, none⟩, ⟨(some 3), .mv (.c (.bool true)), none⟩])
 .ret)
 (.seq (.reg [⟨(some 15), .bin .eql (.t 4) (.c (.int .i64 (64))), none⟩, ⟨(some 14), .mv (.t 15), none⟩])
 (.cond (.t 14) (.seq (.reg [⟨(some 16), .call f_points_square [(.c (.int .i64 (6))), (.c (.int .i64 (7)))], none⟩, ⟨none, .store (.t 2) (.t 16) 3, none⟩, ⟨(some 3), .mv (.c (.bool true)), none⟩])
 .ret)
 (.seq (.reg [⟨(some 18), .bin .eql (.t 4) (.c (.int .i64 (128))), none⟩, ⟨(some 17), .mv (.t 18), none⟩])
 (.cond (.t 17) (.seq (.reg [⟨(some 19), .call f_points_cross [(.c (.int .i64 (7))), (.c (.int .i64 (11))), (.c (.int .i64 (7)))], none⟩, ⟨none, .store (.t 2) (.t 19) 3, none⟩, ⟨(some 3), .mv (.c (.bool true)), none⟩])
 .ret)
 (.seq (.reg [⟨(some 21), .bin .eql (.t 4) (.c (.int .i64 (256))), none⟩, ⟨(some 20), .mv (.t 21), none⟩])
 (.cond (.t 20) (.seq (.reg [⟨(some 22), .call f_points_square [(.c (.int .i64 (8))), (.c (.int .i64 (15)))], none⟩, ⟨none, .store (.t 2) (.t 22) 3, none⟩, ⟨(some 3), .mv (.c (.bool true)), none⟩])
 .ret)
 .skip))))))))))))))
 (.seq (.reg [⟨(some 23), .build [(.int .i64 (0)), (.int .i64 (0)), .nilFunc] [], none⟩, ⟨none, .store (.t 2) (.t 23) 3, none⟩, ⟨(some 3), .mv (.c (.bool false)), none⟩])
 .ret)))
def c_points_of : AFun := .code 24 [(.cell 2 3 true), (.tmp 3)] b_points_of
def b_ref02_On : AC := (.seq (.reg [⟨(some 2), .mv (.c (.bool false)), none⟩])
 (.seq (.seq (.reg [⟨(some 4), .mv (.t 0), none⟩, ⟨(some 5), .bin .geq (.t 4) (.c (.flt 13875590451928498176)), none⟩, ⟨(some 6), .mv (.t 5), none⟩, ⟨(some 7), .mv (.t 0), (some (6, true))⟩, ⟨(some 8), .bin .leq (.t 7) (.c (.flt 4652218415073722368)), (some (6, true))⟩, ⟨(some 9), .pick (.t 6) (.t 8) (.c (.bool false)), none⟩, ⟨(some 10), .un .not (.t 9), none⟩])
 (.cond (.t 10) (.seq (.reg [⟨(some 2), .mv (.c (.bool false)), none⟩])
 .ret)
 .skip))
 (.seq (.reg [⟨(some 11), .mv (.t 0), none⟩, ⟨(some 12), .bin .mul (.t 11) (.c (.flt 4661225614328463360)), none⟩, ⟨(some 3), .mv (.t 12), none⟩])
 (.seq (.reg [⟨(some 13), .mv (.t 3), none⟩, ⟨(some 14), .conv (.fltToInt .i64) (.t 13), none⟩, ⟨(some 15), .conv .toFlt (.t 14), none⟩, ⟨(some 16), .mv (.t 3), none⟩, ⟨(some 17), .bin .eql (.t 15) (.t 16), none⟩, ⟨(some 2), .mv (.t 17), none⟩])
 .ret))))
def c_ref02_On : AFun := .code 18 [(.tmp 2)] b_ref02_On
def b_ref02_Finite : AC := (.seq (.reg [⟨(some 2), .mv (.c (.bool false)), none⟩])
 (.seq (.reg [⟨(some 3), .mv (.t 0), none⟩, ⟨(some 4), .mv (.t 0), none⟩, ⟨(some 5), .bin .sub (.t 3) (.t 4), none⟩, ⟨(some 6), .bin .eql (.t 5) (.c (.flt 0)), none⟩, ⟨(some 2), .mv (.t 6), none⟩])
 .ret))
def c_ref02_Finite : AFun := .code 7 [(.tmp 2)] b_ref02_Finite
def c_ref05_Axis_L0 : AC := (.seq (.seq (.reg [⟨(some 25), .mv (.t 6), none⟩, ⟨(some 26), .mv (.t 1), none⟩, ⟨(some 27), .bin .lss (.t 25) (.t 26), none⟩, ⟨(some 28), .mv (.t 27), none⟩, ⟨(some 29), .mv (.t 0), (some (28, true))⟩, ⟨(some 30), .mv (.t 6), (some (28, true))⟩, ⟨(some 31), .bin .add (.t 30) (.c (.int .i64 (1))), (some (28, true))⟩, ⟨(some 32), .conv .toFlt (.t 31), (some (28, true))⟩, ⟨(some 33), .bin .gtr (.t 29) (.t 32), (some (28, true))⟩, ⟨(some 34), .pick (.t 28) (.t 33) (.c (.bool false)), none⟩])
 (.cond (.t 34) .skip
 (.exit 0)))
 (.block 1 (.reg [⟨(some 35), .mv (.t 6), none⟩, ⟨(some 36), .bin .add (.t 35) (.c (.int .i64 (2))), none⟩, ⟨(some 6), .mv (.t 36), none⟩])))
def c_ref05_Axis_R1 : AC := (.seq (.reg [⟨(some 37), .mv (.t 6), none⟩, ⟨(some 4), .mv (.t 37), none⟩, ⟨(some 5), .mv (.c (.int .i64 (0))), none⟩])
 .ret)
def b_ref05_Axis : AC := (.seq (.reg [⟨(some 4), .mv (.c (.int .i64 (0))), none⟩, ⟨(some 5), .mv (.c (.int .i64 (0))), none⟩])
 (.seq (.seq (.reg [⟨(some 7), .mv (.t 1), none⟩, ⟨(some 8), .bin .lss (.t 7) (.c (.int .i64 (1))), none⟩, ⟨(some 9), .mv (.t 8), none⟩, ⟨(some 10), .mv (.t 1), (some (9, false))⟩, ⟨(some 11), .bin .gtr (.t 10) (.c (.int .i64 (15))), (some (9, false))⟩, ⟨(some 12), .pick (.t 9) (.c (.bool true)) (.t 11), none⟩, ⟨(some 13), .mv (.t 12), none⟩, ⟨(some 14), .mv (.t 1), (some (13, false))⟩, ⟨(some 15), .bin .rem (.t 14) (.c (.int .i64 (2))), (some (13, false))⟩, ⟨(some 16), .bin .eql (.t 15) (.c (.int .i64 (0))), (some (13, false))⟩, ⟨(some 17), .pick (.t 13) (.c (.bool true)) (.t 16), none⟩, ⟨(some 18), .mv (.t 17), none⟩, ⟨(some 19), .mv (.t 0), (some (18, false))⟩, ⟨(some 20), .mv (.t 0), (some (18, false))⟩, ⟨(some 21), .bin .neq (.t 19) (.t 20), (some (18, false))⟩, ⟨(some 22), .pick (.t 18) (.c (.bool true)) (.t 21), none⟩])
 (.cond (.t 22) (.seq (.reg [⟨(some 4), .mv (.c (.int .i64 (0))), none⟩, ⟨(some 5), .mv (.c (.int .i64 (1))), none⟩])
 .ret)
 .skip))
 (.seq (.reg [⟨(some 23), .mv (.t 1), none⟩, ⟨(some 24), .un .neg (.t 23), none⟩, ⟨(some 6), .mv (.t 24), none⟩])
 (.seq (.block 0 (.loop c_ref05_Axis_L0))
 c_ref05_Axis_R1))))
def c_ref05_Axis : AFun := .code 38 [(.tmp 4), (.tmp 5)] b_ref05_Axis
def c_ref04_Label_L0 : AC := (.seq (.seq (.reg [⟨(some 17), .mv (.t 8), none⟩, ⟨(some 18), .mv (.t 6), none⟩, ⟨(some 19), .lenSl (.t 18), none⟩, ⟨(some 20), .bin .lss (.t 17) (.t 19), none⟩])
 (.cond (.t 20) .skip
 (.exit 0)))
 (.seq (.block 1 (.seq (.reg [⟨(some 23), .mv (.t 6), none⟩, ⟨(some 24), .mv (.t 8), none⟩, ⟨(some 25), .indexSl (.t 23) (.t 24) 1, none⟩, ⟨(some 26), .load (.t 25) 1 false, none⟩, ⟨(some 27), .mv (.t 1), none⟩, ⟨(some 28), .bin .eql (.t 26) (.t 27), none⟩])
 (.cond (.t 28) (.seq (.reg [⟨(some 29), .mv (.t 8), none⟩, ⟨(some 4), .mv (.t 29), none⟩, ⟨(some 5), .mv (.c (.int .i64 (0))), none⟩])
 .ret)
 .skip)))
 (.reg [⟨(some 21), .mv (.t 8), none⟩, ⟨(some 22), .bin .add (.t 21) (.c (.int .i64 (1))), none⟩, ⟨(some 8), .mv (.t 22), none⟩])))
def c_ref04_Label_R1 : AC := (.seq (.reg [⟨(some 4), .mv (.c (.int .i64 (0))), none⟩, ⟨(some 5), .mv (.c (.int .i64 (6))), none⟩])
 .ret)
def b_ref04_Label : AC := (.seq (.reg [⟨(some 4), .mv (.c (.int .i64 (0))), none⟩, ⟨(some 5), .mv (.c (.int .i64 (0))), none⟩])
 (.seq (.reg [⟨(some 10), .mv (.t 0), none⟩, ⟨(some 11), .call f_ref04_All [(.t 10)], none⟩, ⟨(some 9), .mv (.t 11), none⟩, ⟨(some 12), .extract (.t 9) 0, none⟩, ⟨(some 13), .extract (.t 9) 1, none⟩, ⟨(some 6), .mv (.t 12), none⟩, ⟨(some 7), .mv (.t 13), none⟩])
 (.seq (.seq (.reg [⟨(some 14), .mv (.t 7), none⟩, ⟨(some 15), .bin .neq (.t 14) (.c (.int .i64 (0))), none⟩])
 (.cond (.t 15) (.seq (.reg [⟨(some 16), .mv (.t 7), none⟩, ⟨(some 4), .mv (.c (.int .i64 (0))), none⟩, ⟨(some 5), .mv (.t 16), none⟩])
 .ret)
 .skip))
 (.seq (.seq (.reg [⟨(some 8), .mv (.c (.int .i64 (0))), none⟩])
 (.block 0 (.loop c_ref04_Label_L0)))
 c_ref04_Label_R1))))
def c_ref04_Label : AFun := .code 30 [(.tmp 4), (.tmp 5)] b_ref04_Label
def b_ref05_Cut : AC := (.seq (.reg [⟨(some 4), .mv (.c (.cpx 0 0)), none⟩, ⟨(some 5), .mv (.c (.int .i64 (0))), none⟩])
 (.seq (.reg [⟨(some 9), .mv (.t 0), none⟩, ⟨(some 10), .call f_ref04_Edge [(.t 9)], none⟩, ⟨(some 8), .mv (.t 10), none⟩, ⟨(some 11), .extract (.t 8) 0, none⟩, ⟨(some 12), .extract (.t 8) 1, none⟩, ⟨(some 6), .mv (.t 11), none⟩, ⟨(some 7), .mv (.t 12), none⟩])
 (.seq (.seq (.reg [⟨(some 13), .mv (.t 7), none⟩, ⟨(some 14), .bin .neq (.t 13) (.c (.int .i64 (0))), none⟩, ⟨(some 15), .mv (.t 14), none⟩, ⟨(some 16), .mv (.t 1), (some (15, false))⟩, ⟨(some 17), .real (.t 16), (some (15, false))⟩, ⟨(some 18), .mv (.t 1), (some (15, false))⟩, ⟨(some 19), .real (.t 18), (some (15, false))⟩, ⟨(some 20), .bin .neq (.t 17) (.t 19), (some (15, false))⟩, ⟨(some 21), .pick (.t 15) (.c (.bool true)) (.t 20), none⟩, ⟨(some 22), .mv (.t 21), none⟩, ⟨(some 23), .mv (.t 1), (some (22, false))⟩, ⟨(some 24), .imag (.t 23), (some (22, false))⟩, ⟨(some 25), .mv (.t 1), (some (22, false))⟩, ⟨(some 26), .imag (.t 25), (some (22, false))⟩, ⟨(some 27), .bin .neq (.t 24) (.t 26), (some (22, false))⟩, ⟨(some 28), .pick (.t 22) (.c (.bool true)) (.t 27), none⟩])
 (.cond (.t 28) (.seq (.reg [⟨(some 4), .mv (.c (.cpx 0 0)), none⟩, ⟨(some 5), .mv (.c (.int .i64 (1))), none⟩])
 .ret)
 .skip))
 (.seq (.reg [⟨(some 29), .mv (.t 1), none⟩, ⟨(some 30), .real (.t 29), none⟩, ⟨(some 31), .mv (.t 6), none⟩, ⟨(some 32), .call f_ref05_cut [(.t 30), (.t 31)], none⟩, ⟨(some 33), .mv (.t 1), none⟩, ⟨(some 34), .imag (.t 33), none⟩, ⟨(some 35), .mv (.t 6), none⟩, ⟨(some 36), .call f_ref05_cut [(.t 34), (.t 35)], none⟩, ⟨(some 37), .cplx (.t 32) (.t 36), none⟩, ⟨(some 4), .mv (.t 37), none⟩, ⟨(some 5), .mv (.c (.int .i64 (0))), none⟩])
 .ret))))
def c_ref05_Cut : AFun := .code 38 [(.tmp 4), (.tmp 5)] b_ref05_Cut
def b_ref05_gap : AC := (.seq (.reg [⟨(some 4), .mv (.c (.flt 0)), none⟩])
 (.seq (.reg [⟨(some 7), .mv (.t 0), none⟩, ⟨(some 8), .real (.t 7), none⟩, ⟨(some 9), .mv (.t 1), none⟩, ⟨(some 10), .real (.t 9), none⟩, ⟨(some 11), .bin .sub (.t 8) (.t 10), none⟩, ⟨(some 5), .mv (.t 11), none⟩])
 (.seq (.reg [⟨(some 12), .mv (.t 0), none⟩, ⟨(some 13), .imag (.t 12), none⟩, ⟨(some 14), .mv (.t 1), none⟩, ⟨(some 15), .imag (.t 14), none⟩, ⟨(some 16), .bin .sub (.t 13) (.t 15), none⟩, ⟨(some 6), .mv (.t 16), none⟩])
 (.seq (.reg [⟨(some 17), .mv (.t 5), none⟩, ⟨(some 18), .mv (.t 5), none⟩, ⟨(some 19), .bin .mul (.t 17) (.t 18), none⟩, ⟨(some 20), .mv (.t 6), none⟩, ⟨(some 21), .mv (.t 6), none⟩, ⟨(some 22), .bin .mul (.t 20) (.t 21), none⟩, ⟨(some 23), .bin .add (.t 19) (.t 22), none⟩, ⟨(some 4), .mv (.t 23), none⟩])
 .ret))))
def c_ref05_gap : AFun := .code 24 [(.tmp 4)] b_ref05_gap
def b_grid_may : AC := (.seq (.reg [⟨(some 1), .box (.t 0) 39, none⟩, ⟨(some 2), .mv (.c (.bool false)), none⟩])
 (.seq (.seq (.reg [⟨(some 3), .fieldAddr (.t 1) 1, none⟩, ⟨(some 4), .load (.t 3) 1 false, none⟩])
 (.cond (.t 4) (.seq (.reg [⟨(some 5), .fieldAddr (.t 1) 0, none⟩, ⟨(some 6), .load (.t 5) 1 false, none⟩, ⟨(some 7), .bin .eql (.t 6) (.c (.cpx 0 0)), none⟩, ⟨(some 2), .mv (.t 7), none⟩])
 .ret)
 .skip))
 (.seq (.reg [⟨(some 8), .fieldAddr (.t 1) 0, none⟩, ⟨(some 9), .load (.t 8) 1 false, none⟩, ⟨(some 10), .real (.t 9), none⟩, ⟨(some 11), .call f_grid_On [(.t 10)], none⟩, ⟨(some 12), .mv (.t 11), none⟩, ⟨(some 13), .fieldAddr (.t 1) 0, (some (12, true))⟩, ⟨(some 14), .load (.t 13) 1 false, (some (12, true))⟩, ⟨(some 15), .imag (.t 14), (some (12, true))⟩, ⟨(some 16), .call f_grid_On [(.t 15)], (some (12, true))⟩, ⟨(some 17), .pick (.t 12) (.t 16) (.c (.bool false)), none⟩, ⟨(some 2), .mv (.t 17), none⟩])
 .ret)))
def c_grid_may : AFun := .code 18 [(.tmp 2)] b_grid_may
def b_slice_decide : AC := (.seq (.reg [⟨(some 6), .alloc [(.int .i64 (0)), (.cpx 0 0), (.bool false)] 47, none⟩])
 (.seq (.seq (.reg [⟨(some 7), .mv (.t 2), none⟩, ⟨(some 8), .call f_slice_nan [(.t 7)], none⟩, ⟨(some 9), .mv (.t 8), none⟩, ⟨(some 10), .mv (.t 2), (some (9, false))⟩, ⟨(some 11), .real (.t 10), (some (9, false))⟩, ⟨(some 12), .call f_math_IsInf [(.t 11), (.c (.int .i64 (0)))], (some (9, false))⟩, ⟨(some 13), .pick (.t 9) (.c (.bool true)) (.t 12), none⟩, ⟨(some 14), .mv (.t 13), none⟩, ⟨(some 15), .mv (.t 2), (some (14, false))⟩, ⟨(some 16), .imag (.t 15), (some (14, false))⟩, ⟨(some 17), .call f_math_IsInf [(.t 16), (.c (.int .i64 (0)))], (some (14, false))⟩, ⟨(some 18), .pick (.t 14) (.c (.bool true)) (.t 17), none⟩])
 (.cond (.t 18) (.seq (.reg [⟨(some 19), .build [(.int .i64 (0)), (.cpx 0 0), (.bool false)] [(2, 1, (.c (.bool true)))], none⟩, ⟨none, .store (.t 6) (.t 19) 3, none⟩])
 .ret)
 .skip))
 (.seq (.reg [⟨(some 20), .call f_slice_ways [], none⟩, ⟨(some 21), .mv (.t 0), none⟩, ⟨(some 22), .look .int (.t 20) (.t 21) false (.agg [.nilFunc]), none⟩, ⟨(some 23), .field (.t 22) 0 1 false, none⟩, ⟨(some 24), .mv (.t 0), none⟩, ⟨(some 25), .mv (.t 1), none⟩, ⟨(some 26), .mv (.t 2), none⟩, ⟨(some 27), .callv (.t 23) [(.t 24), (.t 25), (.t 26)], none⟩, ⟨none, .store (.t 6) (.t 27) 3, none⟩])
 .ret)))
def c_slice_decide : AFun := .code 28 [(.cell 6 3 true)] b_slice_decide
def b_feedback_step : AC := (.seq (.reg [⟨(some 2), .mv (.c (.bool false)), none⟩])
 (.seq (.reg [⟨(some 3), .mv (.t 0), none⟩, ⟨(some 4), .call f_math_Abs [(.t 3)], none⟩, ⟨(some 5), .bin .leq (.t 4) (.c (.flt 4607182418800017408)), none⟩, ⟨(some 6), .mv (.t 5), none⟩, ⟨(some 7), .mv (.t 0), (some (6, true))⟩, ⟨(some 8), .bin .mul (.t 7) (.c (.flt 4634204016564240384)), (some (6, true))⟩, ⟨(some 9), .call f_math_Floor [(.t 8)], (some (6, true))⟩, ⟨(some 10), .mv (.t 0), (some (6, true))⟩, ⟨(some 11), .bin .mul (.t 10) (.c (.flt 4634204016564240384)), (some (6, true))⟩, ⟨(some 12), .bin .eql (.t 9) (.t 11), (some (6, true))⟩, ⟨(some 13), .pick (.t 6) (.t 12) (.c (.bool false)), none⟩, ⟨(some 2), .mv (.t 13), none⟩])
 .ret))
def c_feedback_step : AFun := .code 14 [(.tmp 2)] b_feedback_step
def b_math_Abs : AC := (.seq (.reg [⟨(some 2), .mv (.c (.flt 0)), none⟩])
 (.seq (.reg [⟨(some 3), .mv (.t 0), none⟩, ⟨(some 4), .call f_math_Float64bits [(.t 3)], none⟩, ⟨(some 5), .bin .andNot (.t 4) (.c (.int .u64 (9223372036854775808))), none⟩, ⟨(some 6), .call f_math_Float64frombits [(.t 5)], none⟩, ⟨(some 2), .mv (.t 6), none⟩])
 .ret))
def c_math_Abs : AFun := .code 7 [(.tmp 2)] b_math_Abs
def b_grid_within : AC := (.seq (.reg [⟨(some 2), .mv (.c (.bool false)), none⟩])
 (.seq (.reg [⟨(some 3), .mv (.t 0), none⟩, ⟨(some 4), .bin .geq (.t 3) (.c (.flt 13875590451928498176)), none⟩, ⟨(some 5), .mv (.t 4), none⟩, ⟨(some 6), .mv (.t 0), (some (5, true))⟩, ⟨(some 7), .bin .leq (.t 6) (.c (.flt 4652218415073722368)), (some (5, true))⟩, ⟨(some 8), .pick (.t 5) (.t 7) (.c (.bool false)), none⟩, ⟨(some 2), .mv (.t 8), none⟩])
 .ret))
def c_grid_within : AFun := .code 9 [(.tmp 2)] b_grid_within
def b_math_Floor : AC := (.seq (.reg [⟨(some 2), .mv (.c (.flt 0)), none⟩])
 (.seq (.cond (.c (.bool true)) (.seq (.reg [⟨(some 3), .mv (.t 0), none⟩, ⟨(some 4), .call f_math_archFloor [(.t 3)], none⟩, ⟨(some 2), .mv (.t 4), none⟩])
 .ret)
 .skip)
 (.seq (.reg [⟨(some 5), .mv (.t 0), none⟩, ⟨(some 6), .call f_math_floor [(.t 5)], none⟩, ⟨(some 2), .mv (.t 6), none⟩])
 .ret)))
def c_math_Floor : AFun := .code 7 [(.tmp 2)] b_math_Floor
def b_ref04_in : AC := (.seq (.reg [⟨(some 3), .box (.t 1) 118, none⟩, ⟨(some 4), .mv (.c (.bool false)), none⟩])
 (.seq (.reg [⟨(some 8), .mv (.t 0), none⟩, ⟨(some 9), .call f_ref04_Edge [(.t 8)], none⟩, ⟨(some 7), .mv (.t 9), none⟩, ⟨(some 10), .extract (.t 7) 0, none⟩, ⟨(some 11), .extract (.t 7) 1, none⟩, ⟨(some 5), .mv (.t 10), none⟩, ⟨(some 6), .mv (.t 11), none⟩])
 (.seq (.seq (.reg [⟨(some 12), .mv (.t 6), none⟩, ⟨(some 13), .bin .neq (.t 12) (.c (.int .i64 (0))), none⟩, ⟨(some 14), .mv (.t 13), none⟩, ⟨(some 15), .fieldAddr (.t 3) 0, (some (14, false))⟩, ⟨(some 16), .load (.t 15) 1 false, (some (14, false))⟩, ⟨(some 17), .bin .rem (.t 16) (.c (.int .i64 (2))), (some (14, false))⟩, ⟨(some 18), .bin .eql (.t 17) (.c (.int .i64 (0))), (some (14, false))⟩, ⟨(some 19), .pick (.t 14) (.c (.bool true)) (.t 18), none⟩, ⟨(some 20), .mv (.t 19), none⟩, ⟨(some 21), .fieldAddr (.t 3) 1, (some (20, false))⟩, ⟨(some 22), .load (.t 21) 1 false, (some (20, false))⟩, ⟨(some 23), .bin .rem (.t 22) (.c (.int .i64 (2))), (some (20, false))⟩, ⟨(some 24), .bin .eql (.t 23) (.c (.int .i64 (0))), (some (20, false))⟩, ⟨(some 25), .pick (.t 20) (.c (.bool true)) (.t 24), none⟩, ⟨(some 26), .mv (.t 25), none⟩, ⟨(some 27), .fieldAddr (.t 3) 0, (some (26, false))⟩, ⟨(some 28), .load (.t 27) 1 false, (some (26, false))⟩, ⟨(some 29), .call f_ref04_size [(.t 28)], (some (26, false))⟩, ⟨(some 30), .mv (.t 5), (some (26, false))⟩, ⟨(some 31), .bin .gtr (.t 29) (.t 30), (some (26, false))⟩, ⟨(some 32), .pick (.t 26) (.c (.bool true)) (.t 31), none⟩, ⟨(some 33), .mv (.t 32), none⟩, ⟨(some 34), .fieldAddr (.t 3) 1, (some (33, false))⟩, ⟨(some 35), .load (.t 34) 1 false, (some (33, false))⟩, ⟨(some 36), .call f_ref04_size [(.t 35)], (some (33, false))⟩, ⟨(some 37), .mv (.t 5), (some (33, false))⟩, ⟨(some 38), .bin .gtr (.t 36) (.t 37), (some (33, false))⟩, ⟨(some 39), .pick (.t 33) (.c (.bool true)) (.t 38), none⟩])
 (.cond (.t 39) (.seq (.reg [⟨(some 4), .mv (.c (.bool false)), none⟩])
 .ret)
 .skip))
 (.seq (.seq (.reg [⟨(some 40), .mv (.t 0), none⟩, ⟨(some 41), .bin .eql (.t 40) (.c (.int .i64 (32))), none⟩, ⟨(some 42), .mv (.t 41), none⟩, ⟨(some 43), .fieldAddr (.t 3) 0, (some (42, true))⟩, ⟨(some 44), .load (.t 43) 1 false, (some (42, true))⟩, ⟨(some 45), .call f_ref04_size [(.t 44)], (some (42, true))⟩, ⟨(some 46), .bin .eql (.t 45) (.c (.int .i64 (5))), (some (42, true))⟩, ⟨(some 47), .pick (.t 42) (.t 46) (.c (.bool false)), none⟩, ⟨(some 48), .mv (.t 47), none⟩, ⟨(some 49), .fieldAddr (.t 3) 1, (some (48, true))⟩, ⟨(some 50), .load (.t 49) 1 false, (some (48, true))⟩, ⟨(some 51), .call f_ref04_size [(.t 50)], (some (48, true))⟩, ⟨(some 52), .bin .eql (.t 51) (.c (.int .i64 (5))), (some (48, true))⟩, ⟨(some 53), .pick (.t 48) (.t 52) (.c (.bool false)), none⟩])
 (.cond (.t 53) (.seq (.reg [⟨(some 4), .mv (.c (.bool false)), none⟩])
 .ret)
 .skip))
 (.seq (.reg [⟨(some 54), .mv (.t 0), none⟩, ⟨(some 55), .bin .neq (.t 54) (.c (.int .i64 (128))), none⟩, ⟨(some 56), .mv (.t 55), none⟩, ⟨(some 57), .fieldAddr (.t 3) 0, (some (56, false))⟩, ⟨(some 58), .load (.t 57) 1 false, (some (56, false))⟩, ⟨(some 59), .call f_ref04_size [(.t 58)], (some (56, false))⟩, ⟨(some 60), .bin .leq (.t 59) (.c (.int .i64 (7))), (some (56, false))⟩, ⟨(some 61), .pick (.t 56) (.c (.bool true)) (.t 60), none⟩, ⟨(some 62), .mv (.t 61), none⟩, ⟨(some 63), .fieldAddr (.t 3) 1, (some (62, false))⟩, ⟨(some 64), .load (.t 63) 1 false, (some (62, false))⟩, ⟨(some 65), .call f_ref04_size [(.t 64)], (some (62, false))⟩, ⟨(some 66), .bin .leq (.t 65) (.c (.int .i64 (7))), (some (62, false))⟩, ⟨(some 67), .pick (.t 62) (.c (.bool true)) (.t 66), none⟩, ⟨(some 4), .mv (.t 67), none⟩])
 .ret)))))
def c_ref04_in : AFun := .code 68 [(.tmp 4)] b_ref04_in
def c_ref04_label_L0 : AC := (.seq (.seq (.reg [⟨(some 51), .mv (.t 13), none⟩, ⟨(some 52), .mv (.t 7), none⟩, ⟨(some 53), .bin .quo (.t 52) (.c (.int .i64 (2))), none⟩, ⟨(some 54), .bin .lss (.t 51) (.t 53), none⟩])
 (.cond (.t 54) .skip
 (.exit 0)))
 (.seq (.block 1 (.reg [⟨(some 57), .mv (.t 9), none⟩, ⟨(some 58), .bin .mul (.c (.int .i64 (2))) (.t 57), none⟩, ⟨(some 9), .mv (.t 58), none⟩]))
 (.reg [⟨(some 55), .mv (.t 13), none⟩, ⟨(some 56), .bin .add (.t 55) (.c (.int .i64 (1))), none⟩, ⟨(some 13), .mv (.t 56), none⟩])))
def c_ref04_label_R1 : AC := (.seq (.reg [⟨(some 59), .mv (.t 9), none⟩, ⟨(some 60), .mv (.t 11), none⟩, ⟨(some 61), .bin .add (.t 59) (.t 60), none⟩, ⟨(some 4), .mv (.t 61), none⟩])
 .ret)
def c_ref04_label_L4 : AC := (.seq (.seq (.reg [⟨(some 71), .mv (.t 16), none⟩, ⟨(some 72), .mv (.t 5), none⟩, ⟨(some 73), .bin .leq (.t 71) (.t 72), none⟩])
 (.cond (.t 73) .skip
 (.exit 4)))
 (.seq (.block 5 (.seq (.reg [⟨(some 76), .mv (.t 0), none⟩, ⟨(some 77), .mv (.t 15), none⟩, ⟨(some 78), .mv (.t 16), none⟩, ⟨(some 79), .build [(.int .i64 (0)), (.int .i64 (0))] [(0, 1, (.t 77)), (1, 1, (.t 78))], none⟩, ⟨(some 80), .call f_ref04_in [(.t 76), (.t 79)], none⟩, ⟨(some 81), .mv (.t 80), none⟩, ⟨(some 82), .mv (.t 15), (some (81, true))⟩, ⟨(some 83), .fieldAddr (.t 3) 0, (some (81, true))⟩, ⟨(some 84), .load (.t 83) 1 false, (some (81, true))⟩, ⟨(some 85), .bin .lss (.t 82) (.t 84), (some (81, true))⟩, ⟨(some 86), .mv (.t 85), (some (81, true))⟩, ⟨(some 87), .mv (.t 15), (some (86, false))⟩, ⟨(some 88), .fieldAddr (.t 3) 0, (some (86, false))⟩, ⟨(some 89), .load (.t 88) 1 false, (some (86, false))⟩, ⟨(some 90), .bin .eql (.t 87) (.t 89), (some (86, false))⟩, ⟨(some 91), .mv (.t 90), (some (86, false))⟩, ⟨(some 92), .mv (.t 16), (some (91, true))⟩, ⟨(some 93), .fieldAddr (.t 3) 1, (some (91, true))⟩, ⟨(some 94), .load (.t 93) 1 false, (some (91, true))⟩, ⟨(some 95), .bin .lss (.t 92) (.t 94), (some (91, true))⟩, ⟨(some 96), .pick (.t 91) (.t 95) (.c (.bool false)), (some (86, false))⟩, ⟨(some 97), .pick (.t 86) (.c (.bool true)) (.t 96), (some (81, true))⟩, ⟨(some 98), .pick (.t 81) (.t 97) (.c (.bool false)), none⟩])
 (.cond (.t 98) (.reg [⟨(some 99), .mv (.t 14), none⟩, ⟨(some 100), .bin .add (.t 99) (.c (.int .i64 (1))), none⟩, ⟨(some 14), .mv (.t 100), none⟩])
 .skip)))
 (.reg [⟨(some 74), .mv (.t 16), none⟩, ⟨(some 75), .bin .add (.t 74) (.c (.int .i64 (1))), none⟩, ⟨(some 16), .mv (.t 75), none⟩])))
def c_ref04_label_R5 : AC := (.reg [⟨(some 67), .mv (.t 15), none⟩, ⟨(some 68), .bin .add (.t 67) (.c (.int .i64 (1))), none⟩, ⟨(some 15), .mv (.t 68), none⟩])
def c_ref04_label_L3 : AC := (.seq (.seq (.reg [⟨(some 64), .mv (.t 15), none⟩, ⟨(some 65), .mv (.t 5), none⟩, ⟨(some 66), .bin .leq (.t 64) (.t 65), none⟩])
 (.cond (.t 66) .skip
 (.exit 2)))
 (.seq (.block 3 (.seq (.reg [⟨(some 69), .mv (.t 5), none⟩, ⟨(some 70), .un .neg (.t 69), none⟩, ⟨(some 16), .mv (.t 70), none⟩])
 (.block 4 (.loop c_ref04_label_L4))))
 c_ref04_label_R5))
def c_ref04_label_R6 : AC := (.seq (.reg [⟨(some 101), .mv (.t 14), none⟩, ⟨(some 4), .mv (.t 101), none⟩])
 .ret)
def c_ref04_label_R2 : AC := (.seq (.reg [⟨(some 14), .mv (.c (.int .i64 (0))), none⟩])
 (.seq (.seq (.reg [⟨(some 62), .mv (.t 5), none⟩, ⟨(some 63), .un .neg (.t 62), none⟩, ⟨(some 15), .mv (.t 63), none⟩])
 (.block 2 (.loop c_ref04_label_L3)))
 c_ref04_label_R6))
def b_ref04_label : AC := (.seq (.reg [⟨(some 3), .box (.t 1) 118, none⟩, ⟨(some 4), .mv (.c (.int .i64 (0))), none⟩])
 (.seq (.reg [⟨(some 18), .mv (.t 0), none⟩, ⟨(some 19), .call f_ref04_Edge [(.t 18)], none⟩, ⟨(some 17), .mv (.t 19), none⟩, ⟨(some 20), .extract (.t 17) 0, none⟩, ⟨(some 21), .extract (.t 17) 1, none⟩, ⟨(some 5), .mv (.t 20), none⟩, ⟨(some 6), .mv (.t 21), none⟩])
 (.seq (.seq (.reg [⟨(some 22), .mv (.t 0), none⟩, ⟨(some 23), .bin .neq (.t 22) (.c (.int .i64 (32))), none⟩, ⟨(some 24), .mv (.t 23), none⟩, ⟨(some 25), .mv (.t 0), (some (24, true))⟩, ⟨(some 26), .bin .neq (.t 25) (.c (.int .i64 (128))), (some (24, true))⟩, ⟨(some 27), .pick (.t 24) (.t 26) (.c (.bool false)), none⟩])
 (.cond (.t 27) (.seq (.reg [⟨(some 29), .mv (.t 0), none⟩, ⟨(some 30), .call f_ref04_Bits [(.t 29)], none⟩, ⟨(some 28), .mv (.t 30), none⟩, ⟨(some 31), .extract (.t 28) 0, none⟩, ⟨(some 32), .extract (.t 28) 1, none⟩, ⟨(some 7), .mv (.t 31), none⟩, ⟨(some 8), .mv (.t 32), none⟩])
 (.seq (.reg [⟨(some 34), .fieldAddr (.t 3) 0, none⟩, ⟨(some 35), .load (.t 34) 1 false, none⟩, ⟨(some 36), .mv (.t 5), none⟩, ⟨(some 37), .bin .add (.t 35) (.t 36), none⟩, ⟨(some 38), .bin .quo (.t 37) (.c (.int .i64 (2))), none⟩, ⟨(some 39), .call f_ref01_Gray [(.t 38)], none⟩, ⟨(some 33), .mv (.t 39), none⟩, ⟨(some 40), .extract (.t 33) 0, none⟩, ⟨(some 41), .extract (.t 33) 1, none⟩, ⟨(some 9), .mv (.t 40), none⟩, ⟨(some 10), .mv (.t 41), none⟩])
 (.seq (.reg [⟨(some 43), .fieldAddr (.t 3) 1, none⟩, ⟨(some 44), .load (.t 43) 1 false, none⟩, ⟨(some 45), .mv (.t 5), none⟩, ⟨(some 46), .bin .add (.t 44) (.t 45), none⟩, ⟨(some 47), .bin .quo (.t 46) (.c (.int .i64 (2))), none⟩, ⟨(some 48), .call f_ref01_Gray [(.t 47)], none⟩, ⟨(some 42), .mv (.t 48), none⟩, ⟨(some 49), .extract (.t 42) 0, none⟩, ⟨(some 50), .extract (.t 42) 1, none⟩, ⟨(some 11), .mv (.t 49), none⟩, ⟨(some 12), .mv (.t 50), none⟩])
 (.seq (.seq (.reg [⟨(some 13), .mv (.c (.int .i64 (0))), none⟩])
 (.block 0 (.loop c_ref04_label_L0)))
 c_ref04_label_R1))))
 .skip))
 c_ref04_label_R2)))
def c_ref04_label : AFun := .code 102 [(.tmp 4)] b_ref04_label
def b_ref11_step : AC := (.seq (.reg [⟨(some 2), .mv (.c (.bool false)), none⟩])
 (.seq (.reg [⟨(some 3), .mv (.t 0), none⟩, ⟨(some 4), .bin .geq (.t 3) (.c (.flt 13830554455654793216)), none⟩, ⟨(some 5), .mv (.t 4), none⟩, ⟨(some 6), .mv (.t 0), (some (5, true))⟩, ⟨(some 7), .bin .leq (.t 6) (.c (.flt 4607182418800017408)), (some (5, true))⟩, ⟨(some 8), .pick (.t 5) (.t 7) (.c (.bool false)), none⟩, ⟨(some 9), .mv (.t 8), none⟩, ⟨(some 10), .mv (.t 0), (some (9, true))⟩, ⟨(some 11), .bin .mul (.t 10) (.c (.flt 4634204016564240384)), (some (9, true))⟩, ⟨(some 12), .conv (.fltToInt .i64) (.t 11), (some (9, true))⟩, ⟨(some 13), .conv .toFlt (.t 12), (some (9, true))⟩, ⟨(some 14), .mv (.t 0), (some (9, true))⟩, ⟨(some 15), .bin .mul (.t 14) (.c (.flt 4634204016564240384)), (some (9, true))⟩, ⟨(some 16), .bin .eql (.t 13) (.t 15), (some (9, true))⟩, ⟨(some 17), .pick (.t 9) (.t 16) (.c (.bool false)), none⟩, ⟨(some 2), .mv (.t 17), none⟩])
 .ret))
def c_ref11_step : AFun := .code 18 [(.tmp 2)] b_ref11_step
def b_ref11_size : AC := (.seq (.reg [⟨(some 2), .mv (.c (.flt 0)), none⟩])
 (.seq (.seq (.reg [⟨(some 3), .mv (.t 0), none⟩, ⟨(some 4), .bin .lss (.t 3) (.c (.flt 0)), none⟩])
 (.cond (.t 4) (.seq (.reg [⟨(some 5), .mv (.t 0), none⟩, ⟨(some 6), .un .neg (.t 5), none⟩, ⟨(some 2), .mv (.t 6), none⟩])
 .ret)
 .skip))
 (.seq (.reg [⟨(some 7), .mv (.t 0), none⟩, ⟨(some 2), .mv (.t 7), none⟩])
 .ret)))
def c_ref11_size : AFun := .code 8 [(.tmp 2)] b_ref11_size
def b_points_square : AC := (.seq (.reg [⟨(some 2), .box (.t 0) 3, none⟩, ⟨(some 3), .box (.t 1) 3, none⟩, ⟨(some 4), .alloc [(.int .i64 (0)), (.int .i64 (0)), .nilFunc] 121, none⟩])
 (.seq (.reg [⟨(some 6), .mkFunc f_points_square_c1 [] [(.t 3)], none⟩, ⟨(some 5), .alloc [.nilFunc] 142, none⟩, ⟨none, .store (.t 5) (.t 6) 1, none⟩])
 (.seq (.reg [⟨(some 7), .load (.t 2) 1 false, none⟩, ⟨(some 8), .load (.t 3) 1 false, none⟩, ⟨(some 9), .mkFunc f_points_square_c2 [] [(.t 2), (.t 5)], none⟩, ⟨(some 10), .build [(.int .i64 (0)), (.int .i64 (0)), .nilFunc] [(0, 1, (.t 7)), (1, 1, (.t 8)), (2, 1, (.t 9))], none⟩, ⟨none, .store (.t 4) (.t 10) 3, none⟩])
 .ret)))
def c_points_square : AFun := .code 11 [(.cell 4 3 true)] b_points_square
def b_points_cross : AC := (.seq (.reg [⟨(some 4), .box (.t 1) 3, none⟩, ⟨(some 5), .box (.t 2) 3, none⟩, ⟨(some 6), .alloc [(.int .i64 (0)), (.int .i64 (0)), .nilFunc] 121, none⟩])
 (.seq (.reg [⟨(some 7), .mv (.t 0), none⟩, ⟨(some 8), .load (.t 4) 1 false, none⟩, ⟨(some 9), .mkFunc f_points_cross_c1 [] [(.t 4), (.t 5)], none⟩, ⟨(some 10), .build [(.int .i64 (0)), (.int .i64 (0)), .nilFunc] [(0, 1, (.t 7)), (1, 1, (.t 8)), (2, 1, (.t 9))], none⟩, ⟨none, .store (.t 6) (.t 10) 3, none⟩])
 .ret))
def c_points_cross : AFun := .code 11 [(.cell 6 3 true)] b_points_cross
def b_ref05_cut : AC := (.seq (.reg [⟨(some 4), .mv (.c (.flt 0)), none⟩])
 (.seq (.reg [⟨(some 6), .mv (.t 1), none⟩, ⟨(some 7), .conv .toFlt (.t 6), none⟩, ⟨(some 5), .mv (.t 7), none⟩])
 (.seq (.seq (.reg [⟨(some 8), .mv (.t 0), none⟩, ⟨(some 9), .mv (.t 5), none⟩, ⟨(some 10), .un .neg (.t 9), none⟩, ⟨(some 11), .bin .lss (.t 8) (.t 10), none⟩])
 (.cond (.t 11) (.seq (.reg [⟨(some 12), .mv (.t 5), none⟩, ⟨(some 13), .un .neg (.t 12), none⟩, ⟨(some 4), .mv (.t 13), none⟩])
 .ret)
 .skip))
 (.seq (.seq (.reg [⟨(some 14), .mv (.t 0), none⟩, ⟨(some 15), .mv (.t 5), none⟩, ⟨(some 16), .bin .gtr (.t 14) (.t 15), none⟩])
 (.cond (.t 16) (.seq (.reg [⟨(some 17), .mv (.t 5), none⟩, ⟨(some 4), .mv (.t 17), none⟩])
 .ret)
 .skip))
 (.seq (.reg [⟨(some 18), .mv (.t 0), none⟩, ⟨(some 4), .mv (.t 18), none⟩])
 .ret)))))
def c_ref05_cut : AFun := .code 19 [(.tmp 4)] b_ref05_cut
def b_slice_nan : AC := (.seq (.reg [⟨(some 2), .mv (.c (.bool false)), none⟩])
 (.seq (.reg [⟨(some 3), .mv (.t 0), none⟩, ⟨(some 4), .real (.t 3), none⟩, ⟨(some 5), .call f_math_IsNaN [(.t 4)], none⟩, ⟨(some 6), .mv (.t 5), none⟩, ⟨(some 7), .mv (.t 0), (some (6, false))⟩, ⟨(some 8), .imag (.t 7), (some (6, false))⟩, ⟨(some 9), .call f_math_IsNaN [(.t 8)], (some (6, false))⟩, ⟨(some 10), .pick (.t 6) (.c (.bool true)) (.t 9), none⟩, ⟨(some 2), .mv (.t 10), none⟩])
 .ret))
def c_slice_nan : AFun := .code 11 [(.tmp 2)] b_slice_nan
def b_math_IsInf : AC := (.seq (.reg [⟨(some 4), .mv (.c (.bool false)), none⟩])
 (.seq (.seq (.reg [⟨(some 5), .mv (.t 1), none⟩, ⟨(some 6), .bin .eql (.t 5) (.c (.int .i64 (0))), none⟩])
 (.cond (.t 6) (.reg [⟨(some 7), .mv (.t 0), none⟩, ⟨(some 8), .call f_math_Abs [(.t 7)], none⟩, ⟨(some 0), .mv (.t 8), none⟩])
 (.seq (.reg [⟨(some 9), .mv (.t 1), none⟩, ⟨(some 10), .bin .lss (.t 9) (.c (.int .i64 (0))), none⟩])
 (.cond (.t 10) (.reg [⟨(some 11), .mv (.t 0), none⟩, ⟨(some 12), .un .neg (.t 11), none⟩, ⟨(some 0), .mv (.t 12), none⟩])
 .skip))))
 (.seq (.reg [⟨(some 13), .mv (.t 0), none⟩, ⟨(some 14), .bin .gtr (.t 13) (.c (.flt 9218868437227405311)), none⟩, ⟨(some 4), .mv (.t 14), none⟩])
 .ret)))
def c_math_IsInf : AFun := .code 15 [(.tmp 4)] b_math_IsInf
def b_slice_ways : AC := (.seq (.reg [⟨(some 0), .mv (.c .nilMap), none⟩])
 (.seq (.reg [⟨(some 3), .build [.nilFunc] [(0, 1, (.c (.func f_slice_axes [] [])))], none⟩, ⟨(some 4), .build [.nilFunc] [(0, 1, (.c (.func f_slice_nearest [] [])))], none⟩, ⟨(some 1), .alloc [.nilFunc] 138, none⟩, ⟨(some 2), .alloc [.nilFunc] 138, none⟩, ⟨none, .store (.t 1) (.t 3) 1, none⟩, ⟨none, .store (.t 2) (.t 4) 1, none⟩])
 (.seq (.reg [⟨(some 5), .mkMap, none⟩, ⟨(some 6), .load (.t 1) 1 true, none⟩, ⟨none, .upd .int (.t 5) (.c (.int .i64 (4))) (.t 6), none⟩, ⟨(some 7), .load (.t 1) 1 true, none⟩, ⟨none, .upd .int (.t 5) (.c (.int .i64 (16))) (.t 7), none⟩, ⟨(some 8), .load (.t 2) 1 true, none⟩, ⟨none, .upd .int (.t 5) (.c (.int .i64 (32))) (.t 8), none⟩, ⟨(some 9), .load (.t 1) 1 true, none⟩, ⟨none, .upd .int (.t 5) (.c (.int .i64 (64))) (.t 9), none⟩, ⟨(some 10), .load (.t 2) 1 true, none⟩, ⟨none, .upd .int (.t 5) (.c (.int .i64 (128))) (.t 10), none⟩, ⟨(some 11), .load (.t 1) 1 true, none⟩, ⟨none, .upd .int (.t 5) (.c (.int .i64 (256))) (.t 11), none⟩, ⟨(some 12), .mv (.t 5), none⟩, ⟨(some 0), .mv (.t 12), none⟩])
 .ret)))
def c_slice_ways : AFun := .code 13 [(.tmp 0)] b_slice_ways
def c_math_Float64bits : AFun := .ext .bits
def c_math_archFloor : AFun := .ext .floor
def b_math_floor : AC := (.seq (.reg [⟨(some 2), .mv (.c (.flt 0)), none⟩])
 (.seq (.seq (.reg [⟨(some 7), .mv (.t 0), none⟩, ⟨(some 8), .bin .eql (.t 7) (.c (.flt 0)), none⟩, ⟨(some 9), .mv (.t 8), none⟩, ⟨(some 10), .mv (.t 0), (some (9, false))⟩, ⟨(some 11), .call f_math_IsNaN [(.t 10)], (some (9, false))⟩, ⟨(some 12), .pick (.t 9) (.c (.bool true)) (.t 11), none⟩, ⟨(some 13), .mv (.t 12), none⟩, ⟨(some 14), .mv (.t 0), (some (13, false))⟩, ⟨(some 15), .call f_math_IsInf [(.t 14), (.c (.int .i64 (0)))], (some (13, false))⟩, ⟨(some 16), .pick (.t 13) (.c (.bool true)) (.t 15), none⟩])
 (.cond (.t 16) (.seq (.reg [⟨(some 17), .mv (.t 0), none⟩, ⟨(some 2), .mv (.t 17), none⟩])
 .ret)
 .skip))
 (.seq (.seq (.reg [⟨(some 18), .mv (.t 0), none⟩, ⟨(some 19), .bin .lss (.t 18) (.c (.flt 0)), none⟩])
 (.cond (.t 19) (.seq (.reg [⟨(some 21), .mv (.t 0), none⟩, ⟨(some 22), .un .neg (.t 21), none⟩, ⟨(some 23), .call f_math_Modf [(.t 22)], none⟩, ⟨(some 20), .mv (.t 23), none⟩, ⟨(some 24), .extract (.t 20) 0, none⟩, ⟨(some 25), .extract (.t 20) 1, none⟩, ⟨(some 3), .mv (.t 24), none⟩, ⟨(some 4), .mv (.t 25), none⟩])
 (.seq (.seq (.reg [⟨(some 26), .mv (.t 4), none⟩, ⟨(some 27), .bin .neq (.t 26) (.c (.flt 0)), none⟩])
 (.cond (.t 27) (.reg [⟨(some 28), .mv (.t 3), none⟩, ⟨(some 29), .bin .add (.t 28) (.c (.flt 4607182418800017408)), none⟩, ⟨(some 3), .mv (.t 29), none⟩])
 .skip))
 (.seq (.reg [⟨(some 30), .mv (.t 3), none⟩, ⟨(some 31), .un .neg (.t 30), none⟩, ⟨(some 2), .mv (.t 31), none⟩])
 .ret)))
 .skip))
 (.seq (.reg [⟨(some 33), .mv (.t 0), none⟩, ⟨(some 34), .call f_math_Modf [(.t 33)], none⟩, ⟨(some 32), .mv (.t 34), none⟩, ⟨(some 35), .extract (.t 32) 0, none⟩, ⟨(some 36), .extract (.t 32) 1, none⟩, ⟨(some 5), .mv (.t 35), none⟩, ⟨(some 6), .mv (.t 36), none⟩])
 (.seq (.reg [⟨(some 37), .mv (.t 5), none⟩, ⟨(some 2), .mv (.t 37), none⟩])
 .ret)))))
def c_math_floor : AFun := .code 38 [(.tmp 2)] b_math_floor
def b_ref04_size : AC := (.seq (.reg [⟨(some 2), .mv (.c (.int .i64 (0))), none⟩])
 (.seq (.seq (.reg [⟨(some 3), .mv (.t 0), none⟩, ⟨(some 4), .bin .lss (.t 3) (.c (.int .i64 (0))), none⟩])
 (.cond (.t 4) (.seq (.reg [⟨(some 5), .mv (.t 0), none⟩, ⟨(some 6), .un .neg (.t 5), none⟩, ⟨(some 2), .mv (.t 6), none⟩])
 .ret)
 .skip))
 (.seq (.reg [⟨(some 7), .mv (.t 0), none⟩, ⟨(some 2), .mv (.t 7), none⟩])
 .ret)))
def c_ref04_size : AFun := .code 8 [(.tmp 2)] b_ref04_size
def b_ref04_Bits : AC := (.seq (.reg [⟨(some 2), .mv (.c (.int .i64 (0))), none⟩, ⟨(some 3), .mv (.c (.int .i64 (0))), none⟩])
 (.seq (.seq (.reg [⟨(some 4), .mv (.t 0), none⟩])
 (.block 0 (.seq (.reg [⟨(some 6), .bin .eql (.t 4) (.c (.int .i64 (4))), none⟩, ⟨(some 5), .mv (.t 6), none⟩])
 (.cond (.t 5) (.seq (.reg [⟨(some 2), .mv (.c (.int .i64 (2))), none⟩, ⟨(some 3), .mv (.c (.int .i64 (0))), none⟩])
 .ret)
 (.seq (.reg [⟨(some 8), .bin .eql (.t 4) (.c (.int .i64 (16))), none⟩, ⟨(some 7), .mv (.t 8), none⟩])
 (.cond (.t 7) (.seq (.reg [⟨(some 2), .mv (.c (.int .i64 (4))), none⟩, ⟨(some 3), .mv (.c (.int .i64 (0))), none⟩])
 .ret)
 (.seq (.reg [⟨(some 10), .bin .eql (.t 4) (.c (.int .i64 (32))), none⟩, ⟨(some 9), .mv (.t 10), none⟩])
 (.cond (.t 9) (.seq (.reg [⟨(some 2), .mv (.c (.int .i64 (5))), none⟩, ⟨(some 3), .mv (.c (.int .i64 (0))), none⟩])
 .ret)
 (.seq (.reg [⟨(some 12), .bin .eql (.t 4) (.c (.int .i64 (64))), none⟩, ⟨(some 11), .mv (.t 12), none⟩])
 (.cond (.t 11) (.seq (.reg [⟨(some 2), .mv (.c (.int .i64 (6))), none⟩, ⟨(some 3), .mv (.c (.int .i64 (0))), none⟩])
 .ret)
 (.seq (.reg [⟨(some 14), .bin .eql (.t 4) (.c (.int .i64 (128))), none⟩, ⟨(some 13), .mv (.t 14), none⟩])
 (.cond (.t 13) (.seq (.reg [⟨(some 2), .mv (.c (.int .i64 (7))), none⟩, ⟨(some 3), .mv (.c (.int .i64 (0))), none⟩])
 .ret)
 (.seq (.reg [⟨(some 16), .bin .eql (.t 4) (.c (.int .i64 (256))), none⟩, ⟨(some 15), .mv (.t 16), none⟩])
 (.cond (.t 15) (.seq (.reg [⟨(some 2), .mv (.c (.int .i64 (8))), none⟩, ⟨(some 3), .mv (.c (.int .i64 (0))), none⟩])
 .ret)
 .skip))))))))))))))
 (.seq (.reg [⟨(some 2), .mv (.c (.int .i64 (0))), none⟩, ⟨(some 3), .mv (.c (.int .i64 (1))), none⟩])
 .ret)))
def c_ref04_Bits : AFun := .code 17 [(.tmp 2), (.tmp 3)] b_ref04_Bits
def b_ref01_Gray : AC := (.seq (.reg [⟨(some 2), .mv (.c (.int .i64 (0))), none⟩, ⟨(some 3), .mv (.c (.int .i64 (0))), none⟩])
 (.seq (.seq (.reg [⟨(some 4), .mv (.t 0), none⟩, ⟨(some 5), .bin .lss (.t 4) (.c (.int .i64 (0))), none⟩, ⟨(some 6), .mv (.t 5), none⟩, ⟨(some 7), .mv (.t 0), (some (6, false))⟩, ⟨(some 8), .bin .gtr (.t 7) (.c (.int .i64 (65535))), (some (6, false))⟩, ⟨(some 9), .pick (.t 6) (.c (.bool true)) (.t 8), none⟩])
 (.cond (.t 9) (.seq (.reg [⟨(some 2), .mv (.c (.int .i64 (0))), none⟩, ⟨(some 3), .mv (.c (.int .i64 (1))), none⟩])
 .ret)
 .skip))
 (.seq (.reg [⟨(some 10), .mv (.t 0), none⟩, ⟨(some 11), .call f_ref01_gray [(.t 10)], none⟩, ⟨(some 2), .mv (.t 11), none⟩, ⟨(some 3), .mv (.c (.int .i64 (0))), none⟩])
 .ret)))
def c_ref01_Gray : AFun := .code 12 [(.tmp 2), (.tmp 3)] b_ref01_Gray
def b_points_square_c1 : AC := (.seq (.reg [⟨(some 3), .mv (.c (.flt 0)), none⟩])
 (.seq (.reg [⟨(some 7), .mv (.t 0), none⟩, ⟨(some 8), .call f_bits_Ungray [(.t 7)], none⟩, ⟨(some 6), .mv (.t 8), none⟩, ⟨(some 9), .extract (.t 6) 0, none⟩, ⟨(some 10), .extract (.t 6) 1, none⟩, ⟨(some 4), .mv (.t 9), none⟩, ⟨(some 5), .mv (.t 10), none⟩])
 (.seq (.reg [⟨(some 11), .mv (.t 4), none⟩, ⟨(some 12), .bin .mul (.c (.int .i64 (2))) (.t 11), none⟩, ⟨(some 13), .load (.t 1) 1 false, none⟩, ⟨(some 14), .bin .sub (.t 12) (.t 13), none⟩, ⟨(some 15), .conv .toFlt (.t 14), none⟩, ⟨(some 3), .mv (.t 15), none⟩])
 .ret)))
def c_points_square_c1 : AFun := .code 16 [(.tmp 3)] b_points_square_c1
def c_bits_Ungray_L0 : AC := (.seq (.seq (.reg [⟨(some 11), .mv (.t 4), none⟩, ⟨(some 12), .bin .lss (.t 11) (.c (.int .i64 (16))), none⟩])
 (.cond (.t 12) .skip
 (.exit 0)))
 (.seq (.block 1 (.reg [⟨(some 15), .mv (.t 0), none⟩, ⟨(some 16), .mv (.t 0), none⟩, ⟨(some 17), .mv (.t 4), none⟩, ⟨(some 18), .bin .shr (.t 16) (.t 17), none⟩, ⟨(some 19), .bin .xor (.t 15) (.t 18), none⟩, ⟨(some 0), .mv (.t 19), none⟩]))
 (.reg [⟨(some 13), .mv (.t 4), none⟩, ⟨(some 14), .bin .shl (.t 13) (.c (.int .u64 (1))), none⟩, ⟨(some 4), .mv (.t 14), none⟩])))
def c_bits_Ungray_R1 : AC := (.seq (.reg [⟨(some 20), .mv (.t 0), none⟩, ⟨(some 2), .mv (.t 20), none⟩, ⟨(some 3), .mv (.c (.int .i64 (0))), none⟩])
 .ret)
def b_bits_Ungray : AC := (.seq (.reg [⟨(some 2), .mv (.c (.int .i64 (0))), none⟩, ⟨(some 3), .mv (.c (.int .i64 (0))), none⟩])
 (.seq (.seq (.reg [⟨(some 5), .mv (.t 0), none⟩, ⟨(some 6), .bin .lss (.t 5) (.c (.int .i64 (0))), none⟩, ⟨(some 7), .mv (.t 6), none⟩, ⟨(some 8), .mv (.t 0), (some (7, false))⟩, ⟨(some 9), .bin .geq (.t 8) (.c (.int .i64 (65536))), (some (7, false))⟩, ⟨(some 10), .pick (.t 7) (.c (.bool true)) (.t 9), none⟩])
 (.cond (.t 10) (.seq (.reg [⟨(some 2), .mv (.c (.int .i64 (0))), none⟩, ⟨(some 3), .mv (.c (.int .i64 (1))), none⟩])
 .ret)
 .skip))
 (.seq (.seq (.reg [⟨(some 4), .mv (.c (.int .i64 (1))), none⟩])
 (.block 0 (.loop c_bits_Ungray_L0)))
 c_bits_Ungray_R1)))
def c_bits_Ungray : AFun := .code 21 [(.tmp 2), (.tmp 3)] b_bits_Ungray
def b_points_square_c2 : AC := (.seq (.reg [⟨(some 4), .mv (.c (.cpx 0 0)), none⟩])
 (.seq (.reg [⟨(some 6), .load (.t 1) 1 false, none⟩, ⟨(some 7), .bin .quo (.t 6) (.c (.int .i64 (2))), none⟩, ⟨(some 5), .mv (.t 7), none⟩])
 (.seq (dr [(⟨(some 8), .load (.t 2) 1 false, none⟩, .quiet), (⟨(some 9), .mv (.t 0), none⟩, .plain), (⟨(some 10), .mv (.t 5), none⟩, .plain), (⟨(some 11), .bin .shr (.t 9) (.t 10), none⟩, .plain), (⟨(some 12), .callv (.t 8) [(.t 11)], none⟩, .mark), (⟨(some 13), .load (.t 2) 1 false, none⟩, .quiet), (⟨(some 14), .mv (.t 0), none⟩, .plain), (⟨(some 15), .mv (.t 5), none⟩, .plain), (⟨(some 16), .bin .shl (.c (.int .i64 (1))) (.t 15), none⟩, .plain), (⟨(some 17), .bin .sub (.t 16) (.c (.int .i64 (1))), none⟩, .plain), (⟨(some 18), .bin .and (.t 14) (.t 17), none⟩, .plain), (⟨(some 19), .callv (.t 13) [(.t 18)], none⟩, .plain), (⟨(some 20), .cplx (.t 12) (.t 19), none⟩, .plain), (⟨(some 4), .mv (.t 20), none⟩, .plain)])
 .ret)))
def c_points_square_c2 : AFun := .code 21 [(.tmp 4)] b_points_square_c2
def c_points_cross_c1_L0 : AC := (.seq (.block 1 (.seq (.reg [⟨(some 11), .load (.t 1) 1 false, none⟩, ⟨(some 6), .mv (.t 11), none⟩])
 (.seq (.seq (.reg [⟨(some 12), .mv (.t 5), none⟩, ⟨(some 13), .mv (.t 5), none⟩, ⟨(some 14), .un .neg (.t 13), none⟩, ⟨(some 15), .mm true [(.t 12), (.t 14)], none⟩, ⟨(some 16), .load (.t 2) 1 false, none⟩, ⟨(some 17), .bin .gtr (.t 15) (.t 16), none⟩])
 (.cond (.t 17) (.reg [⟨(some 18), .load (.t 2) 1 false, none⟩, ⟨(some 6), .mv (.t 18), none⟩])
 .skip))
 (.seq (.seq (.reg [⟨(some 19), .mv (.t 0), none⟩, ⟨(some 20), .mv (.t 6), none⟩, ⟨(some 21), .bin .leq (.t 19) (.t 20), none⟩])
 (.cond (.t 21) (.seq (.reg [⟨(some 22), .mv (.t 5), none⟩, ⟨(some 23), .conv .toFlt (.t 22), none⟩, ⟨(some 24), .mv (.t 0), none⟩, ⟨(some 25), .bin .mul (.c (.int .i64 (2))) (.t 24), none⟩, ⟨(some 26), .mv (.t 6), none⟩, ⟨(some 27), .bin .sub (.t 25) (.t 26), none⟩, ⟨(some 28), .conv .toFlt (.t 27), none⟩, ⟨(some 29), .cplx (.t 23) (.t 28), none⟩, ⟨(some 4), .mv (.t 29), none⟩])
 .ret)
 .skip))
 (.reg [⟨(some 30), .mv (.t 0), none⟩, ⟨(some 31), .mv (.t 6), none⟩, ⟨(some 32), .bin .add (.t 31) (.c (.int .i64 (1))), none⟩, ⟨(some 33), .bin .sub (.t 30) (.t 32), none⟩, ⟨(some 0), .mv (.t 33), none⟩])))))
 (.reg [⟨(some 9), .mv (.t 5), none⟩, ⟨(some 10), .bin .add (.t 9) (.c (.int .i64 (2))), none⟩, ⟨(some 5), .mv (.t 10), none⟩]))
def b_points_cross_c1 : AC := (.seq (.reg [⟨(some 4), .mv (.c (.cpx 0 0)), none⟩])
 (.seq (.reg [⟨(some 7), .load (.t 1) 1 false, none⟩, ⟨(some 8), .un .neg (.t 7), none⟩, ⟨(some 5), .mv (.t 8), none⟩])
 (.block 0 (.loop c_points_cross_c1_L0))))
def c_points_cross_c1 : AFun := .code 34 [(.tmp 4)] b_points_cross_c1
def b_math_IsNaN : AC := (.seq (.reg [⟨(some 2), .mv (.c (.bool false)), none⟩])
 (.seq (.reg [⟨(some 3), .mv (.t 0), none⟩, ⟨(some 4), .mv (.t 0), none⟩, ⟨(some 5), .bin .neq (.t 3) (.t 4), none⟩, ⟨(some 2), .mv (.t 5), none⟩])
 .ret))
def c_math_IsNaN : AFun := .code 6 [(.tmp 2)] b_math_IsNaN
def b_slice_axes : AC := (.seq (.reg [⟨(some 6), .alloc [(.int .i64 (0)), (.cpx 0 0), (.bool false)] 47, none⟩])
 (.seq (.reg [⟨(some 15), .mv (.t 2), none⟩, ⟨(some 16), .real (.t 15), none⟩, ⟨(some 17), .mv (.t 1), none⟩, ⟨(some 18), .call f_slice_Axis [(.t 16), (.t 17)], none⟩, ⟨(some 14), .mv (.t 18), none⟩, ⟨(some 19), .extract (.t 14) 0, none⟩, ⟨(some 20), .extract (.t 14) 1, none⟩, ⟨(some 7), .mv (.t 19), none⟩, ⟨(some 8), .mv (.t 20), none⟩])
 (.seq (.reg [⟨(some 22), .mv (.t 2), none⟩, ⟨(some 23), .imag (.t 22), none⟩, ⟨(some 24), .mv (.t 1), none⟩, ⟨(some 25), .call f_slice_Axis [(.t 23), (.t 24)], none⟩, ⟨(some 21), .mv (.t 25), none⟩, ⟨(some 26), .extract (.t 21) 0, none⟩, ⟨(some 27), .extract (.t 21) 1, none⟩, ⟨(some 9), .mv (.t 26), none⟩, ⟨(some 10), .mv (.t 27), none⟩])
 (.seq (.reg [⟨(some 28), .mv (.t 7), none⟩, ⟨(some 29), .conv .toFlt (.t 28), none⟩, ⟨(some 30), .mv (.t 9), none⟩, ⟨(some 31), .conv .toFlt (.t 30), none⟩, ⟨(some 32), .cplx (.t 29) (.t 31), none⟩, ⟨(some 11), .mv (.t 32), none⟩])
 (.seq (.reg [⟨(some 34), .mv (.t 0), none⟩, ⟨(some 35), .mv (.t 11), none⟩, ⟨(some 36), .call f_points_Label [(.t 34), (.t 35)], none⟩, ⟨(some 33), .mv (.t 36), none⟩, ⟨(some 37), .extract (.t 33) 0, none⟩, ⟨(some 38), .extract (.t 33) 1, none⟩, ⟨(some 12), .mv (.t 37), none⟩, ⟨(some 13), .mv (.t 38), none⟩])
 (.seq (.reg [⟨(some 39), .mv (.t 12), none⟩, ⟨(some 40), .mv (.t 11), none⟩, ⟨(some 41), .build [(.int .i64 (0)), (.cpx 0 0), (.bool false)] [(0, 1, (.t 39)), (1, 1, (.t 40))], none⟩, ⟨none, .store (.t 6) (.t 41) 3, none⟩])
 .ret))))))
def c_slice_axes : AFun := .code 42 [(.cell 6 3 true)] b_slice_axes
def c_slice_nearest_L0 : AC := (.seq (.reg [⟨(some 27), .bin .lss (.t 26) (.t 25), none⟩])
 (.seq (.cond (.t 27) .skip
 (.exit 0))
 (.seq (.block 1 (.seq (.reg [⟨(some 28), .mv (.t 26), none⟩, ⟨(some 29), .indexSl (.t 24) (.t 26) 1, none⟩, ⟨(some 30), .load (.t 29) 1 false, none⟩, ⟨(some 11), .mv (.t 28), none⟩, ⟨(some 12), .mv (.t 30), none⟩])
 (.seq (.reg [⟨(some 31), .mv (.t 2), none⟩, ⟨(some 32), .mv (.t 12), none⟩, ⟨(some 33), .call f_slice_gap [(.t 31), (.t 32)], none⟩, ⟨(some 13), .mv (.t 33), none⟩])
 (.seq (.reg [⟨(some 34), .mv (.t 13), none⟩, ⟨(some 35), .mv (.t 10), none⟩, ⟨(some 36), .bin .lss (.t 34) (.t 35), none⟩])
 (.cond (.t 36) (.reg [⟨(some 37), .mv (.t 11), none⟩, ⟨(some 38), .mv (.t 12), none⟩, ⟨(some 39), .build [(.int .i64 (0)), (.cpx 0 0), (.bool false)] [(0, 1, (.t 37)), (1, 1, (.t 38))], none⟩, ⟨(some 40), .mv (.t 13), none⟩, ⟨none, .store (.t 9) (.t 39) 3, none⟩, ⟨(some 10), .mv (.t 40), none⟩])
 .skip)))))
 (.reg [⟨(some 41), .bin .add (.t 26) (.c (.int .i64 (1))), none⟩, ⟨(some 26), .mv (.t 41), none⟩]))))
def c_slice_nearest_R1 : AC := (.seq (.reg [⟨(some 42), .load (.t 9) 3 true, none⟩, ⟨none, .store (.t 6) (.t 42) 3, none⟩])
 .ret)
def b_slice_nearest : AC := (.seq (.reg [⟨(some 6), .alloc [(.int .i64 (0)), (.cpx 0 0), (.bool false)] 47, none⟩])
 (.seq (.reg [⟨(some 15), .mv (.t 0), none⟩, ⟨(some 16), .call f_points_All [(.t 15)], none⟩, ⟨(some 14), .mv (.t 16), none⟩, ⟨(some 17), .extract (.t 14) 0, none⟩, ⟨(some 18), .extract (.t 14) 1, none⟩, ⟨(some 7), .mv (.t 17), none⟩, ⟨(some 8), .mv (.t 18), none⟩])
 (.seq (.reg [⟨(some 19), .mv (.t 2), none⟩, ⟨(some 20), .mv (.t 1), none⟩, ⟨(some 21), .call f_slice_cut [(.t 19), (.t 20)], none⟩, ⟨(some 2), .mv (.t 21), none⟩])
 (.seq (.reg [⟨(some 22), .build [(.int .i64 (0)), (.cpx 0 0), (.bool false)] [], none⟩, ⟨(some 23), .call f_math_Inf [(.c (.int .i64 (1)))], none⟩, ⟨(some 9), .alloc [(.int .i64 (0)), (.cpx 0 0), (.bool false)] 47, none⟩, ⟨none, .store (.t 9) (.t 22) 3, none⟩, ⟨(some 10), .mv (.t 23), none⟩])
 (.seq (.seq (.reg [⟨(some 24), .mv (.t 7), none⟩, ⟨(some 25), .lenSl (.t 24), none⟩, ⟨(some 26), .mv (.c (.int .i64 (0))), none⟩])
 (.block 0 (.loop c_slice_nearest_L0)))
 c_slice_nearest_R1)))))
def c_slice_nearest : AFun := .code 43 [(.cell 6 3 true)] b_slice_nearest
def b_math_Modf : AC := (.seq (.reg [⟨(some 2), .mv (.c (.flt 0)), none⟩, ⟨(some 3), .mv (.c (.flt 0)), none⟩])
 (.seq (.reg [⟨(some 4), .mv (.t 0), none⟩, ⟨(some 5), .call f_math_Trunc [(.t 4)], none⟩, ⟨(some 2), .mv (.t 5), none⟩])
 (.seq (.reg [⟨(some 6), .mv (.t 0), none⟩, ⟨(some 7), .mv (.t 2), none⟩, ⟨(some 8), .bin .sub (.t 6) (.t 7), none⟩, ⟨(some 9), .mv (.t 0), none⟩, ⟨(some 10), .call f_math_Copysign [(.t 8), (.t 9)], none⟩, ⟨(some 3), .mv (.t 10), none⟩])
 .ret)))
def c_math_Modf : AFun := .code 11 [(.tmp 2), (.tmp 3)] b_math_Modf
def c_ref01_gray_L0 : AC := (.seq (.seq (.reg [⟨(some 5), .mv (.t 4), none⟩, ⟨(some 6), .bin .lss (.t 5) (.c (.int .i64 (16))), none⟩])
 (.cond (.t 6) .skip
 (.exit 0)))
 (.seq (.block 1 (.seq (dr [(⟨(some 9), .mv (.t 0), none⟩, .plain), (⟨(some 10), .mv (.t 4), none⟩, .plain), (⟨(some 11), .call f_ref01_power [(.t 10)], none⟩, .plain), (⟨(some 12), .bin .quo (.t 9) (.t 11), none⟩, .plain), (⟨(some 13), .bin .rem (.t 12) (.c (.int .i64 (2))), none⟩, .plain), (⟨(some 14), .mv (.t 0), none⟩, .plain), (⟨(some 15), .mv (.t 4), none⟩, .plain), (⟨(some 16), .bin .add (.t 15) (.c (.int .i64 (1))), none⟩, .plain), (⟨(some 17), .call f_ref01_power [(.t 16)], none⟩, .plain), (⟨(some 18), .bin .quo (.t 14) (.t 17), none⟩, .plain), (⟨(some 19), .bin .rem (.t 18) (.c (.int .i64 (2))), none⟩, .plain), (⟨(some 20), .bin .neq (.t 13) (.t 19), none⟩, .plain)])
 (.cond (.t 20) (.reg [⟨(some 21), .mv (.t 3), none⟩, ⟨(some 22), .mv (.t 4), none⟩, ⟨(some 23), .call f_ref01_power [(.t 22)], none⟩, ⟨(some 24), .bin .add (.t 21) (.t 23), none⟩, ⟨(some 3), .mv (.t 24), none⟩])
 .skip)))
 (.reg [⟨(some 7), .mv (.t 4), none⟩, ⟨(some 8), .bin .add (.t 7) (.c (.int .i64 (1))), none⟩, ⟨(some 4), .mv (.t 8), none⟩])))
def c_ref01_gray_R1 : AC := (.seq (.reg [⟨(some 25), .mv (.t 3), none⟩, ⟨(some 2), .mv (.t 25), none⟩])
 .ret)
def b_ref01_gray : AC := (.seq (.reg [⟨(some 2), .mv (.c (.int .i64 (0))), none⟩])
 (.seq (.reg [⟨(some 3), .mv (.c (.int .i64 (0))), none⟩])
 (.seq (.seq (.reg [⟨(some 4), .mv (.c (.int .i64 (0))), none⟩])
 (.block 0 (.loop c_ref01_gray_L0)))
 c_ref01_gray_R1)))
def c_ref01_gray : AFun := .code 26 [(.tmp 2)] b_ref01_gray
def b_slice_Axis : AC := (.seq (.reg [⟨(some 4), .mv (.c (.int .i64 (0))), none⟩, ⟨(some 5), .mv (.c (.int .i64 (0))), none⟩])
 (.seq (.seq (.reg [⟨(some 7), .mv (.t 1), none⟩, ⟨(some 8), .bin .lss (.t 7) (.c (.int .i64 (1))), none⟩, ⟨(some 9), .mv (.t 8), none⟩, ⟨(some 10), .mv (.t 1), (some (9, false))⟩, ⟨(some 11), .bin .gtr (.t 10) (.c (.int .i64 (15))), (some (9, false))⟩, ⟨(some 12), .pick (.t 9) (.c (.bool true)) (.t 11), none⟩, ⟨(some 13), .mv (.t 12), none⟩, ⟨(some 14), .mv (.t 1), (some (13, false))⟩, ⟨(some 15), .bin .rem (.t 14) (.c (.int .i64 (2))), (some (13, false))⟩, ⟨(some 16), .bin .eql (.t 15) (.c (.int .i64 (0))), (some (13, false))⟩, ⟨(some 17), .pick (.t 13) (.c (.bool true)) (.t 16), none⟩, ⟨(some 18), .mv (.t 17), none⟩, ⟨(some 19), .mv (.t 0), (some (18, false))⟩, ⟨(some 20), .call f_math_IsNaN [(.t 19)], (some (18, false))⟩, ⟨(some 21), .pick (.t 18) (.c (.bool true)) (.t 20), none⟩])
 (.cond (.t 21) (.seq (.reg [⟨(some 4), .mv (.c (.int .i64 (0))), none⟩, ⟨(some 5), .mv (.c (.int .i64 (1))), none⟩])
 .ret)
 .skip))
 (.seq (.reg [⟨(some 22), .mv (.t 1), none⟩, ⟨(some 23), .conv .toFlt (.t 22), none⟩, ⟨(some 24), .un .neg (.t 23), none⟩, ⟨(some 25), .mv (.t 0), none⟩, ⟨(some 26), .mv (.t 1), none⟩, ⟨(some 27), .conv .toFlt (.t 26), none⟩, ⟨(some 28), .call f_math_Min [(.t 25), (.t 27)], none⟩, ⟨(some 29), .call f_math_Max [(.t 24), (.t 28)], none⟩, ⟨(some 0), .mv (.t 29), none⟩])
 (.seq (.reg [⟨(some 30), .mv (.t 0), none⟩, ⟨(some 31), .call f_math_Ceil [(.t 30)], none⟩, ⟨(some 32), .conv (.fltToInt .i64) (.t 31), none⟩, ⟨(some 6), .mv (.t 32), none⟩])
 (.seq (.seq (.reg [⟨(some 33), .mv (.t 6), none⟩, ⟨(some 34), .bin .rem (.t 33) (.c (.int .i64 (2))), none⟩, ⟨(some 35), .bin .eql (.t 34) (.c (.int .i64 (0))), none⟩])
 (.cond (.t 35) (.reg [⟨(some 36), .mv (.t 6), none⟩, ⟨(some 37), .bin .sub (.t 36) (.c (.int .i64 (1))), none⟩, ⟨(some 6), .mv (.t 37), none⟩])
 .skip))
 (.seq (.reg [⟨(some 38), .mv (.t 6), none⟩, ⟨(some 39), .mv (.t 1), none⟩, ⟨(some 40), .un .neg (.t 39), none⟩, ⟨(some 41), .mm true [(.t 38), (.t 40)], none⟩, ⟨(some 4), .mv (.t 41), none⟩, ⟨(some 5), .mv (.c (.int .i64 (0))), none⟩])
 .ret))))))
def c_slice_Axis : AFun := .code 42 [(.tmp 4), (.tmp 5)] b_slice_Axis
def c_points_Label_L0 : AC := (.seq (.reg [⟨(some 21), .bin .lss (.t 20) (.t 19), none⟩])
 (.seq (.cond (.t 21) .skip
 (.exit 0))
 (.seq (.block 1 (.seq (.reg [⟨(some 22), .mv (.t 20), none⟩, ⟨(some 23), .indexSl (.t 18) (.t 20) 1, none⟩, ⟨(some 24), .load (.t 23) 1 false, none⟩, ⟨(some 8), .mv (.t 22), none⟩, ⟨(some 9), .mv (.t 24), none⟩])
 (.seq (.reg [⟨(some 25), .mv (.t 9), none⟩, ⟨(some 26), .mv (.t 1), none⟩, ⟨(some 27), .bin .eql (.t 25) (.t 26), none⟩])
 (.cond (.t 27) (.seq (.reg [⟨(some 28), .mv (.t 8), none⟩, ⟨(some 4), .mv (.t 28), none⟩, ⟨(some 5), .mv (.c (.int .i64 (0))), none⟩])
 .ret)
 .skip))))
 (.reg [⟨(some 29), .bin .add (.t 20) (.c (.int .i64 (1))), none⟩, ⟨(some 20), .mv (.t 29), none⟩]))))
def c_points_Label_R1 : AC := (.seq (.reg [⟨(some 4), .mv (.c (.int .i64 (0))), none⟩, ⟨(some 5), .mv (.c (.int .i64 (6))), none⟩])
 .ret)
def b_points_Label : AC := (.seq (.reg [⟨(some 4), .mv (.c (.int .i64 (0))), none⟩, ⟨(some 5), .mv (.c (.int .i64 (0))), none⟩])
 (.seq (.reg [⟨(some 11), .mv (.t 0), none⟩, ⟨(some 12), .call f_points_All [(.t 11)], none⟩, ⟨(some 10), .mv (.t 12), none⟩, ⟨(some 13), .extract (.t 10) 0, none⟩, ⟨(some 14), .extract (.t 10) 1, none⟩, ⟨(some 6), .mv (.t 13), none⟩, ⟨(some 7), .mv (.t 14), none⟩])
 (.seq (.seq (.reg [⟨(some 15), .mv (.t 7), none⟩, ⟨(some 16), .bin .neq (.t 15) (.c (.int .i64 (0))), none⟩])
 (.cond (.t 16) (.seq (.reg [⟨(some 17), .mv (.t 7), none⟩, ⟨(some 4), .mv (.c (.int .i64 (0))), none⟩, ⟨(some 5), .mv (.t 17), none⟩])
 .ret)
 .skip))
 (.seq (.seq (.reg [⟨(some 18), .mv (.t 6), none⟩, ⟨(some 19), .lenSl (.t 18), none⟩, ⟨(some 20), .mv (.c (.int .i64 (0))), none⟩])
 (.block 0 (.loop c_points_Label_L0)))
 c_points_Label_R1))))
def c_points_Label : AFun := .code 30 [(.tmp 4), (.tmp 5)] b_points_Label
def c_points_All_L0 : AC := (.seq (.reg [⟨(some 20), .bin .lss (.t 19) (.t 18), none⟩])
 (.seq (.cond (.t 20) .skip
 (.exit 0))
 (.seq (.block 1 (.seq (.reg [⟨(some 21), .mv (.t 19), none⟩, ⟨(some 7), .mv (.t 21), none⟩])
 (.reg [⟨(some 22), .mv (.t 6), none⟩, ⟨(some 23), .mv (.t 7), none⟩, ⟨(some 24), .fieldAddr (.t 4) 2, none⟩, ⟨(some 25), .load (.t 24) 1 false, none⟩, ⟨(some 26), .mv (.t 7), none⟩, ⟨(some 27), .callv (.t 25) [(.t 26)], none⟩, ⟨(some 28), .indexSl (.t 22) (.t 23) 1, none⟩, ⟨none, .store (.t 28) (.t 27) 1, none⟩])))
 (.reg [⟨(some 29), .bin .add (.t 19) (.c (.int .i64 (1))), none⟩, ⟨(some 19), .mv (.t 29), none⟩]))))
def c_points_All_R1 : AC := (.seq (.reg [⟨(some 30), .mv (.t 6), none⟩, ⟨(some 2), .mv (.t 30), none⟩, ⟨(some 3), .mv (.c (.int .i64 (0))), none⟩])
 .ret)
def b_points_All : AC := (.seq (.reg [⟨(some 2), .mv (.c .nilSl), none⟩, ⟨(some 3), .mv (.c (.int .i64 (0))), none⟩])
 (.seq (.reg [⟨(some 9), .mv (.t 0), none⟩, ⟨(some 10), .call f_points_of [(.t 9)], none⟩, ⟨(some 8), .mv (.t 10), none⟩, ⟨(some 11), .extract (.t 8) 0, none⟩, ⟨(some 12), .extract (.t 8) 1, none⟩, ⟨(some 4), .alloc [(.int .i64 (0)), (.int .i64 (0)), .nilFunc] 121, none⟩, ⟨none, .store (.t 4) (.t 11) 3, none⟩, ⟨(some 5), .mv (.t 12), none⟩])
 (.seq (.seq (.reg [⟨(some 13), .mv (.t 5), none⟩, ⟨(some 14), .un .not (.t 13), none⟩])
 (.cond (.t 14) (.seq (.reg [⟨(some 2), .mv (.c .nilSl), none⟩, ⟨(some 3), .mv (.c (.int .i64 (1))), none⟩])
 .ret)
 .skip))
 (.seq (.reg [⟨(some 15), .mv (.t 0), none⟩, ⟨(some 16), .mkSl (.t 15) (.t 15) [(.cpx 0 0)] 1 16 33, none⟩, ⟨(some 6), .mv (.t 16), none⟩])
 (.seq (.seq (.reg [⟨(some 17), .mv (.t 6), none⟩, ⟨(some 18), .lenSl (.t 17), none⟩, ⟨(some 19), .mv (.c (.int .i64 (0))), none⟩])
 (.block 0 (.loop c_points_All_L0)))
 c_points_All_R1)))))
def c_points_All : AFun := .code 31 [(.tmp 2), (.tmp 3)] b_points_All
def b_slice_cut : AC := (.seq (.reg [⟨(some 4), .mv (.c (.cpx 0 0)), none⟩])
 (.seq (.reg [⟨(some 6), .mv (.t 1), none⟩, ⟨(some 7), .conv .toFlt (.t 6), none⟩, ⟨(some 5), .mv (.t 7), none⟩])
 (.seq (.reg [⟨(some 8), .mv (.t 5), none⟩, ⟨(some 9), .un .neg (.t 8), none⟩, ⟨(some 10), .mv (.t 0), none⟩, ⟨(some 11), .real (.t 10), none⟩, ⟨(some 12), .mv (.t 5), none⟩, ⟨(some 13), .call f_math_Min [(.t 11), (.t 12)], none⟩, ⟨(some 14), .call f_math_Max [(.t 9), (.t 13)], none⟩, ⟨(some 15), .mv (.t 5), none⟩, ⟨(some 16), .un .neg (.t 15), none⟩, ⟨(some 17), .mv (.t 0), none⟩, ⟨(some 18), .imag (.t 17), none⟩, ⟨(some 19), .mv (.t 5), none⟩, ⟨(some 20), .call f_math_Min [(.t 18), (.t 19)], none⟩, ⟨(some 21), .call f_math_Max [(.t 16), (.t 20)], none⟩, ⟨(some 22), .cplx (.t 14) (.t 21), none⟩, ⟨(some 4), .mv (.t 22), none⟩])
 .ret)))
def c_slice_cut : AFun := .code 23 [(.tmp 4)] b_slice_cut
def b_math_Inf : AC := (.seq (.reg [⟨(some 2), .mv (.c (.flt 0)), none⟩])
 (.seq (.reg [⟨(some 3), .mv (.c (.int .u64 (0))), none⟩])
 (.seq (.seq (.reg [⟨(some 4), .mv (.t 0), none⟩, ⟨(some 5), .bin .geq (.t 4) (.c (.int .i64 (0))), none⟩])
 (.cond (.t 5) (.reg [⟨(some 3), .mv (.c (.int .u64 (9218868437227405312))), none⟩])
 (.reg [⟨(some 3), .mv (.c (.int .u64 (18442240474082181120))), none⟩])))
 (.seq (.reg [⟨(some 6), .mv (.t 3), none⟩, ⟨(some 7), .call f_math_Float64frombits [(.t 6)], none⟩, ⟨(some 2), .mv (.t 7), none⟩])
 .ret))))
def c_math_Inf : AFun := .code 8 [(.tmp 2)] b_math_Inf
def b_slice_gap : AC := (.seq (.reg [⟨(some 4), .mv (.c (.flt 0)), none⟩])
 (.seq (.reg [⟨(some 7), .mv (.t 0), none⟩, ⟨(some 8), .real (.t 7), none⟩, ⟨(some 9), .mv (.t 1), none⟩, ⟨(some 10), .real (.t 9), none⟩, ⟨(some 11), .bin .sub (.t 8) (.t 10), none⟩, ⟨(some 12), .mv (.t 0), none⟩, ⟨(some 13), .imag (.t 12), none⟩, ⟨(some 14), .mv (.t 1), none⟩, ⟨(some 15), .imag (.t 14), none⟩, ⟨(some 16), .bin .sub (.t 13) (.t 15), none⟩, ⟨(some 5), .mv (.t 11), none⟩, ⟨(some 6), .mv (.t 16), none⟩])
 (.seq (.reg [⟨(some 17), .mv (.t 5), none⟩, ⟨(some 18), .mv (.t 5), none⟩, ⟨(some 19), .bin .mul (.t 17) (.t 18), none⟩, ⟨(some 20), .mv (.t 6), none⟩, ⟨(some 21), .mv (.t 6), none⟩, ⟨(some 22), .bin .mul (.t 20) (.t 21), none⟩, ⟨(some 23), .bin .add (.t 19) (.t 22), none⟩, ⟨(some 4), .mv (.t 23), none⟩])
 .ret)))
def c_slice_gap : AFun := .code 24 [(.tmp 4)] b_slice_gap
def b_math_Trunc : AC := (.seq (.reg [⟨(some 2), .mv (.c (.flt 0)), none⟩])
 (.seq (.cond (.c (.bool true)) (.seq (.reg [⟨(some 3), .mv (.t 0), none⟩, ⟨(some 4), .call f_math_archTrunc [(.t 3)], none⟩, ⟨(some 2), .mv (.t 4), none⟩])
 .ret)
 .skip)
 (.seq (.reg [⟨(some 5), .mv (.t 0), none⟩, ⟨(some 6), .call f_math_trunc [(.t 5)], none⟩, ⟨(some 2), .mv (.t 6), none⟩])
 .ret)))
def c_math_Trunc : AFun := .code 7 [(.tmp 2)] b_math_Trunc
def b_math_Copysign : AC := (.seq (.reg [⟨(some 4), .mv (.c (.flt 0)), none⟩])
 (.seq (.reg [⟨(some 5), .mv (.t 0), none⟩, ⟨(some 6), .call f_math_Float64bits [(.t 5)], none⟩, ⟨(some 7), .bin .andNot (.t 6) (.c (.int .u64 (9223372036854775808))), none⟩, ⟨(some 8), .mv (.t 1), none⟩, ⟨(some 9), .call f_math_Float64bits [(.t 8)], none⟩, ⟨(some 10), .bin .and (.t 9) (.c (.int .u64 (9223372036854775808))), none⟩, ⟨(some 11), .bin .or (.t 7) (.t 10), none⟩, ⟨(some 12), .call f_math_Float64frombits [(.t 11)], none⟩, ⟨(some 4), .mv (.t 12), none⟩])
 .ret))
def c_math_Copysign : AFun := .code 13 [(.tmp 4)] b_math_Copysign
def c_ref01_power_L0 : AC := (.seq (.seq (.reg [⟨(some 5), .mv (.t 4), none⟩, ⟨(some 6), .mv (.t 0), none⟩, ⟨(some 7), .bin .lss (.t 5) (.t 6), none⟩])
 (.cond (.t 7) .skip
 (.exit 0)))
 (.seq (.block 1 (.reg [⟨(some 10), .mv (.t 3), none⟩, ⟨(some 11), .bin .mul (.c (.int .i64 (2))) (.t 10), none⟩, ⟨(some 3), .mv (.t 11), none⟩]))
 (.reg [⟨(some 8), .mv (.t 4), none⟩, ⟨(some 9), .bin .add (.t 8) (.c (.int .i64 (1))), none⟩, ⟨(some 4), .mv (.t 9), none⟩])))
def c_ref01_power_R1 : AC := (.seq (.reg [⟨(some 12), .mv (.t 3), none⟩, ⟨(some 2), .mv (.t 12), none⟩])
 .ret)
def b_ref01_power : AC := (.seq (.reg [⟨(some 2), .mv (.c (.int .i64 (0))), none⟩])
 (.seq (.reg [⟨(some 3), .mv (.c (.int .i64 (1))), none⟩])
 (.seq (.seq (.reg [⟨(some 4), .mv (.c (.int .i64 (0))), none⟩])
 (.block 0 (.loop c_ref01_power_L0)))
 c_ref01_power_R1)))
def c_ref01_power : AFun := .code 13 [(.tmp 2)] b_ref01_power
def b_math_Max : AC := (.seq (.reg [⟨(some 4), .mv (.c (.flt 0)), none⟩])
 (.seq (.cond (.c (.bool true)) (.seq (.reg [⟨(some 5), .mv (.t 0), none⟩, ⟨(some 6), .mv (.t 1), none⟩, ⟨(some 7), .call f_math_archMax [(.t 5), (.t 6)], none⟩, ⟨(some 4), .mv (.t 7), none⟩])
 .ret)
 .skip)
 (.seq (.reg [⟨(some 8), .mv (.t 0), none⟩, ⟨(some 9), .mv (.t 1), none⟩, ⟨(some 10), .call f_math_max [(.t 8), (.t 9)], none⟩, ⟨(some 4), .mv (.t 10), none⟩])
 .ret)))
def c_math_Max : AFun := .code 11 [(.tmp 4)] b_math_Max
def b_math_Min : AC := (.seq (.reg [⟨(some 4), .mv (.c (.flt 0)), none⟩])
 (.seq (.cond (.c (.bool true)) (.seq (.reg [⟨(some 5), .mv (.t 0), none⟩, ⟨(some 6), .mv (.t 1), none⟩, ⟨(some 7), .call f_math_archMin [(.t 5), (.t 6)], none⟩, ⟨(some 4), .mv (.t 7), none⟩])
 .ret)
 .skip)
 (.seq (.reg [⟨(some 8), .mv (.t 0), none⟩, ⟨(some 9), .mv (.t 1), none⟩, ⟨(some 10), .call f_math_min [(.t 8), (.t 9)], none⟩, ⟨(some 4), .mv (.t 10), none⟩])
 .ret)))
def c_math_Min : AFun := .code 11 [(.tmp 4)] b_math_Min
def b_math_Ceil : AC := (.seq (.reg [⟨(some 2), .mv (.c (.flt 0)), none⟩])
 (.seq (.cond (.c (.bool true)) (.seq (.reg [⟨(some 3), .mv (.t 0), none⟩, ⟨(some 4), .call f_math_archCeil [(.t 3)], none⟩, ⟨(some 2), .mv (.t 4), none⟩])
 .ret)
 .skip)
 (.seq (.reg [⟨(some 5), .mv (.t 0), none⟩, ⟨(some 6), .call f_math_ceil [(.t 5)], none⟩, ⟨(some 2), .mv (.t 6), none⟩])
 .ret)))
def c_math_Ceil : AFun := .code 7 [(.tmp 2)] b_math_Ceil
def c_math_archTrunc : AFun := .ext .trunc
def b_math_trunc : AC := (.seq (.reg [⟨(some 2), .mv (.c (.flt 0)), none⟩])
 (.seq (.seq (.reg [⟨(some 5), .mv (.t 0), none⟩, ⟨(some 6), .call f_math_Abs [(.t 5)], none⟩, ⟨(some 7), .bin .lss (.t 6) (.c (.flt 4607182418800017408)), none⟩])
 (.cond (.t 7) (.seq (.reg [⟨(some 8), .mv (.t 0), none⟩, ⟨(some 9), .call f_math_Copysign [(.c (.flt 0)), (.t 8)], none⟩, ⟨(some 2), .mv (.t 9), none⟩])
 .ret)
 .skip))
 (.seq (.reg [⟨(some 10), .mv (.t 0), none⟩, ⟨(some 11), .call f_math_Float64bits [(.t 10)], none⟩, ⟨(some 3), .mv (.t 11), none⟩])
 (.seq (.reg [⟨(some 12), .mv (.t 3), none⟩, ⟨(some 13), .bin .shr (.t 12) (.c (.int .u64 (52))), none⟩, ⟨(some 14), .bin .and (.t 13) (.c (.int .u64 (2047))), none⟩, ⟨(some 15), .bin .sub (.t 14) (.c (.int .u64 (1023))), none⟩, ⟨(some 4), .mv (.t 15), none⟩])
 (.seq (.seq (.reg [⟨(some 16), .mv (.t 4), none⟩, ⟨(some 17), .bin .lss (.t 16) (.c (.int .u64 (52))), none⟩])
 (.cond (.t 17) (.reg [⟨(some 18), .mv (.t 3), none⟩, ⟨(some 19), .mv (.t 4), none⟩, ⟨(some 20), .bin .sub (.c (.int .u64 (52))) (.t 19), none⟩, ⟨(some 21), .bin .shl (.c (.int .u64 (1))) (.t 20), none⟩, ⟨(some 22), .bin .sub (.t 21) (.c (.int .u64 (1))), none⟩, ⟨(some 23), .bin .andNot (.t 18) (.t 22), none⟩, ⟨(some 3), .mv (.t 23), none⟩])
 .skip))
 (.seq (.reg [⟨(some 24), .mv (.t 3), none⟩, ⟨(some 25), .call f_math_Float64frombits [(.t 24)], none⟩, ⟨(some 2), .mv (.t 25), none⟩])
 .ret))))))
def c_math_trunc : AFun := .code 26 [(.tmp 2)] b_math_trunc
def c_math_archMax : AFun := .ext .amax
def b_math_max : AC := (.seq (.reg [⟨(some 4), .mv (.c (.flt 0)), none⟩])
 (.seq (.block 0 (.seq (.reg [⟨(some 6), .mv (.t 0), none⟩, ⟨(some 7), .call f_math_IsInf [(.t 6), (.c (.int .i64 (1)))], none⟩, ⟨(some 8), .mv (.t 7), none⟩, ⟨(some 9), .mv (.t 1), (some (8, false))⟩, ⟨(some 10), .call f_math_IsInf [(.t 9), (.c (.int .i64 (1)))], (some (8, false))⟩, ⟨(some 11), .pick (.t 8) (.c (.bool true)) (.t 10), none⟩, ⟨(some 5), .mv (.t 11), none⟩])
 (.cond (.t 5) (.seq (.reg [⟨(some 12), .call f_math_Inf [(.c (.int .i64 (1)))], none⟩, ⟨(some 4), .mv (.t 12), none⟩])
 .ret)
 (.seq (.reg [⟨(some 14), .mv (.t 0), none⟩, ⟨(some 15), .call f_math_IsNaN [(.t 14)], none⟩, ⟨(some 16), .mv (.t 15), none⟩, ⟨(some 17), .mv (.t 1), (some (16, false))⟩, ⟨(some 18), .call f_math_IsNaN [(.t 17)], (some (16, false))⟩, ⟨(some 19), .pick (.t 16) (.c (.bool true)) (.t 18), none⟩, ⟨(some 13), .mv (.t 19), none⟩])
 (.cond (.t 13) (.seq (.reg [⟨(some 20), .call f_math_NaN [], none⟩, ⟨(some 4), .mv (.t 20), none⟩])
 .ret)
 (.seq (.reg [⟨(some 22), .mv (.t 0), none⟩, ⟨(some 23), .bin .eql (.t 22) (.c (.flt 0)), none⟩, ⟨(some 24), .mv (.t 23), none⟩, ⟨(some 25), .mv (.t 0), (some (24, true))⟩, ⟨(some 26), .mv (.t 1), (some (24, true))⟩, ⟨(some 27), .bin .eql (.t 25) (.t 26), (some (24, true))⟩, ⟨(some 28), .pick (.t 24) (.t 27) (.c (.bool false)), none⟩, ⟨(some 21), .mv (.t 28), none⟩])
 (.cond (.t 21) (.seq (.seq (.reg [⟨(some 29), .mv (.t 0), none⟩, ⟨(some 30), .call f_math_Signbit [(.t 29)], none⟩])
 (.cond (.t 30) (.seq (.reg [⟨(some 31), .mv (.t 1), none⟩, ⟨(some 4), .mv (.t 31), none⟩])
 .ret)
 .skip))
 (.seq (.reg [⟨(some 32), .mv (.t 0), none⟩, ⟨(some 4), .mv (.t 32), none⟩])
 .ret))
 .skip)))))))
 (.seq (.seq (.reg [⟨(some 33), .mv (.t 0), none⟩, ⟨(some 34), .mv (.t 1), none⟩, ⟨(some 35), .bin .gtr (.t 33) (.t 34), none⟩])
 (.cond (.t 35) (.seq (.reg [⟨(some 36), .mv (.t 0), none⟩, ⟨(some 4), .mv (.t 36), none⟩])
 .ret)
 .skip))
 (.seq (.reg [⟨(some 37), .mv (.t 1), none⟩, ⟨(some 4), .mv (.t 37), none⟩])
 .ret))))
def c_math_max : AFun := .code 38 [(.tmp 4)] b_math_max
def c_math_archMin : AFun := .ext .amin
def b_math_min : AC := (.seq (.reg [⟨(some 4), .mv (.c (.flt 0)), none⟩])
 (.seq (.block 0 (.seq (.reg [⟨(some 6), .mv (.t 0), none⟩, ⟨(some 7), .call f_math_IsInf [(.t 6), (.c (.int .i64 (-1)))], none⟩, ⟨(some 8), .mv (.t 7), none⟩, ⟨(some 9), .mv (.t 1), (some (8, false))⟩, ⟨(some 10), .call f_math_IsInf [(.t 9), (.c (.int .i64 (-1)))], (some (8, false))⟩, ⟨(some 11), .pick (.t 8) (.c (.bool true)) (.t 10), none⟩, ⟨(some 5), .mv (.t 11), none⟩])
 (.cond (.t 5) (.seq (.reg [⟨(some 12), .call f_math_Inf [(.c (.int .i64 (-1)))], none⟩, ⟨(some 4), .mv (.t 12), none⟩])
 .ret)
 (.seq (.reg [⟨(some 14), .mv (.t 0), none⟩, ⟨(some 15), .call f_math_IsNaN [(.t 14)], none⟩, ⟨(some 16), .mv (.t 15), none⟩, ⟨(some 17), .mv (.t 1), (some (16, false))⟩, ⟨(some 18), .call f_math_IsNaN [(.t 17)], (some (16, false))⟩, ⟨(some 19), .pick (.t 16) (.c (.bool true)) (.t 18), none⟩, ⟨(some 13), .mv (.t 19), none⟩])
 (.cond (.t 13) (.seq (.reg [⟨(some 20), .call f_math_NaN [], none⟩, ⟨(some 4), .mv (.t 20), none⟩])
 .ret)
 (.seq (.reg [⟨(some 22), .mv (.t 0), none⟩, ⟨(some 23), .bin .eql (.t 22) (.c (.flt 0)), none⟩, ⟨(some 24), .mv (.t 23), none⟩, ⟨(some 25), .mv (.t 0), (some (24, true))⟩, ⟨(some 26), .mv (.t 1), (some (24, true))⟩, ⟨(some 27), .bin .eql (.t 25) (.t 26), (some (24, true))⟩, ⟨(some 28), .pick (.t 24) (.t 27) (.c (.bool false)), none⟩, ⟨(some 21), .mv (.t 28), none⟩])
 (.cond (.t 21) (.seq (.seq (.reg [⟨(some 29), .mv (.t 0), none⟩, ⟨(some 30), .call f_math_Signbit [(.t 29)], none⟩])
 (.cond (.t 30) (.seq (.reg [⟨(some 31), .mv (.t 0), none⟩, ⟨(some 4), .mv (.t 31), none⟩])
 .ret)
 .skip))
 (.seq (.reg [⟨(some 32), .mv (.t 1), none⟩, ⟨(some 4), .mv (.t 32), none⟩])
 .ret))
 .skip)))))))
 (.seq (.seq (.reg [⟨(some 33), .mv (.t 0), none⟩, ⟨(some 34), .mv (.t 1), none⟩, ⟨(some 35), .bin .lss (.t 33) (.t 34), none⟩])
 (.cond (.t 35) (.seq (.reg [⟨(some 36), .mv (.t 0), none⟩, ⟨(some 4), .mv (.t 36), none⟩])
 .ret)
 .skip))
 (.seq (.reg [⟨(some 37), .mv (.t 1), none⟩, ⟨(some 4), .mv (.t 37), none⟩])
 .ret))))
def c_math_min : AFun := .code 38 [(.tmp 4)] b_math_min
def c_math_archCeil : AFun := .ext .ceil
def b_math_ceil : AC := (.seq (.reg [⟨(some 2), .mv (.c (.flt 0)), none⟩])
 (.seq (.reg [⟨(some 3), .mv (.t 0), none⟩, ⟨(some 4), .un .neg (.t 3), none⟩, ⟨(some 5), .call f_math_Floor [(.t 4)], none⟩, ⟨(some 6), .un .neg (.t 5), none⟩, ⟨(some 2), .mv (.t 6), none⟩])
 .ret))
def c_math_ceil : AFun := .code 7 [(.tmp 2)] b_math_ceil
def b_math_NaN : AC := (.seq (.reg [⟨(some 0), .mv (.c (.flt 0)), none⟩])
 (.seq (.reg [⟨(some 1), .call f_math_Float64frombits [(.c (.int .u64 (9221120237041090561)))], none⟩, ⟨(some 0), .mv (.t 1), none⟩])
 .ret))
def c_math_NaN : AFun := .code 2 [(.tmp 0)] b_math_NaN
def b_math_Signbit : AC := (.seq (.reg [⟨(some 2), .mv (.c (.bool false)), none⟩])
 (.seq (.reg [⟨(some 3), .mv (.t 0), none⟩, ⟨(some 4), .call f_math_Float64bits [(.t 3)], none⟩, ⟨(some 5), .conv (.toInt .i64) (.t 4), none⟩, ⟨(some 6), .bin .lss (.t 5) (.c (.int .i64 (0))), none⟩, ⟨(some 2), .mv (.t 6), none⟩])
 .ret))
def c_math_Signbit : AFun := .code 7 [(.tmp 2)] b_math_Signbit

/-- The codes stand in the table. -/
structure Cs (F : Tab) : Prop where
  gosem_cut_init : Has F f_gosem_cut_init c_gosem_cut_init
  law11_FeedbackLoops : Has F f_law11_FeedbackLoops c_law11_FeedbackLoops
  law11_FeedbackNames : Has F f_law11_FeedbackNames c_law11_FeedbackNames
  law11_FeedbackParts : Has F f_law11_FeedbackParts c_law11_FeedbackParts
  law11_FeedbackRuns : Has F f_law11_FeedbackRuns c_law11_FeedbackRuns
  law11_FeedbackAdds : Has F f_law11_FeedbackAdds c_law11_FeedbackAdds
  law11_FeedbackReach : Has F f_law11_FeedbackReach c_law11_FeedbackReach
  law11_taps : Has F f_law11_taps c_law11_taps
  ref11_New : Has F f_ref11_New c_ref11_New
  feedback_New : Has F f_feedback_New c_feedback_New
  law11_samples : Has F f_law11_samples c_law11_samples
  ref11_Loop_Step : Has F f_ref11_Loop_Step c_ref11_Loop_Step
  feedback_Loop_Step : Has F f_feedback_Loop_Step c_feedback_Loop_Step
  law11_alike : Has F f_law11_alike c_law11_alike
  ref11_Loop_Reset : Has F f_ref11_Loop_Reset c_ref11_Loop_Reset
  feedback_Loop_Reset : Has F f_feedback_Loop_Reset c_feedback_Loop_Reset
  feedback_Loop_Bare : Has F f_feedback_Loop_Bare c_feedback_Loop_Bare
  feedback_Loop_Broken : Has F f_feedback_Loop_Broken c_feedback_Loop_Broken
  feedback_Check : Has F f_feedback_Check c_feedback_Check
  law11_size : Has F f_law11_size c_law11_size
  law11_may : Has F f_law11_may c_law11_may
  law11_near : Has F f_law11_near c_law11_near
  feedback_Run : Has F f_feedback_Run c_feedback_Run
  law11_same : Has F f_law11_same c_law11_same
  ref11_Turn : Has F f_ref11_Turn c_ref11_Turn
  ref11_Run : Has F f_ref11_Run c_ref11_Run
  feedback_Residue : Has F f_feedback_Residue c_feedback_Residue
  law11_rows : Has F f_law11_rows c_law11_rows
  law11_fresh : Has F f_law11_fresh c_law11_fresh
  ref02_Same : Has F f_ref02_Same c_ref02_Same
  feedback_Echo : Has F f_feedback_Echo c_feedback_Echo
  ref04_All : Has F f_ref04_All c_ref04_All
  ref11_First : Has F f_ref11_First c_ref11_First
  law11_answer : Has F f_law11_answer c_law11_answer
  ref11_Same : Has F f_ref11_Same c_ref11_Same
  math_Float64frombits : Has F f_math_Float64frombits c_math_Float64frombits
  ref04_Edge : Has F f_ref04_Edge c_ref04_Edge
  ref11_Check : Has F f_ref11_Check c_ref11_Check
  points_Edge : Has F f_points_Edge c_points_Edge
  feedback_first : Has F f_feedback_first c_feedback_first
  ref02_May : Has F f_ref02_May c_ref02_May
  ref11_mul : Has F f_ref11_mul c_ref11_mul
  ref05_Decide : Has F f_ref05_Decide c_ref05_Decide
  grid_Check : Has F f_grid_Check c_grid_Check
  feedback_times : Has F f_feedback_times c_feedback_times
  feedback_turned : Has F f_feedback_turned c_feedback_turned
  slice_Decide : Has F f_slice_Decide c_slice_Decide
  feedback_taps : Has F f_feedback_taps c_feedback_taps
  feedback_run : Has F f_feedback_run c_feedback_run
  ref02_Check : Has F f_ref02_Check c_ref02_Check
  grid_On : Has F f_grid_On c_grid_On
  ref04_Points : Has F f_ref04_Points c_ref04_Points
  ref04_Number : Has F f_ref04_Number c_ref04_Number
  ref11_Taps : Has F f_ref11_Taps c_ref11_Taps
  points_of : Has F f_points_of c_points_of
  ref02_On : Has F f_ref02_On c_ref02_On
  ref02_Finite : Has F f_ref02_Finite c_ref02_Finite
  ref05_Axis : Has F f_ref05_Axis c_ref05_Axis
  ref04_Label : Has F f_ref04_Label c_ref04_Label
  ref05_Cut : Has F f_ref05_Cut c_ref05_Cut
  ref05_gap : Has F f_ref05_gap c_ref05_gap
  grid_may : Has F f_grid_may c_grid_may
  slice_decide : Has F f_slice_decide c_slice_decide
  feedback_step : Has F f_feedback_step c_feedback_step
  math_Abs : Has F f_math_Abs c_math_Abs
  grid_within : Has F f_grid_within c_grid_within
  math_Floor : Has F f_math_Floor c_math_Floor
  ref04_in : Has F f_ref04_in c_ref04_in
  ref04_label : Has F f_ref04_label c_ref04_label
  ref11_step : Has F f_ref11_step c_ref11_step
  ref11_size : Has F f_ref11_size c_ref11_size
  points_square : Has F f_points_square c_points_square
  points_cross : Has F f_points_cross c_points_cross
  ref05_cut : Has F f_ref05_cut c_ref05_cut
  slice_nan : Has F f_slice_nan c_slice_nan
  math_IsInf : Has F f_math_IsInf c_math_IsInf
  slice_ways : Has F f_slice_ways c_slice_ways
  math_Float64bits : Has F f_math_Float64bits c_math_Float64bits
  math_archFloor : Has F f_math_archFloor c_math_archFloor
  math_floor : Has F f_math_floor c_math_floor
  ref04_size : Has F f_ref04_size c_ref04_size
  ref04_Bits : Has F f_ref04_Bits c_ref04_Bits
  ref01_Gray : Has F f_ref01_Gray c_ref01_Gray
  points_square_c1 : Has F f_points_square_c1 c_points_square_c1
  bits_Ungray : Has F f_bits_Ungray c_bits_Ungray
  points_square_c2 : Has F f_points_square_c2 c_points_square_c2
  points_cross_c1 : Has F f_points_cross_c1 c_points_cross_c1
  math_IsNaN : Has F f_math_IsNaN c_math_IsNaN
  slice_axes : Has F f_slice_axes c_slice_axes
  slice_nearest : Has F f_slice_nearest c_slice_nearest
  math_Modf : Has F f_math_Modf c_math_Modf
  ref01_gray : Has F f_ref01_gray c_ref01_gray
  slice_Axis : Has F f_slice_Axis c_slice_Axis
  points_Label : Has F f_points_Label c_points_Label
  points_All : Has F f_points_All c_points_All
  slice_cut : Has F f_slice_cut c_slice_cut
  math_Inf : Has F f_math_Inf c_math_Inf
  slice_gap : Has F f_slice_gap c_slice_gap
  math_Trunc : Has F f_math_Trunc c_math_Trunc
  math_Copysign : Has F f_math_Copysign c_math_Copysign
  ref01_power : Has F f_ref01_power c_ref01_power
  math_Max : Has F f_math_Max c_math_Max
  math_Min : Has F f_math_Min c_math_Min
  math_Ceil : Has F f_math_Ceil c_math_Ceil
  math_archTrunc : Has F f_math_archTrunc c_math_archTrunc
  math_trunc : Has F f_math_trunc c_math_trunc
  math_archMax : Has F f_math_archMax c_math_archMax
  math_max : Has F f_math_max c_math_max
  math_archMin : Has F f_math_archMin c_math_archMin
  math_min : Has F f_math_min c_math_min
  math_archCeil : Has F f_math_archCeil c_math_archCeil
  math_ceil : Has F f_math_ceil c_math_ceil
  math_NaN : Has F f_math_NaN c_math_NaN
  math_Signbit : Has F f_math_Signbit c_math_Signbit

end Go.Proofs.Ytofaiipohmeelaa.Am
