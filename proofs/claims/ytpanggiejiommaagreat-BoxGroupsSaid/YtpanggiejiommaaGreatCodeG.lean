/- The plain code of functions, by program (mkcode.py). -/
import Derived.Test.YtpanggiejiommaaGreatAm32
import Derived.Test.YtpanggiejiommaaGreatChecked
import Derived.KernelRfl
namespace Go.Proofs.YtpanggiejiommaaGreat
open Go Go.Am
set_option autoImplicit false
set_option linter.all false
set_option maxRecDepth 100000
/-! studwork/studworklaw08.BoxGroups -/
noncomputable def c3l0 : CC := (.seq (.ops [⟨(some 84), .ib .lss (.t 83) (.t 82), none⟩])
  (.seq (.cond (.t 84) .skip (.exit 0))
  (.seq (.block 1 (.seq (.ops [⟨(some 85), .mv (.t 83), none⟩,
  ⟨(some 86), .ia 1 (.t 81) (.t 83), none⟩,
  ⟨(some 87), .load false 1 (.t 86), none⟩,
  ⟨(some 15), .mv (.t 85), none⟩,
  ⟨(some 16), .mv (.t 87), none⟩])
  (.seq (.draw [(0, 0, ⟨(some 88), .mv (.t 16), none⟩),
  (1, 0, ⟨(some 89), .mv (.t 2), none⟩),
  (2, 0, ⟨(some 90), .mv (.t 15), none⟩),
  (3, 6, ⟨(some 91), .ia 1 (.t 89) (.t 90), none⟩),
  (4, 14, ⟨(some 92), .load false 1 (.t 91), none⟩),
  (6, 0, ⟨(some 94), .mv (.t 16), none⟩),
  (7, 0, ⟨(some 95), .mv (.t 1), none⟩),
  (8, 0, ⟨(some 96), .mv (.t 15), none⟩),
  (9, 384, ⟨(some 97), .ia 1 (.t 95) (.t 96), none⟩),
  (10, 896, ⟨(some 98), .load false 1 (.t 97), none⟩),
  (5, 31, ⟨(some 93), .call (.k (.fn (.func 10) [] [])) [(.t 88),(.t 92)], none⟩),
  (11, 2047, ⟨(some 99), .call (.k (.fn (.func 10) [] [])) [(.t 94),(.t 98)], none⟩),
  (12, 4095, ⟨(some 17), .mv (.t 93), none⟩),
  (13, 8191, ⟨(some 18), .mv (.t 99), none⟩)])
  (.ops [⟨(some 100), .mv (.t 13), none⟩,
  ⟨(some 101), .mv (.t 100), none⟩,
  ⟨(some 102), .mv (.t 17), some (101, false)⟩,
  ⟨(some 103), .mv (.t 18), some (101, false)⟩,
  ⟨(some 104), .ib .gtr (.t 102) (.t 103), some (101, false)⟩,
  ⟨(some 105), .pick (.t 101) (.k (.bool true)) (.t 104), none⟩,
  ⟨(some 106), .mv (.t 14), none⟩,
  ⟨(some 107), .mv (.t 106), none⟩,
  ⟨(some 108), .mv (.t 17), some (107, false)⟩,
  ⟨(some 109), .mv (.t 18), some (107, false)⟩,
  ⟨(some 110), .ib .lss (.t 108) (.t 109), some (107, false)⟩,
  ⟨(some 111), .pick (.t 107) (.k (.bool true)) (.t 110), none⟩,
  ⟨(some 13), .mv (.t 105), none⟩,
  ⟨(some 14), .mv (.t 111), none⟩]))))
  (.ops [⟨(some 112), .ib .add (.t 83) (.k (.int .i64 1)), none⟩,
  ⟨(some 83), .mv (.t 112), none⟩]))))
noncomputable def c3 : CC := (.seq (.ops [⟨(some 8), .mv (.k (.bool false)), none⟩])
  (.seq (.ops [⟨(some 19), .call (.k (.fn (.func 5) [] [])) [], none⟩,
  ⟨(some 9), .mv (.t 19), none⟩])
  (.seq (.seq (.ops [⟨(some 20), .mv (.t 0), none⟩,
  ⟨(some 21), .call (.k (.fn (.func 6) [] [])) [(.t 20)], none⟩,
  ⟨(some 22), .mv (.t 21), none⟩,
  ⟨(some 23), .mv (.t 0), some (22, false)⟩,
  ⟨(some 24), .call (.k (.fn (.func 7) [] [])) [(.t 23)], some (22, false)⟩,
  ⟨(some 25), .un .not (.t 24), some (22, false)⟩,
  ⟨(some 26), .pick (.t 22) (.k (.bool true)) (.t 25), none⟩,
  ⟨(some 27), .mv (.t 26), none⟩,
  ⟨(some 28), .mv (.t 1), some (27, false)⟩,
  ⟨(some 29), .mv (.t 0), some (27, false)⟩,
  ⟨(some 30), .lenS (.t 29), some (27, false)⟩,
  ⟨(some 31), .call (.k (.fn (.func 8) [] [])) [(.t 28),(.t 30)], some (27, false)⟩,
  ⟨(some 32), .un .not (.t 31), some (27, false)⟩,
  ⟨(some 33), .pick (.t 27) (.k (.bool true)) (.t 32), none⟩,
  ⟨(some 34), .mv (.t 33), none⟩,
  ⟨(some 35), .mv (.t 2), some (34, false)⟩,
  ⟨(some 36), .mv (.t 0), some (34, false)⟩,
  ⟨(some 37), .lenS (.t 36), some (34, false)⟩,
  ⟨(some 38), .call (.k (.fn (.func 8) [] [])) [(.t 35),(.t 37)], some (34, false)⟩,
  ⟨(some 39), .un .not (.t 38), some (34, false)⟩,
  ⟨(some 40), .pick (.t 34) (.k (.bool true)) (.t 39), none⟩,
  ⟨(some 41), .mv (.t 40), none⟩,
  ⟨(some 42), .mv (.t 9), some (41, false)⟩,
  ⟨(some 43), .un .not (.t 42), some (41, false)⟩,
  ⟨(some 44), .pick (.t 41) (.k (.bool true)) (.t 43), none⟩])
  (.cond (.t 44) (.seq (.ops [⟨(some 45), .mv (.t 9), none⟩,
  ⟨(some 8), .mv (.t 45), none⟩])
  .ret) .skip))
  (.seq (.ops [⟨(some 46), .mv (.t 3), none⟩,
  ⟨(some 47), .cvi .i64 (.t 46), none⟩,
  ⟨(some 48), .mv (.t 0), none⟩,
  ⟨(some 49), .lenS (.t 48), none⟩,
  ⟨(some 50), .ib .rem (.t 47) (.t 49), none⟩,
  ⟨(some 10), .mv (.t 50), none⟩])
  (.seq (.ops [⟨(some 52), .mv (.t 0), none⟩,
  ⟨(some 53), .mv (.t 1), none⟩,
  ⟨(some 54), .mv (.t 10), none⟩,
  ⟨(some 55), .sh .shl (.k (.int .u8 1)) (.t 54), none⟩,
  ⟨(some 56), .call (.k (.fn (.func 9) [] [])) [(.t 52),(.t 53),(.t 55)], none⟩,
  ⟨(some 51), .mv (.t 56), none⟩,
  ⟨(some 57), .ext (.t 51) 0, none⟩,
  ⟨(some 58), .ext (.t 51) 1, none⟩,
  ⟨(some 11), .mv (.t 57), none⟩,
  ⟨(some 12), .mv (.t 58), none⟩])
  (.seq (.seq (.draw [(0, 0, ⟨(some 59), .mv (.t 12), none⟩),
  (1, 1, ⟨(some 60), .ib .neq (.t 59) (.k (.int .i64 0)), none⟩),
  (2, 3, ⟨(some 61), .mv (.t 60), none⟩),
  (3, 7, ⟨(some 62), .mv (.t 11), some (61, false)⟩),
  (4, 7, ⟨(some 63), .mv (.t 0), some (61, false)⟩),
  (5, 7, ⟨(some 64), .mv (.t 10), some (61, false)⟩),
  (6, 55, ⟨(some 65), .ia 1 (.t 63) (.t 64), some (61, false)⟩),
  (7, 119, ⟨(some 66), .load false 1 (.t 65), some (61, false)⟩),
  (8, 7, ⟨(some 67), .mv (.t 10), some (61, false)⟩),
  (10, 7, ⟨(some 69), .mv (.t 0), some (61, false)⟩),
  (11, 7, ⟨(some 70), .mv (.t 10), some (61, false)⟩),
  (12, 3079, ⟨(some 71), .ia 1 (.t 69) (.t 70), some (61, false)⟩),
  (13, 7175, ⟨(some 72), .load false 1 (.t 71), some (61, false)⟩),
  (14, 7, ⟨(some 73), .mv (.t 1), some (61, false)⟩),
  (15, 7, ⟨(some 74), .mv (.t 10), some (61, false)⟩),
  (16, 49159, ⟨(some 75), .ia 1 (.t 73) (.t 74), some (61, false)⟩),
  (17, 114695, ⟨(some 76), .load false 1 (.t 75), some (61, false)⟩),
  (9, 503, ⟨(some 68), .call (.k (.fn (.func 10) [] [])) [(.t 66),(.t 67)], some (61, false)⟩),
  (18, 262135, ⟨(some 77), .call (.k (.fn (.func 10) [] [])) [(.t 72),(.t 76)], some (61, false)⟩),
  (19, 524279, ⟨(some 78), .ib .lss (.t 68) (.t 77), some (61, false)⟩),
  (20, 1048575, ⟨(some 79), .bb .neq (.t 62) (.t 78), some (61, false)⟩),
  (21, 2097151, ⟨(some 80), .pick (.t 61) (.k (.bool true)) (.t 79), none⟩)])
  (.cond (.t 80) (.seq (.ops [⟨(some 8), .mv (.k (.bool false)), none⟩])
  .ret) .skip))
  (.seq (.ops [⟨(some 13), .mv (.k (.bool false)), none⟩,
  ⟨(some 14), .mv (.k (.bool false)), none⟩])
  (.seq (.seq (.ops [⟨(some 81), .mv (.t 0), none⟩,
  ⟨(some 82), .lenS (.t 81), none⟩,
  ⟨(some 83), .mv (.k (.int .i64 0)), none⟩])
  (.block 0 (.loop c3l0)))
  (.seq (.ops [⟨(some 114), .mv (.t 0), none⟩,
  ⟨(some 115), .mv (.t 1), none⟩,
  ⟨(some 116), .mv (.t 0), none⟩,
  ⟨(some 117), .lenS (.t 116), none⟩,
  ⟨(some 118), .sh .shl (.k (.int .u8 1)) (.t 117), none⟩,
  ⟨(some 119), .ib .sub (.t 118) (.k (.int .u8 1)), none⟩,
  ⟨(some 120), .call (.k (.fn (.func 9) [] [])) [(.t 114),(.t 115),(.t 119)], none⟩,
  ⟨(some 113), .mv (.t 120), none⟩,
  ⟨(some 121), .ext (.t 113) 0, none⟩,
  ⟨(some 122), .ext (.t 113) 1, none⟩,
  ⟨(some 11), .mv (.t 121), none⟩,
  ⟨(some 12), .mv (.t 122), none⟩])
  (.seq (.ops [⟨(some 123), .mv (.t 9), none⟩,
  ⟨(some 124), .mv (.t 123), none⟩,
  ⟨(some 125), .mv (.t 12), some (124, true)⟩,
  ⟨(some 126), .ib .eql (.t 125) (.k (.int .i64 0)), some (124, true)⟩,
  ⟨(some 127), .pick (.t 124) (.t 126) (.k (.bool false)), none⟩,
  ⟨(some 128), .mv (.t 127), none⟩,
  ⟨(some 129), .mv (.t 13), some (128, true)⟩,
  ⟨(some 130), .mv (.t 129), some (128, true)⟩,
  ⟨(some 131), .mv (.t 14), some (130, false)⟩,
  ⟨(some 132), .un .not (.t 131), some (130, false)⟩,
  ⟨(some 133), .pick (.t 130) (.k (.bool true)) (.t 132), some (128, true)⟩,
  ⟨(some 134), .mv (.t 133), some (128, true)⟩,
  ⟨(some 135), .mv (.t 11), some (134, false)⟩,
  ⟨(some 136), .pick (.t 134) (.k (.bool true)) (.t 135), some (128, true)⟩,
  ⟨(some 137), .pick (.t 128) (.t 136) (.k (.bool false)), none⟩,
  ⟨(some 8), .mv (.t 137), none⟩])
  .ret))))))))))
theorem look3 : lookC Tryz.prog 3 = some (138, [.tmp 8], c3) := by kernel_rfl
/-! studwork/studworklaw08.wide -/
noncomputable def c6l0 : CC := (.seq (.ops [⟨(some 8), .ib .lss (.t 7) (.t 6), none⟩])
  (.seq (.cond (.t 8) .skip (.exit 0))
  (.seq (.block 1 (.seq (.ops [⟨(some 9), .ia 1 (.t 5) (.t 7), none⟩,
  ⟨(some 10), .load false 1 (.t 9), none⟩,
  ⟨(some 4), .mv (.t 10), none⟩])
  (.seq (.ops [⟨(some 11), .mv (.t 4), none⟩,
  ⟨(some 12), .lenS (.t 11), none⟩,
  ⟨(some 13), .ib .gtr (.t 12) (.k (.int .i64 12)), none⟩])
  (.cond (.t 13) (.seq (.ops [⟨(some 2), .mv (.k (.bool true)), none⟩])
  .ret) .skip))))
  (.ops [⟨(some 14), .ib .add (.t 7) (.k (.int .i64 1)), none⟩,
  ⟨(some 7), .mv (.t 14), none⟩]))))
noncomputable def c6 : CC := (.seq (.ops [⟨(some 2), .mv (.k (.bool false)), none⟩])
  (.seq (.seq (.ops [⟨(some 5), .mv (.t 0), none⟩,
  ⟨(some 6), .lenS (.t 5), none⟩,
  ⟨(some 7), .mv (.k (.int .i64 0)), none⟩])
  (.block 0 (.loop c6l0)))
  (.seq (.ops [⟨(some 15), .mv (.t 0), none⟩,
  ⟨(some 16), .lenS (.t 15), none⟩,
  ⟨(some 17), .ib .gtr (.t 16) (.k (.int .i64 12)), none⟩,
  ⟨(some 2), .mv (.t 17), none⟩])
  .ret)))
theorem look6 : lookC Tryz.prog 6 = some (18, [.tmp 2], c6) := by kernel_rfl
/-! studwork/studworkref08.Wishes -/
noncomputable def c7l0 : CC := (.seq (.seq (.ops [⟨(some 12), .mv (.t 3), none⟩,
  ⟨(some 13), .mv (.t 0), none⟩,
  ⟨(some 14), .lenS (.t 13), none⟩,
  ⟨(some 15), .ib .lss (.t 12) (.t 14), none⟩])
  (.cond (.t 15) .skip (.exit 0)))
  (.seq (.block 1 (.seq (.ops [⟨(some 18), .mv (.t 0), none⟩,
  ⟨(some 19), .mv (.t 3), none⟩,
  ⟨(some 20), .ia 1 (.t 18) (.t 19), none⟩,
  ⟨(some 21), .load false 1 (.t 20), none⟩,
  ⟨(some 22), .mv (.t 0), none⟩,
  ⟨(some 23), .lenS (.t 22), none⟩,
  ⟨(some 24), .call (.k (.fn (.func 8) [] [])) [(.t 21),(.t 23)], none⟩,
  ⟨(some 25), .un .not (.t 24), none⟩])
  (.cond (.t 25) (.seq (.ops [⟨(some 2), .mv (.k (.bool false)), none⟩])
  .ret) .skip)))
  (.ops [⟨(some 16), .mv (.t 3), none⟩,
  ⟨(some 17), .ib .add (.t 16) (.k (.int .i64 1)), none⟩,
  ⟨(some 3), .mv (.t 17), none⟩])))
noncomputable def c7 : CC := (.seq (.ops [⟨(some 2), .mv (.k (.bool false)), none⟩])
  (.seq (.seq (.ops [⟨(some 4), .mv (.t 0), none⟩,
  ⟨(some 5), .lenS (.t 4), none⟩,
  ⟨(some 6), .ib .lss (.t 5) (.k (.int .i64 1)), none⟩,
  ⟨(some 7), .mv (.t 6), none⟩,
  ⟨(some 8), .mv (.t 0), some (7, false)⟩,
  ⟨(some 9), .lenS (.t 8), some (7, false)⟩,
  ⟨(some 10), .ib .gtr (.t 9) (.k (.int .i64 8)), some (7, false)⟩,
  ⟨(some 11), .pick (.t 7) (.k (.bool true)) (.t 10), none⟩])
  (.cond (.t 11) (.seq (.ops [⟨(some 2), .mv (.k (.bool false)), none⟩])
  .ret) .skip))
  (.seq (.seq (.ops [⟨(some 3), .mv (.k (.int .i64 0)), none⟩])
  (.block 0 (.loop c7l0)))
  (.seq (.ops [⟨(some 2), .mv (.k (.bool true)), none⟩])
  .ret))))
theorem look7 : lookC Tryz.prog 7 = some (26, [.tmp 2], c7) := by kernel_rfl
/-! studwork/studworkref08.Order -/
noncomputable def c8l0 : CC := (.seq (.seq (.ops [⟨(some 13), .mv (.t 6), none⟩,
  ⟨(some 14), .mv (.t 1), none⟩,
  ⟨(some 15), .ib .lss (.t 13) (.t 14), none⟩])
  (.cond (.t 15) .skip (.exit 0)))
  (.seq (.block 1 (.seq (.seq (.ops [⟨(some 18), .mv (.t 0), none⟩,
  ⟨(some 19), .mv (.t 6), none⟩,
  ⟨(some 20), .ia 1 (.t 18) (.t 19), none⟩,
  ⟨(some 21), .load false 1 (.t 20), none⟩,
  ⟨(some 22), .mv (.t 1), none⟩,
  ⟨(some 23), .ib .sub (.t 22) (.k (.int .i64 1)), none⟩,
  ⟨(some 24), .call (.k (.fn (.func 29) [] [])) [(.t 21),(.k (.int .i64 0)),(.t 23)], none⟩,
  ⟨(some 25), .un .not (.t 24), none⟩,
  ⟨(some 26), .mv (.t 25), none⟩,
  ⟨(some 27), .mv (.t 5), some (26, false)⟩,
  ⟨(some 28), .mv (.t 0), some (26, false)⟩,
  ⟨(some 29), .mv (.t 6), some (26, false)⟩,
  ⟨(some 30), .ia 1 (.t 28) (.t 29), some (26, false)⟩,
  ⟨(some 31), .load false 1 (.t 30), some (26, false)⟩,
  ⟨(some 32), .ia 1 (.t 27) (.t 31), some (26, false)⟩,
  ⟨(some 33), .load false 1 (.t 32), some (26, false)⟩,
  ⟨(some 34), .pick (.t 26) (.k (.bool true)) (.t 33), none⟩])
  (.cond (.t 34) (.seq (.ops [⟨(some 4), .mv (.k (.bool false)), none⟩])
  .ret) .skip))
  (.ops [⟨(some 35), .mv (.t 5), none⟩,
  ⟨(some 36), .mv (.t 0), none⟩,
  ⟨(some 37), .mv (.t 6), none⟩,
  ⟨(some 38), .ia 1 (.t 36) (.t 37), none⟩,
  ⟨(some 39), .load false 1 (.t 38), none⟩,
  ⟨(some 40), .ia 1 (.t 35) (.t 39), none⟩,
  ⟨none, .store 1 (.t 40) (.k (.bool true)), none⟩])))
  (.ops [⟨(some 16), .mv (.t 6), none⟩,
  ⟨(some 17), .ib .add (.t 16) (.k (.int .i64 1)), none⟩,
  ⟨(some 6), .mv (.t 17), none⟩])))
noncomputable def c8 : CC := (.seq (.ops [⟨(some 4), .mv (.k (.bool false)), none⟩])
  (.seq (.seq (.ops [⟨(some 7), .mv (.t 0), none⟩,
  ⟨(some 8), .lenS (.t 7), none⟩,
  ⟨(some 9), .mv (.t 1), none⟩,
  ⟨(some 10), .ib .neq (.t 8) (.t 9), none⟩])
  (.cond (.t 10) (.seq (.ops [⟨(some 4), .mv (.k (.bool false)), none⟩])
  .ret) .skip))
  (.seq (.ops [⟨(some 11), .mv (.t 1), none⟩,
  ⟨(some 12), .mksl [(.bool false)] 1 1 (.t 11) (.t 11), none⟩,
  ⟨(some 5), .mv (.t 12), none⟩])
  (.seq (.seq (.ops [⟨(some 6), .mv (.k (.int .i64 0)), none⟩])
  (.block 0 (.loop c8l0)))
  (.seq (.ops [⟨(some 4), .mv (.k (.bool true)), none⟩])
  .ret)))))
theorem look8 : lookC Tryz.prog 8 = some (41, [.tmp 4], c8) := by kernel_rfl
/-! studwork/box.Better -/
noncomputable def c9 : CC := (.seq (.ops [⟨(some 3), .box (.t 0), none⟩,
  ⟨(some 4), .box (.t 1), none⟩,
  ⟨(some 5), .box (.t 2), none⟩,
  ⟨(some 6), .mv (.k (.bool false)), none⟩,
  ⟨(some 7), .mv (.k (.int .i64 0)), none⟩])
  (.seq (.ops [⟨(some 10), .load false 1 (.t 3), none⟩,
  ⟨(some 11), .lenS (.t 10), none⟩,
  ⟨(some 8), .alloc [(.int .i64 0)], none⟩,
  ⟨none, .store 1 (.t 8) (.t 11), none⟩])
  (.seq (.block 0 (.seq (.ops [⟨(some 13), .load false 1 (.t 3), none⟩,
  ⟨(some 14), .call (.k (.fn (.func 30) [] [])) [(.t 13)], none⟩,
  ⟨(some 15), .un .not (.t 14), none⟩,
  ⟨(some 12), .mv (.t 15), none⟩])
  (.cond (.t 12) (.seq (.ops [⟨(some 6), .mv (.k (.bool false)), none⟩,
  ⟨(some 7), .mv (.k (.int .i64 2)), none⟩])
  .ret) (.seq (.ops [⟨(some 17), .load false 1 (.t 4), none⟩,
  ⟨(some 18), .load false 1 (.t 8), none⟩,
  ⟨(some 19), .call (.k (.fn (.func 31) [] [])) [(.t 17),(.t 18)], none⟩,
  ⟨(some 20), .un .not (.t 19), none⟩,
  ⟨(some 16), .mv (.t 20), none⟩])
  (.cond (.t 16) (.seq (.ops [⟨(some 6), .mv (.k (.bool false)), none⟩,
  ⟨(some 7), .mv (.k (.int .i64 8)), none⟩])
  .ret) (.seq (.draw [(0, 0, ⟨(some 22), .load false 1 (.t 5), none⟩),
  (1, 1, ⟨(some 23), .ib .eql (.t 22) (.k (.int .u8 0)), none⟩),
  (2, 3, ⟨(some 24), .mv (.t 23), none⟩),
  (3, 7, ⟨(some 25), .load false 1 (.t 5), some (24, false)⟩),
  (4, 15, ⟨(some 26), .cvi .i64 (.t 25), some (24, false)⟩),
  (5, 7, ⟨(some 27), .load false 1 (.t 8), some (24, false)⟩),
  (6, 39, ⟨(some 28), .sh .shl (.k (.int .i64 1)) (.t 27), some (24, false)⟩),
  (7, 127, ⟨(some 29), .ib .geq (.t 26) (.t 28), some (24, false)⟩),
  (8, 255, ⟨(some 30), .pick (.t 24) (.k (.bool true)) (.t 29), none⟩),
  (9, 511, ⟨(some 21), .mv (.t 30), none⟩)])
  (.cond (.t 21) (.seq (.ops [⟨(some 6), .mv (.k (.bool false)), none⟩,
  ⟨(some 7), .mv (.k (.int .i64 2)), none⟩])
  .ret) .skip)))))))
  (.seq (.ops [⟨(some 9), .alloc [.nilf], none⟩])
  (.seq (.ops [⟨(some 31), .mkfn (.func 32) [] [(.t 8),(.t 5),(.t 9),(.t 3),(.t 4)], none⟩,
  ⟨none, .store 1 (.t 9) (.t 31), none⟩])
  (.seq (.ops [⟨(some 32), .load false 1 (.t 9), none⟩,
  ⟨(some 33), .load false 1 (.t 5), none⟩,
  ⟨(some 34), .call (.t 32) [(.k (.int .i64 0)),(.t 33),(.k (.bool false))], none⟩,
  ⟨(some 6), .mv (.t 34), none⟩,
  ⟨(some 7), .mv (.k (.int .i64 0)), none⟩])
  .ret))))))
theorem look9 : lookC Tryz.prog 9 = some (35, [.tmp 6, .tmp 7], c9) := by kernel_rfl
/-! studwork/studworkref08.Liking -/
noncomputable def c10l0 : CC := (.seq (.seq (.ops [⟨(some 6), .mv (.t 5), none⟩,
  ⟨(some 7), .mv (.t 0), none⟩,
  ⟨(some 8), .lenS (.t 7), none⟩,
  ⟨(some 9), .ib .lss (.t 6) (.t 8), none⟩])
  (.cond (.t 9) .skip (.exit 0)))
  (.seq (.block 1 (.seq (.ops [⟨(some 12), .mv (.t 0), none⟩,
  ⟨(some 13), .mv (.t 5), none⟩,
  ⟨(some 14), .ia 1 (.t 12) (.t 13), none⟩,
  ⟨(some 15), .load false 1 (.t 14), none⟩,
  ⟨(some 16), .mv (.t 1), none⟩,
  ⟨(some 17), .ib .eql (.t 15) (.t 16), none⟩])
  (.cond (.t 17) (.seq (.ops [⟨(some 18), .mv (.t 5), none⟩,
  ⟨(some 4), .mv (.t 18), none⟩])
  .ret) .skip)))
  (.ops [⟨(some 10), .mv (.t 5), none⟩,
  ⟨(some 11), .ib .add (.t 10) (.k (.int .i64 1)), none⟩,
  ⟨(some 5), .mv (.t 11), none⟩])))
noncomputable def c10 : CC := (.seq (.ops [⟨(some 4), .mv (.k (.int .i64 0)), none⟩])
  (.seq (.seq (.ops [⟨(some 5), .mv (.k (.int .i64 0)), none⟩])
  (.block 0 (.loop c10l0)))
  (.seq (.ops [⟨(some 19), .mv (.t 0), none⟩,
  ⟨(some 20), .lenS (.t 19), none⟩,
  ⟨(some 4), .mv (.t 20), none⟩])
  .ret)))
theorem look10 : lookC Tryz.prog 10 = some (21, [.tmp 4], c10) := by kernel_rfl
/-! studwork/studworkref08.within -/
noncomputable def c29 : CC := (.seq (.ops [⟨(some 6), .mv (.k (.bool false)), none⟩])
  (.seq (.ops [⟨(some 7), .mv (.t 0), none⟩,
  ⟨(some 8), .mv (.t 1), none⟩,
  ⟨(some 9), .ib .geq (.t 7) (.t 8), none⟩,
  ⟨(some 10), .mv (.t 9), none⟩,
  ⟨(some 11), .mv (.t 0), some (10, true)⟩,
  ⟨(some 12), .mv (.t 2), some (10, true)⟩,
  ⟨(some 13), .ib .leq (.t 11) (.t 12), some (10, true)⟩,
  ⟨(some 14), .pick (.t 10) (.t 13) (.k (.bool false)), none⟩,
  ⟨(some 6), .mv (.t 14), none⟩])
  .ret))
theorem look29 : lookC Tryz.prog 29 = some (15, [.tmp 6], c29) := by kernel_rfl
/-! studwork/box.wishful -/
noncomputable def c30 : CC := (.seq (.ops [⟨(some 2), .mv (.k (.bool false)), none⟩])
  (.seq (.ops [⟨(some 4), .mv (.t 0), none⟩,
  ⟨(some 5), .lenS (.t 4), none⟩,
  ⟨(some 3), .alloc [(.int .i64 0)], none⟩,
  ⟨none, .store 1 (.t 3) (.t 5), none⟩])
  (.seq (.ops [⟨(some 6), .load false 1 (.t 3), none⟩,
  ⟨(some 7), .call (.k (.fn (.func 39) [] [])) [(.k (.int .i64 1)),(.k (.int .i64 8)),(.t 6)], none⟩,
  ⟨(some 8), .mv (.t 7), none⟩,
  ⟨(some 9), .mv (.t 0), some (8, true)⟩,
  ⟨(some 10), .mkfn (.func 69) [] [(.t 3)], some (8, true)⟩,
  ⟨(some 11), .call (.k (.fn (.func 68) [] [])) [(.t 9),(.t 10)], some (8, true)⟩,
  ⟨(some 12), .un .not (.t 11), some (8, true)⟩,
  ⟨(some 13), .pick (.t 8) (.t 12) (.k (.bool false)), none⟩,
  ⟨(some 2), .mv (.t 13), none⟩])
  .ret)))
theorem look30 : lookC Tryz.prog 30 = some (14, [.tmp 2], c30) := by kernel_rfl
/-! studwork/box.each -/
noncomputable def c31l0 : CC := (.seq (.ops [⟨(some 12), .ib .lss (.t 11) (.t 10), none⟩])
  (.seq (.cond (.t 12) .skip (.exit 0))
  (.seq (.block 1 (.seq (.ops [⟨(some 13), .mv (.t 11), none⟩,
  ⟨(some 14), .ia 1 (.t 9) (.t 11), none⟩,
  ⟨(some 15), .load false 1 (.t 14), none⟩,
  ⟨(some 5), .mv (.t 13), none⟩,
  ⟨(some 6), .mv (.t 15), none⟩])
  (.seq (.ops [⟨(some 16), .mv (.t 6), none⟩,
  ⟨(some 17), .mv (.t 5), none⟩,
  ⟨(some 18), .ib .neq (.t 16) (.t 17), none⟩])
  (.cond (.t 18) (.seq (.ops [⟨(some 4), .mv (.k (.bool false)), none⟩])
  .ret) .skip))))
  (.ops [⟨(some 19), .ib .add (.t 11) (.k (.int .i64 1)), none⟩,
  ⟨(some 11), .mv (.t 19), none⟩]))))
noncomputable def c31 : CC := (.seq (.ops [⟨(some 4), .mv (.k (.bool false)), none⟩])
  (.seq (.seq (.ops [⟨(some 7), .mv (.t 0), none⟩,
  ⟨(some 8), .call (.k (.fn (.func 71) [] [])) [(.t 7)], none⟩,
  ⟨(some 9), .call (.k (.fn (.func 70) [] [])) [(.t 8)], none⟩,
  ⟨(some 10), .lenS (.t 9), none⟩,
  ⟨(some 11), .mv (.k (.int .i64 0)), none⟩])
  (.block 0 (.loop c31l0)))
  (.seq (.ops [⟨(some 20), .mv (.t 0), none⟩,
  ⟨(some 21), .lenS (.t 20), none⟩,
  ⟨(some 22), .mv (.t 1), none⟩,
  ⟨(some 23), .ib .eql (.t 21) (.t 22), none⟩,
  ⟨(some 4), .mv (.t 23), none⟩])
  .ret)))
theorem look31 : lookC Tryz.prog 31 = some (24, [.tmp 4], c31) := by kernel_rfl
/-! studwork/box.Better$1 -/
noncomputable def c32l0 : CC := (.seq (.ops [⟨(some 36), .ib .lss (.t 35) (.t 34), none⟩])
  (.seq (.cond (.t 36) .skip (.exit 0))
  (.seq (.block 1 (.seq (.ops [⟨(some 37), .ia 1 (.t 33) (.t 35), none⟩,
  ⟨(some 38), .load false 1 (.t 37), none⟩,
  ⟨(some 13), .mv (.t 38), none⟩])
  (.seq (.ops [⟨(some 39), .mv (.t 13), none⟩,
  ⟨(some 40), .load false 1 (.t 7), none⟩,
  ⟨(some 41), .mv (.t 0), none⟩,
  ⟨(some 42), .ia 1 (.t 40) (.t 41), none⟩,
  ⟨(some 43), .load false 1 (.t 42), none⟩,
  ⟨(some 44), .ib .eql (.t 39) (.t 43), none⟩,
  ⟨(some 14), .mv (.t 44), none⟩])
  (.seq (.seq (.draw [(0, 0, ⟨(some 45), .mv (.t 1), none⟩),
  (1, 0, ⟨(some 46), .mv (.t 13), none⟩),
  (2, 3, ⟨(some 47), .sh .shr (.t 45) (.t 46), none⟩),
  (3, 7, ⟨(some 48), .ib .and (.t 47) (.k (.int .u8 1)), none⟩),
  (4, 15, ⟨(some 49), .ib .eql (.t 48) (.k (.int .u8 1)), none⟩),
  (5, 31, ⟨(some 50), .mv (.t 49), none⟩),
  (6, 63, ⟨(some 51), .load false 1 (.t 5), some (50, true)⟩),
  (7, 63, ⟨(some 52), .mv (.t 0), some (50, true)⟩),
  (8, 191, ⟨(some 53), .ib .add (.t 52) (.k (.int .i64 1)), some (50, true)⟩),
  (9, 63, ⟨(some 54), .mv (.t 1), some (50, true)⟩),
  (10, 63, ⟨(some 55), .mv (.t 13), some (50, true)⟩),
  (11, 1087, ⟨(some 56), .sh .shl (.k (.int .u8 1)) (.t 55), some (50, true)⟩),
  (12, 3647, ⟨(some 57), .ib .andNot (.t 54) (.t 56), some (50, true)⟩),
  (13, 63, ⟨(some 58), .mv (.t 2), some (50, true)⟩),
  (14, 8255, ⟨(some 59), .mv (.t 58), some (50, true)⟩),
  (15, 24639, ⟨(some 60), .mv (.t 14), some (59, false)⟩),
  (16, 57407, ⟨(some 61), .un .not (.t 60), some (59, false)⟩),
  (17, 122943, ⟨(some 62), .pick (.t 59) (.k (.bool true)) (.t 61), some (50, true)⟩),
  (18, 262143, ⟨(some 63), .call (.t 51) [(.t 53),(.t 57),(.t 62)], some (50, true)⟩),
  (19, 524287, ⟨(some 64), .pick (.t 50) (.t 63) (.k (.bool false)), none⟩)])
  (.cond (.t 64) (.seq (.ops [⟨(some 11), .mv (.k (.bool true)), none⟩])
  .ret) .skip))
  (.seq (.ops [⟨(some 65), .mv (.t 14), none⟩])
  (.cond (.t 65) (.seq (.ops [⟨(some 11), .mv (.k (.bool false)), none⟩])
  .ret) .skip))))))
  (.ops [⟨(some 66), .ib .add (.t 35) (.k (.int .i64 1)), none⟩,
  ⟨(some 35), .mv (.t 66), none⟩]))))
noncomputable def c32 : CC := (.seq (.ops [⟨(some 11), .mv (.k (.bool false)), none⟩])
  (.seq (.seq (.ops [⟨(some 15), .mv (.t 0), none⟩,
  ⟨(some 16), .load false 1 (.t 3), none⟩,
  ⟨(some 17), .ib .eql (.t 15) (.t 16), none⟩])
  (.cond (.t 17) (.seq (.ops [⟨(some 18), .mv (.t 2), none⟩,
  ⟨(some 11), .mv (.t 18), none⟩])
  .ret) .skip))
  (.seq (.seq (.ops [⟨(some 19), .load false 1 (.t 4), none⟩,
  ⟨(some 20), .mv (.t 0), none⟩,
  ⟨(some 21), .sh .shr (.t 19) (.t 20), none⟩,
  ⟨(some 22), .ib .and (.t 21) (.k (.int .u8 1)), none⟩,
  ⟨(some 23), .ib .eql (.t 22) (.k (.int .u8 0)), none⟩])
  (.cond (.t 23) (.seq (.ops [⟨(some 24), .load false 1 (.t 5), none⟩,
  ⟨(some 25), .mv (.t 0), none⟩,
  ⟨(some 26), .ib .add (.t 25) (.k (.int .i64 1)), none⟩,
  ⟨(some 27), .mv (.t 1), none⟩,
  ⟨(some 28), .mv (.t 2), none⟩,
  ⟨(some 29), .call (.t 24) [(.t 26),(.t 27),(.t 28)], none⟩,
  ⟨(some 11), .mv (.t 29), none⟩])
  .ret) .skip))
  (.seq (.seq (.ops [⟨(some 30), .load false 1 (.t 6), none⟩,
  ⟨(some 31), .mv (.t 0), none⟩,
  ⟨(some 32), .ia 1 (.t 30) (.t 31), none⟩,
  ⟨(some 33), .load false 1 (.t 32), none⟩,
  ⟨(some 34), .lenS (.t 33), none⟩,
  ⟨(some 35), .mv (.k (.int .i64 0)), none⟩])
  (.block 0 (.loop c32l0)))
  (.seq (.ops [⟨(some 11), .mv (.k (.bool false)), none⟩])
  .ret)))))
theorem look32 : lookC Tryz.prog 32 = some (67, [.tmp 11], c32) := by kernel_rfl
/-! studwork/box.from -/
noncomputable def c39 : CC := (.seq (.ops [⟨(some 6), .mv (.k (.bool false)), none⟩])
  (.seq (.ops [⟨(some 7), .mv (.t 2), none⟩,
  ⟨(some 8), .mv (.t 0), none⟩,
  ⟨(some 9), .ib .geq (.t 7) (.t 8), none⟩,
  ⟨(some 10), .mv (.t 9), none⟩,
  ⟨(some 11), .mv (.t 2), some (10, true)⟩,
  ⟨(some 12), .mv (.t 1), some (10, true)⟩,
  ⟨(some 13), .ib .leq (.t 11) (.t 12), some (10, true)⟩,
  ⟨(some 14), .pick (.t 10) (.t 13) (.k (.bool false)), none⟩,
  ⟨(some 6), .mv (.t 14), none⟩])
  .ret))
theorem look39 : lookC Tryz.prog 39 = some (15, [.tmp 6], c39) := by kernel_rfl
/-! slices.ContainsFunc[[][]int,[]int] -/
noncomputable def c68 : CC := (.seq (.ops [⟨(some 4), .mv (.k (.bool false)), none⟩])
  (.seq (.ops [⟨(some 5), .mv (.t 0), none⟩,
  ⟨(some 6), .mv (.t 1), none⟩,
  ⟨(some 7), .call (.k (.fn (.func 98) [] [])) [(.t 5),(.t 6)], none⟩,
  ⟨(some 8), .ib .geq (.t 7) (.k (.int .i64 0)), none⟩,
  ⟨(some 4), .mv (.t 8), none⟩])
  .ret))
theorem look68 : lookC Tryz.prog 68 = some (9, [.tmp 4], c68) := by kernel_rfl
/-! studwork/box.wishful$1 -/
noncomputable def c69 : CC := (.seq (.ops [⟨(some 3), .mv (.k (.bool false)), none⟩])
  (.seq (.ops [⟨(some 4), .mv (.t 0), none⟩,
  ⟨(some 5), .load false 1 (.t 1), none⟩,
  ⟨(some 6), .call (.k (.fn (.func 31) [] [])) [(.t 4),(.t 5)], none⟩,
  ⟨(some 7), .un .not (.t 6), none⟩,
  ⟨(some 3), .mv (.t 7), none⟩])
  .ret))
theorem look69 : lookC Tryz.prog 69 = some (8, [.tmp 3], c69) := by kernel_rfl
/-! slices.Sorted[int] -/
noncomputable def c70 : CC := (.seq (.ops [⟨(some 2), .mv (.k .nils), none⟩])
  (.seq (.ops [⟨(some 4), .mv (.t 0), none⟩,
  ⟨(some 5), .call (.k (.fn (.func 99) [] [])) [(.t 4)], none⟩,
  ⟨(some 3), .mv (.t 5), none⟩])
  (.seq (.ops [⟨(some 6), .mv (.t 3), none⟩,
  ⟨(some 7), .call (.k (.fn (.func 100) [] [])) [(.t 6)], none⟩])
  (.seq (.ops [⟨(some 8), .mv (.t 3), none⟩,
  ⟨(some 2), .mv (.t 8), none⟩])
  .ret))))
theorem look70 : lookC Tryz.prog 70 = some (9, [.tmp 2], c70) := by kernel_rfl
/-! slices.Values[[]int,int] -/
noncomputable def c71 : CC := (.seq (.ops [⟨(some 1), .box (.t 0), none⟩,
  ⟨(some 2), .mv (.k .nilf), none⟩])
  (.seq (.ops [⟨(some 3), .mkfn (.func 101) [] [(.t 1)], none⟩,
  ⟨(some 2), .mv (.t 3), none⟩])
  .ret))
theorem look71 : lookC Tryz.prog 71 = some (4, [.tmp 2], c71) := by kernel_rfl
/-! slices.IndexFunc[[][]int,[]int] -/
noncomputable def c98l0 : CC := (.seq (.ops [⟨(some 9), .ib .lss (.t 8) (.t 7), none⟩])
  (.seq (.cond (.t 9) .skip (.exit 0))
  (.seq (.block 1 (.seq (.ops [⟨(some 10), .mv (.t 8), none⟩,
  ⟨(some 5), .mv (.t 10), none⟩])
  (.seq (.ops [⟨(some 11), .mv (.t 1), none⟩,
  ⟨(some 12), .mv (.t 0), none⟩,
  ⟨(some 13), .mv (.t 5), none⟩,
  ⟨(some 14), .ia 1 (.t 12) (.t 13), none⟩,
  ⟨(some 15), .load false 1 (.t 14), none⟩,
  ⟨(some 16), .call (.t 11) [(.t 15)], none⟩])
  (.cond (.t 16) (.seq (.ops [⟨(some 17), .mv (.t 5), none⟩,
  ⟨(some 4), .mv (.t 17), none⟩])
  .ret) .skip))))
  (.ops [⟨(some 18), .ib .add (.t 8) (.k (.int .i64 1)), none⟩,
  ⟨(some 8), .mv (.t 18), none⟩]))))
noncomputable def c98 : CC := (.seq (.ops [⟨(some 4), .mv (.k (.int .i64 0)), none⟩])
  (.seq (.seq (.ops [⟨(some 6), .mv (.t 0), none⟩,
  ⟨(some 7), .lenS (.t 6), none⟩,
  ⟨(some 8), .mv (.k (.int .i64 0)), none⟩])
  (.block 0 (.loop c98l0)))
  (.seq (.ops [⟨(some 4), .mv (.k (.int .i64 (-1))), none⟩])
  .ret)))
theorem look98 : lookC Tryz.prog 98 = some (19, [.tmp 4], c98) := by kernel_rfl
/-! slices.Collect[int] -/
noncomputable def c99 : CC := (.seq (.ops [⟨(some 2), .mv (.k .nils), none⟩])
  (.seq (.ops [⟨(some 3), .mv (.t 0), none⟩,
  ⟨(some 4), .call (.k (.fn (.func 113) [] [])) [(.k .nils),(.t 3)], none⟩,
  ⟨(some 2), .mv (.t 4), none⟩])
  .ret))
theorem look99 : lookC Tryz.prog 99 = some (5, [.tmp 2], c99) := by kernel_rfl
/-! slices.Sort[[]int,int] -/
noncomputable def c100 : CC := (.seq (.ops [⟨(some 3), .mv (.t 0), none⟩,
  ⟨(some 4), .lenS (.t 3), none⟩,
  ⟨(some 2), .mv (.t 4), none⟩])
  (.ops [⟨(some 5), .mv (.t 0), none⟩,
  ⟨(some 6), .mv (.t 2), none⟩,
  ⟨(some 7), .mv (.t 2), none⟩,
  ⟨(some 8), .cvi .u64 (.t 7), none⟩,
  ⟨(some 9), .call (.k (.fn (.func 115) [] [])) [(.t 8)], none⟩,
  ⟨(some 10), .call (.k (.fn (.func 114) [] [])) [(.t 5),(.k (.int .i64 0)),(.t 6),(.t 9)], none⟩]))
theorem look100 : lookC Tryz.prog 100 = some (11, [], c100) := by kernel_rfl
/-! slices.Values[[]int,int]$1 -/
noncomputable def c101l0 : CC := (.seq (.ops [⟨(some 8), .ib .lss (.t 7) (.t 6), none⟩])
  (.seq (.cond (.t 8) .skip (.exit 0))
  (.seq (.block 1 (.seq (.ops [⟨(some 9), .ia 1 (.t 5) (.t 7), none⟩,
  ⟨(some 10), .load false 1 (.t 9), none⟩,
  ⟨(some 4), .mv (.t 10), none⟩])
  (.seq (.ops [⟨(some 11), .mv (.t 0), none⟩,
  ⟨(some 12), .mv (.t 4), none⟩,
  ⟨(some 13), .call (.t 11) [(.t 12)], none⟩,
  ⟨(some 14), .un .not (.t 13), none⟩])
  (.cond (.t 14) .ret .skip))))
  (.ops [⟨(some 15), .ib .add (.t 7) (.k (.int .i64 1)), none⟩,
  ⟨(some 7), .mv (.t 15), none⟩]))))
noncomputable def c101 : CC := (.seq (.ops [⟨(some 5), .load false 1 (.t 1), none⟩,
  ⟨(some 6), .lenS (.t 5), none⟩,
  ⟨(some 7), .mv (.k (.int .i64 0)), none⟩])
  (.block 0 (.loop c101l0)))
theorem look101 : lookC Tryz.prog 101 = some (16, [], c101) := by kernel_rfl
/-! slices.AppendSeq[[]int,int] -/
noncomputable def c113r0a : CC := (.ops [⟨(some 5), .mv (.t 7), none⟩])
noncomputable def c113r0b : CC := (.block 1 (.ops [⟨(some 8), .load false 1 (.t 2), none⟩,
  ⟨(some 9), .mv (.t 5), none⟩,
  ⟨(some 10), .bsl [(.int .i64 0)] 1 1 [(0, (.t 9))], none⟩,
  ⟨(some 11), .app 1 8 (.t 8) (.t 10), none⟩,
  ⟨none, .store 1 (.t 2) (.t 11), none⟩]))
theorem c113r0 : (codeAt ((Tryz.f113).body.getD .skip) [1, 0, 1, 0]) = .rangeFunc (.tmp 6) #[7] (codeAt ((Tryz.f113).body.getD .skip) [1, 0, 1, 0, 0]) (codeAt ((Tryz.f113).body.getD .skip) [1, 0, 1, 0, 1]) := by kernel_rfl
theorem c113r0A : compC Tryz.prog (codeAt ((Tryz.f113).body.getD .skip) [1, 0, 1, 0, 0]) = c113r0a := by kernel_rfl
theorem c113r0B : compC Tryz.prog (codeAt ((Tryz.f113).body.getD .skip) [1, 0, 1, 0, 1]) = c113r0b := by kernel_rfl
noncomputable def c113 : CC := (.seq (.ops [⟨(some 2), .box (.t 0), none⟩,
  ⟨(some 4), .mv (.k .nils), none⟩])
  (.seq (.seq (.ops [⟨(some 6), .mv (.t 1), none⟩])
  (.block 0 (.orig (codeAt ((Tryz.f113).body.getD .skip) [1, 0, 1, 0]))))
  (.seq (.ops [⟨(some 12), .load false 1 (.t 2), none⟩,
  ⟨(some 4), .mv (.t 12), none⟩])
  .ret)))
theorem look113 : lookC Tryz.prog 113 = some (13, [.tmp 4], c113) := by kernel_rfl
/-! slices.pdqsortOrdered[int] -/
noncomputable def c114l0 : CC := (.block 1 (.seq (.ops [⟨(some 19), .mv (.t 2), none⟩,
  ⟨(some 20), .mv (.t 1), none⟩,
  ⟨(some 21), .ib .sub (.t 19) (.t 20), none⟩,
  ⟨(some 10), .mv (.t 21), none⟩])
  (.seq (.seq (.ops [⟨(some 22), .mv (.t 10), none⟩,
  ⟨(some 23), .ib .leq (.t 22) (.k (.int .i64 12)), none⟩])
  (.cond (.t 23) (.seq (.ops [⟨(some 24), .mv (.t 0), none⟩,
  ⟨(some 25), .mv (.t 1), none⟩,
  ⟨(some 26), .mv (.t 2), none⟩,
  ⟨(some 27), .call (.k (.fn (.func 120) [] [])) [(.t 24),(.t 25),(.t 26)], none⟩])
  .ret) .skip))
  (.seq (.seq (.ops [⟨(some 28), .mv (.t 3), none⟩,
  ⟨(some 29), .ib .eql (.t 28) (.k (.int .i64 0)), none⟩])
  (.cond (.t 29) (.seq (.ops [⟨(some 30), .mv (.t 0), none⟩,
  ⟨(some 31), .mv (.t 1), none⟩,
  ⟨(some 32), .mv (.t 2), none⟩,
  ⟨(some 33), .call (.k (.fn (.func 121) [] [])) [(.t 30),(.t 31),(.t 32)], none⟩])
  .ret) .skip))
  (.seq (.seq (.ops [⟨(some 34), .mv (.t 8), none⟩,
  ⟨(some 35), .un .not (.t 34), none⟩])
  (.cond (.t 35) (.seq (.ops [⟨(some 36), .mv (.t 0), none⟩,
  ⟨(some 37), .mv (.t 1), none⟩,
  ⟨(some 38), .mv (.t 2), none⟩,
  ⟨(some 39), .call (.k (.fn (.func 122) [] [])) [(.t 36),(.t 37),(.t 38)], none⟩])
  (.ops [⟨(some 40), .mv (.t 3), none⟩,
  ⟨(some 41), .ib .sub (.t 40) (.k (.int .i64 1)), none⟩,
  ⟨(some 3), .mv (.t 41), none⟩])) .skip))
  (.seq (.ops [⟨(some 43), .mv (.t 0), none⟩,
  ⟨(some 44), .mv (.t 1), none⟩,
  ⟨(some 45), .mv (.t 2), none⟩,
  ⟨(some 46), .call (.k (.fn (.func 123) [] [])) [(.t 43),(.t 44),(.t 45)], none⟩,
  ⟨(some 42), .mv (.t 46), none⟩,
  ⟨(some 47), .ext (.t 42) 0, none⟩,
  ⟨(some 48), .ext (.t 42) 1, none⟩,
  ⟨(some 11), .mv (.t 47), none⟩,
  ⟨(some 12), .mv (.t 48), none⟩])
  (.seq (.seq (.ops [⟨(some 49), .mv (.t 12), none⟩,
  ⟨(some 50), .ib .eql (.t 49) (.k (.int .i64 2)), none⟩])
  (.cond (.t 50) (.seq (.ops [⟨(some 51), .mv (.t 0), none⟩,
  ⟨(some 52), .mv (.t 1), none⟩,
  ⟨(some 53), .mv (.t 2), none⟩,
  ⟨(some 54), .call (.k (.fn (.func 124) [] [])) [(.t 51),(.t 52),(.t 53)], none⟩])
  (.seq (.ops [⟨(some 55), .mv (.t 2), none⟩,
  ⟨(some 56), .ib .sub (.t 55) (.k (.int .i64 1)), none⟩,
  ⟨(some 57), .mv (.t 11), none⟩,
  ⟨(some 58), .mv (.t 1), none⟩,
  ⟨(some 59), .ib .sub (.t 57) (.t 58), none⟩,
  ⟨(some 60), .ib .sub (.t 56) (.t 59), none⟩,
  ⟨(some 11), .mv (.t 60), none⟩])
  (.ops [⟨(some 12), .mv (.k (.int .i64 1)), none⟩]))) .skip))
  (.seq (.seq (.ops [⟨(some 61), .mv (.t 8), none⟩,
  ⟨(some 62), .mv (.t 61), none⟩,
  ⟨(some 63), .mv (.t 9), some (62, true)⟩,
  ⟨(some 64), .pick (.t 62) (.t 63) (.k (.bool false)), none⟩,
  ⟨(some 65), .mv (.t 64), none⟩,
  ⟨(some 66), .mv (.t 12), some (65, true)⟩,
  ⟨(some 67), .ib .eql (.t 66) (.k (.int .i64 1)), some (65, true)⟩,
  ⟨(some 68), .pick (.t 65) (.t 67) (.k (.bool false)), none⟩])
  (.cond (.t 68) (.seq (.ops [⟨(some 69), .mv (.t 0), none⟩,
  ⟨(some 70), .mv (.t 1), none⟩,
  ⟨(some 71), .mv (.t 2), none⟩,
  ⟨(some 72), .call (.k (.fn (.func 125) [] [])) [(.t 69),(.t 70),(.t 71)], none⟩])
  (.cond (.t 72) .ret .skip)) .skip))
  (.seq (.seq (.draw [(0, 0, ⟨(some 73), .mv (.t 1), none⟩),
  (1, 1, ⟨(some 74), .ib .gtr (.t 73) (.k (.int .i64 0)), none⟩),
  (2, 3, ⟨(some 75), .mv (.t 74), none⟩),
  (3, 7, ⟨(some 76), .mv (.t 0), some (75, true)⟩),
  (4, 7, ⟨(some 77), .mv (.t 1), some (75, true)⟩),
  (5, 23, ⟨(some 78), .ib .sub (.t 77) (.k (.int .i64 1)), some (75, true)⟩),
  (6, 63, ⟨(some 79), .ia 1 (.t 76) (.t 78), some (75, true)⟩),
  (7, 127, ⟨(some 80), .load false 1 (.t 79), some (75, true)⟩),
  (8, 7, ⟨(some 81), .mv (.t 0), some (75, true)⟩),
  (9, 7, ⟨(some 82), .mv (.t 11), some (75, true)⟩),
  (10, 775, ⟨(some 83), .ia 1 (.t 81) (.t 82), some (75, true)⟩),
  (11, 1799, ⟨(some 84), .load false 1 (.t 83), some (75, true)⟩),
  (12, 4095, ⟨(some 85), .call (.k (.fn (.func 126) [] [])) [(.t 80),(.t 84)], some (75, true)⟩),
  (13, 8191, ⟨(some 86), .un .not (.t 85), some (75, true)⟩),
  (14, 16383, ⟨(some 87), .pick (.t 75) (.t 86) (.k (.bool false)), none⟩)])
  (.cond (.t 87) (.seq (.ops [⟨(some 88), .mv (.t 0), none⟩,
  ⟨(some 89), .mv (.t 1), none⟩,
  ⟨(some 90), .mv (.t 2), none⟩,
  ⟨(some 91), .mv (.t 11), none⟩,
  ⟨(some 92), .call (.k (.fn (.func 127) [] [])) [(.t 88),(.t 89),(.t 90),(.t 91)], none⟩,
  ⟨(some 13), .mv (.t 92), none⟩])
  (.seq (.ops [⟨(some 93), .mv (.t 13), none⟩,
  ⟨(some 1), .mv (.t 93), none⟩])
  (.exit 1))) .skip))
  (.seq (.ops [⟨(some 95), .mv (.t 0), none⟩,
  ⟨(some 96), .mv (.t 1), none⟩,
  ⟨(some 97), .mv (.t 2), none⟩,
  ⟨(some 98), .mv (.t 11), none⟩,
  ⟨(some 99), .call (.k (.fn (.func 128) [] [])) [(.t 95),(.t 96),(.t 97),(.t 98)], none⟩,
  ⟨(some 94), .mv (.t 99), none⟩,
  ⟨(some 100), .ext (.t 94) 0, none⟩,
  ⟨(some 101), .ext (.t 94) 1, none⟩,
  ⟨(some 14), .mv (.t 100), none⟩,
  ⟨(some 15), .mv (.t 101), none⟩])
  (.seq (.ops [⟨(some 102), .mv (.t 15), none⟩,
  ⟨(some 9), .mv (.t 102), none⟩])
  (.seq (.ops [⟨(some 103), .mv (.t 14), none⟩,
  ⟨(some 104), .mv (.t 1), none⟩,
  ⟨(some 105), .ib .sub (.t 103) (.t 104), none⟩,
  ⟨(some 106), .mv (.t 2), none⟩,
  ⟨(some 107), .mv (.t 14), none⟩,
  ⟨(some 108), .ib .sub (.t 106) (.t 107), none⟩,
  ⟨(some 16), .mv (.t 105), none⟩,
  ⟨(some 17), .mv (.t 108), none⟩])
  (.seq (.ops [⟨(some 109), .mv (.t 10), none⟩,
  ⟨(some 110), .ib .quo (.t 109) (.k (.int .i64 8)), none⟩,
  ⟨(some 18), .mv (.t 110), none⟩])
  (.seq (.ops [⟨(some 111), .mv (.t 16), none⟩,
  ⟨(some 112), .mv (.t 17), none⟩,
  ⟨(some 113), .ib .lss (.t 111) (.t 112), none⟩])
  (.cond (.t 113) (.seq (.ops [⟨(some 114), .mv (.t 16), none⟩,
  ⟨(some 115), .mv (.t 18), none⟩,
  ⟨(some 116), .ib .geq (.t 114) (.t 115), none⟩,
  ⟨(some 8), .mv (.t 116), none⟩])
  (.seq (.ops [⟨(some 117), .mv (.t 0), none⟩,
  ⟨(some 118), .mv (.t 1), none⟩,
  ⟨(some 119), .mv (.t 14), none⟩,
  ⟨(some 120), .mv (.t 3), none⟩,
  ⟨(some 121), .call (.k (.fn (.func 114) [] [])) [(.t 117),(.t 118),(.t 119),(.t 120)], none⟩])
  (.ops [⟨(some 122), .mv (.t 14), none⟩,
  ⟨(some 123), .ib .add (.t 122) (.k (.int .i64 1)), none⟩,
  ⟨(some 1), .mv (.t 123), none⟩]))) (.seq (.ops [⟨(some 124), .mv (.t 17), none⟩,
  ⟨(some 125), .mv (.t 18), none⟩,
  ⟨(some 126), .ib .geq (.t 124) (.t 125), none⟩,
  ⟨(some 8), .mv (.t 126), none⟩])
  (.seq (.ops [⟨(some 127), .mv (.t 0), none⟩,
  ⟨(some 128), .mv (.t 14), none⟩,
  ⟨(some 129), .ib .add (.t 128) (.k (.int .i64 1)), none⟩,
  ⟨(some 130), .mv (.t 2), none⟩,
  ⟨(some 131), .mv (.t 3), none⟩,
  ⟨(some 132), .call (.k (.fn (.func 114) [] [])) [(.t 127),(.t 129),(.t 130),(.t 131)], none⟩])
  (.ops [⟨(some 133), .mv (.t 14), none⟩,
  ⟨(some 2), .mv (.t 133), none⟩]))))))))))))))))))
noncomputable def c114 : CC := (.seq (.ops [⟨(some 8), .mv (.k (.bool true)), none⟩])
  (.seq (.ops [⟨(some 9), .mv (.k (.bool true)), none⟩])
  (.block 0 (.loop c114l0))))
theorem look114 : lookC Tryz.prog 114 = some (134, [], c114) := by kernel_rfl
/-! math/bits.Len -/
noncomputable def c115 : CC := (.seq (.ops [⟨(some 2), .mv (.k (.int .i64 0)), none⟩])
  (.seq (.cond (.k (.bool false)) (.seq (.ops [⟨(some 3), .mv (.t 0), none⟩,
  ⟨(some 4), .cvi .u32 (.t 3), none⟩,
  ⟨(some 5), .call (.k (.fn (.func 129) [] [])) [(.t 4)], none⟩,
  ⟨(some 2), .mv (.t 5), none⟩])
  .ret) .skip)
  (.seq (.ops [⟨(some 6), .mv (.t 0), none⟩,
  ⟨(some 7), .call (.k (.fn (.func 130) [] [])) [(.t 6)], none⟩,
  ⟨(some 2), .mv (.t 7), none⟩])
  .ret)))
theorem look115 : lookC Tryz.prog 115 = some (8, [.tmp 2], c115) := by kernel_rfl
/-! slices.insertionSortOrdered[int] -/
noncomputable def c120l1 : CC := (.seq (.seq (.draw [(0, 0, ⟨(some 16), .mv (.t 7), none⟩),
  (1, 0, ⟨(some 17), .mv (.t 1), none⟩),
  (2, 3, ⟨(some 18), .ib .gtr (.t 16) (.t 17), none⟩),
  (3, 7, ⟨(some 19), .mv (.t 18), none⟩),
  (4, 15, ⟨(some 20), .mv (.t 0), some (19, true)⟩),
  (5, 15, ⟨(some 21), .mv (.t 7), some (19, true)⟩),
  (6, 63, ⟨(some 22), .ia 1 (.t 20) (.t 21), some (19, true)⟩),
  (7, 127, ⟨(some 23), .load false 1 (.t 22), some (19, true)⟩),
  (8, 15, ⟨(some 24), .mv (.t 0), some (19, true)⟩),
  (9, 15, ⟨(some 25), .mv (.t 7), some (19, true)⟩),
  (10, 527, ⟨(some 26), .ib .sub (.t 25) (.k (.int .i64 1)), some (19, true)⟩),
  (11, 1807, ⟨(some 27), .ia 1 (.t 24) (.t 26), some (19, true)⟩),
  (12, 3855, ⟨(some 28), .load false 1 (.t 27), some (19, true)⟩),
  (13, 8191, ⟨(some 29), .call (.k (.fn (.func 126) [] [])) [(.t 23),(.t 28)], some (19, true)⟩),
  (14, 16383, ⟨(some 30), .pick (.t 19) (.t 29) (.k (.bool false)), none⟩)])
  (.cond (.t 30) .skip (.exit 2)))
  (.seq (.block 3 (.draw [(0, 0, ⟨(some 33), .mv (.t 0), none⟩),
  (1, 0, ⟨(some 34), .mv (.t 7), none⟩),
  (2, 0, ⟨(some 35), .mv (.t 0), none⟩),
  (3, 0, ⟨(some 36), .mv (.t 7), none⟩),
  (4, 8, ⟨(some 37), .ib .sub (.t 36) (.k (.int .i64 1)), none⟩),
  (5, 0, ⟨(some 38), .mv (.t 0), none⟩),
  (6, 0, ⟨(some 39), .mv (.t 7), none⟩),
  (7, 64, ⟨(some 40), .ib .sub (.t 39) (.k (.int .i64 1)), none⟩),
  (8, 224, ⟨(some 41), .ia 1 (.t 38) (.t 40), none⟩),
  (9, 480, ⟨(some 42), .load false 1 (.t 41), none⟩),
  (10, 0, ⟨(some 43), .mv (.t 0), none⟩),
  (11, 0, ⟨(some 44), .mv (.t 7), none⟩),
  (12, 3072, ⟨(some 45), .ia 1 (.t 43) (.t 44), none⟩),
  (13, 7168, ⟨(some 46), .load false 1 (.t 45), none⟩),
  (14, 16355, ⟨(some 47), .ia 1 (.t 33) (.t 34), none⟩),
  (15, 32739, ⟨none, .store 1 (.t 47) (.t 42), none⟩),
  (16, 65535, ⟨(some 48), .ia 1 (.t 35) (.t 37), none⟩),
  (17, 131071, ⟨none, .store 1 (.t 48) (.t 46), none⟩)]))
  (.ops [⟨(some 31), .mv (.t 7), none⟩,
  ⟨(some 32), .ib .sub (.t 31) (.k (.int .i64 1)), none⟩,
  ⟨(some 7), .mv (.t 32), none⟩])))
noncomputable def c120l0 : CC := (.seq (.seq (.ops [⟨(some 10), .mv (.t 6), none⟩,
  ⟨(some 11), .mv (.t 2), none⟩,
  ⟨(some 12), .ib .lss (.t 10) (.t 11), none⟩])
  (.cond (.t 12) .skip (.exit 0)))
  (.seq (.block 1 (.seq (.ops [⟨(some 15), .mv (.t 6), none⟩,
  ⟨(some 7), .mv (.t 15), none⟩])
  (.block 2 (.loop c120l1))))
  (.ops [⟨(some 13), .mv (.t 6), none⟩,
  ⟨(some 14), .ib .add (.t 13) (.k (.int .i64 1)), none⟩,
  ⟨(some 6), .mv (.t 14), none⟩])))
noncomputable def c120 : CC := (.seq (.ops [⟨(some 8), .mv (.t 1), none⟩,
  ⟨(some 9), .ib .add (.t 8) (.k (.int .i64 1)), none⟩,
  ⟨(some 6), .mv (.t 9), none⟩])
  (.block 0 (.loop c120l0)))
theorem look120 : lookC Tryz.prog 120 = some (49, [], c120) := by kernel_rfl
/-! cmp.Less[int] -/
noncomputable def c126 : CC := (.seq (.ops [⟨(some 4), .mv (.k (.bool false)), none⟩])
  (.seq (.ops [⟨(some 5), .mv (.t 0), none⟩,
  ⟨(some 6), .call (.k (.fn (.func 80) [] [])) [(.t 5)], none⟩,
  ⟨(some 7), .mv (.t 6), none⟩,
  ⟨(some 8), .mv (.t 1), some (7, true)⟩,
  ⟨(some 9), .call (.k (.fn (.func 80) [] [])) [(.t 8)], some (7, true)⟩,
  ⟨(some 10), .un .not (.t 9), some (7, true)⟩,
  ⟨(some 11), .pick (.t 7) (.t 10) (.k (.bool false)), none⟩,
  ⟨(some 12), .mv (.t 11), none⟩,
  ⟨(some 13), .mv (.t 0), some (12, false)⟩,
  ⟨(some 14), .mv (.t 1), some (12, false)⟩,
  ⟨(some 15), .ib .lss (.t 13) (.t 14), some (12, false)⟩,
  ⟨(some 16), .pick (.t 12) (.k (.bool true)) (.t 15), none⟩,
  ⟨(some 4), .mv (.t 16), none⟩])
  .ret))
theorem look126 : lookC Tryz.prog 126 = some (17, [.tmp 4], c126) := by kernel_rfl
/-! cmp.isNaN[int] -/
noncomputable def c80 : CC := (.seq (.ops [⟨(some 2), .mv (.k (.bool false)), none⟩])
  (.seq (.ops [⟨(some 3), .mv (.t 0), none⟩,
  ⟨(some 4), .mv (.t 0), none⟩,
  ⟨(some 5), .ib .neq (.t 3) (.t 4), none⟩,
  ⟨(some 2), .mv (.t 5), none⟩])
  .ret))
theorem look80 : lookC Tryz.prog 80 = some (6, [.tmp 2], c80) := by kernel_rfl
/-! math/bits.Len64 -/
noncomputable def c130 : CC := (.seq (.ops [⟨(some 2), .mv (.k (.int .i64 0)), none⟩])
  (.seq (.seq (.ops [⟨(some 3), .mv (.t 0), none⟩,
  ⟨(some 4), .ib .geq (.t 3) (.k (.int .u64 4294967296)), none⟩])
  (.cond (.t 4) (.seq (.ops [⟨(some 5), .mv (.t 0), none⟩,
  ⟨(some 6), .sh .shr (.t 5) (.k (.int .u64 32)), none⟩,
  ⟨(some 0), .mv (.t 6), none⟩])
  (.ops [⟨(some 2), .mv (.k (.int .i64 32)), none⟩])) .skip))
  (.seq (.seq (.ops [⟨(some 7), .mv (.t 0), none⟩,
  ⟨(some 8), .ib .geq (.t 7) (.k (.int .u64 65536)), none⟩])
  (.cond (.t 8) (.seq (.ops [⟨(some 9), .mv (.t 0), none⟩,
  ⟨(some 10), .sh .shr (.t 9) (.k (.int .u64 16)), none⟩,
  ⟨(some 0), .mv (.t 10), none⟩])
  (.ops [⟨(some 11), .mv (.t 2), none⟩,
  ⟨(some 12), .ib .add (.t 11) (.k (.int .i64 16)), none⟩,
  ⟨(some 2), .mv (.t 12), none⟩])) .skip))
  (.seq (.seq (.ops [⟨(some 13), .mv (.t 0), none⟩,
  ⟨(some 14), .ib .geq (.t 13) (.k (.int .u64 256)), none⟩])
  (.cond (.t 14) (.seq (.ops [⟨(some 15), .mv (.t 0), none⟩,
  ⟨(some 16), .sh .shr (.t 15) (.k (.int .u64 8)), none⟩,
  ⟨(some 0), .mv (.t 16), none⟩])
  (.ops [⟨(some 17), .mv (.t 2), none⟩,
  ⟨(some 18), .ib .add (.t 17) (.k (.int .i64 8)), none⟩,
  ⟨(some 2), .mv (.t 18), none⟩])) .skip))
  (.seq (.ops [⟨(some 19), .mv (.t 2), none⟩,
  ⟨(some 20), .mv (.t 0), none⟩,
  ⟨(some 21), .cvi .u8 (.t 20), none⟩,
  ⟨(some 22), .ixs (.k (.str [0,1,2,2,3,3,3,3,4,4,4,4,4,4,4,4,5,5,5,5,5,5,5,5,5,5,5,5,5,5,5,5,6,6,6,6,6,6,6,6,6,6,6,6,6,6,6,6,6,6,6,6,6,6,6,6,6,6,6,6,6,6,6,6,7,7,7,7,7,7,7,7,7,7,7,7,7,7,7,7,7,7,7,7,7,7,7,7,7,7,7,7,7,7,7,7,7,7,7,7,7,7,7,7,7,7,7,7,7,7,7,7,7,7,7,7,7,7,7,7,7,7,7,7,7,7,7,7,8,8,8,8,8,8,8,8,8,8,8,8,8,8,8,8,8,8,8,8,8,8,8,8,8,8,8,8,8,8,8,8,8,8,8,8,8,8,8,8,8,8,8,8,8,8,8,8,8,8,8,8,8,8,8,8,8,8,8,8,8,8,8,8,8,8,8,8,8,8,8,8,8,8,8,8,8,8,8,8,8,8,8,8,8,8,8,8,8,8,8,8,8,8,8,8,8,8,8,8,8,8,8,8,8,8,8,8,8,8,8,8,8,8,8,8,8,8,8,8,8,8,8,8,8,8,8,8])) (.t 21), none⟩,
  ⟨(some 23), .cvi .i64 (.t 22), none⟩,
  ⟨(some 24), .ib .add (.t 19) (.t 23), none⟩,
  ⟨(some 2), .mv (.t 24), none⟩])
  .ret)))))
theorem look130 : lookC Tryz.prog 130 = some (25, [.tmp 2], c130) := by kernel_rfl
/-! math/bits.Len32 -/
noncomputable def c129 : CC := (.seq (.ops [⟨(some 2), .mv (.k (.int .i64 0)), none⟩])
  (.seq (.seq (.ops [⟨(some 3), .mv (.t 0), none⟩,
  ⟨(some 4), .ib .geq (.t 3) (.k (.int .u32 65536)), none⟩])
  (.cond (.t 4) (.seq (.ops [⟨(some 5), .mv (.t 0), none⟩,
  ⟨(some 6), .sh .shr (.t 5) (.k (.int .u64 16)), none⟩,
  ⟨(some 0), .mv (.t 6), none⟩])
  (.ops [⟨(some 2), .mv (.k (.int .i64 16)), none⟩])) .skip))
  (.seq (.seq (.ops [⟨(some 7), .mv (.t 0), none⟩,
  ⟨(some 8), .ib .geq (.t 7) (.k (.int .u32 256)), none⟩])
  (.cond (.t 8) (.seq (.ops [⟨(some 9), .mv (.t 0), none⟩,
  ⟨(some 10), .sh .shr (.t 9) (.k (.int .u64 8)), none⟩,
  ⟨(some 0), .mv (.t 10), none⟩])
  (.ops [⟨(some 11), .mv (.t 2), none⟩,
  ⟨(some 12), .ib .add (.t 11) (.k (.int .i64 8)), none⟩,
  ⟨(some 2), .mv (.t 12), none⟩])) .skip))
  (.seq (.ops [⟨(some 13), .mv (.t 2), none⟩,
  ⟨(some 14), .mv (.t 0), none⟩,
  ⟨(some 15), .cvi .u8 (.t 14), none⟩,
  ⟨(some 16), .ixs (.k (.str [0,1,2,2,3,3,3,3,4,4,4,4,4,4,4,4,5,5,5,5,5,5,5,5,5,5,5,5,5,5,5,5,6,6,6,6,6,6,6,6,6,6,6,6,6,6,6,6,6,6,6,6,6,6,6,6,6,6,6,6,6,6,6,6,7,7,7,7,7,7,7,7,7,7,7,7,7,7,7,7,7,7,7,7,7,7,7,7,7,7,7,7,7,7,7,7,7,7,7,7,7,7,7,7,7,7,7,7,7,7,7,7,7,7,7,7,7,7,7,7,7,7,7,7,7,7,7,7,8,8,8,8,8,8,8,8,8,8,8,8,8,8,8,8,8,8,8,8,8,8,8,8,8,8,8,8,8,8,8,8,8,8,8,8,8,8,8,8,8,8,8,8,8,8,8,8,8,8,8,8,8,8,8,8,8,8,8,8,8,8,8,8,8,8,8,8,8,8,8,8,8,8,8,8,8,8,8,8,8,8,8,8,8,8,8,8,8,8,8,8,8,8,8,8,8,8,8,8,8,8,8,8,8,8,8,8,8,8,8,8,8,8,8,8,8,8,8,8,8,8,8,8,8,8,8,8])) (.t 15), none⟩,
  ⟨(some 17), .cvi .i64 (.t 16), none⟩,
  ⟨(some 18), .ib .add (.t 13) (.t 17), none⟩,
  ⟨(some 2), .mv (.t 18), none⟩])
  .ret))))
theorem look129 : lookC Tryz.prog 129 = some (19, [.tmp 2], c129) := by kernel_rfl
theorem call3 (x y args : List AV) (h : Heap) (k : AV → Heap → Prop) (m : Fz k) : cvM Tryz.prog (.fn (.func 3) x y) args h k m = caM Tryz.prog 3 (x ++ args ++ y) h k ⟨⟩ := by
  unfold cvM caM
  rw [callV_func 3 x y args (by kernel_rfl)]
  rfl
theorem call6 (x y args : List AV) (h : Heap) (k : AV → Heap → Prop) (m : Fz k) : cvM Tryz.prog (.fn (.func 6) x y) args h k m = caM Tryz.prog 6 (x ++ args ++ y) h k ⟨⟩ := by
  unfold cvM caM
  rw [callV_func 6 x y args (by kernel_rfl)]
  rfl
theorem call7 (x y args : List AV) (h : Heap) (k : AV → Heap → Prop) (m : Fz k) : cvM Tryz.prog (.fn (.func 7) x y) args h k m = caM Tryz.prog 7 (x ++ args ++ y) h k ⟨⟩ := by
  unfold cvM caM
  rw [callV_func 7 x y args (by kernel_rfl)]
  rfl
theorem call8 (x y args : List AV) (h : Heap) (k : AV → Heap → Prop) (m : Fz k) : cvM Tryz.prog (.fn (.func 8) x y) args h k m = caM Tryz.prog 8 (x ++ args ++ y) h k ⟨⟩ := by
  unfold cvM caM
  rw [callV_func 8 x y args (by kernel_rfl)]
  rfl
theorem call9 (x y args : List AV) (h : Heap) (k : AV → Heap → Prop) (m : Fz k) : cvM Tryz.prog (.fn (.func 9) x y) args h k m = caM Tryz.prog 9 (x ++ args ++ y) h k ⟨⟩ := by
  unfold cvM caM
  rw [callV_func 9 x y args (by kernel_rfl)]
  rfl
theorem call10 (x y args : List AV) (h : Heap) (k : AV → Heap → Prop) (m : Fz k) : cvM Tryz.prog (.fn (.func 10) x y) args h k m = caM Tryz.prog 10 (x ++ args ++ y) h k ⟨⟩ := by
  unfold cvM caM
  rw [callV_func 10 x y args (by kernel_rfl)]
  rfl
theorem call29 (x y args : List AV) (h : Heap) (k : AV → Heap → Prop) (m : Fz k) : cvM Tryz.prog (.fn (.func 29) x y) args h k m = caM Tryz.prog 29 (x ++ args ++ y) h k ⟨⟩ := by
  unfold cvM caM
  rw [callV_func 29 x y args (by kernel_rfl)]
  rfl
theorem call30 (x y args : List AV) (h : Heap) (k : AV → Heap → Prop) (m : Fz k) : cvM Tryz.prog (.fn (.func 30) x y) args h k m = caM Tryz.prog 30 (x ++ args ++ y) h k ⟨⟩ := by
  unfold cvM caM
  rw [callV_func 30 x y args (by kernel_rfl)]
  rfl
theorem call31 (x y args : List AV) (h : Heap) (k : AV → Heap → Prop) (m : Fz k) : cvM Tryz.prog (.fn (.func 31) x y) args h k m = caM Tryz.prog 31 (x ++ args ++ y) h k ⟨⟩ := by
  unfold cvM caM
  rw [callV_func 31 x y args (by kernel_rfl)]
  rfl
theorem call32 (x y args : List AV) (h : Heap) (k : AV → Heap → Prop) (m : Fz k) : cvM Tryz.prog (.fn (.func 32) x y) args h k m = caM Tryz.prog 32 (x ++ args ++ y) h k ⟨⟩ := by
  unfold cvM caM
  rw [callV_func 32 x y args (by kernel_rfl)]
  rfl
theorem call39 (x y args : List AV) (h : Heap) (k : AV → Heap → Prop) (m : Fz k) : cvM Tryz.prog (.fn (.func 39) x y) args h k m = caM Tryz.prog 39 (x ++ args ++ y) h k ⟨⟩ := by
  unfold cvM caM
  rw [callV_func 39 x y args (by kernel_rfl)]
  rfl
theorem call68 (x y args : List AV) (h : Heap) (k : AV → Heap → Prop) (m : Fz k) : cvM Tryz.prog (.fn (.func 68) x y) args h k m = caM Tryz.prog 68 (x ++ args ++ y) h k ⟨⟩ := by
  unfold cvM caM
  rw [callV_func 68 x y args (by kernel_rfl)]
  rfl
theorem call69 (x y args : List AV) (h : Heap) (k : AV → Heap → Prop) (m : Fz k) : cvM Tryz.prog (.fn (.func 69) x y) args h k m = caM Tryz.prog 69 (x ++ args ++ y) h k ⟨⟩ := by
  unfold cvM caM
  rw [callV_func 69 x y args (by kernel_rfl)]
  rfl
theorem call70 (x y args : List AV) (h : Heap) (k : AV → Heap → Prop) (m : Fz k) : cvM Tryz.prog (.fn (.func 70) x y) args h k m = caM Tryz.prog 70 (x ++ args ++ y) h k ⟨⟩ := by
  unfold cvM caM
  rw [callV_func 70 x y args (by kernel_rfl)]
  rfl
theorem call71 (x y args : List AV) (h : Heap) (k : AV → Heap → Prop) (m : Fz k) : cvM Tryz.prog (.fn (.func 71) x y) args h k m = caM Tryz.prog 71 (x ++ args ++ y) h k ⟨⟩ := by
  unfold cvM caM
  rw [callV_func 71 x y args (by kernel_rfl)]
  rfl
theorem call98 (x y args : List AV) (h : Heap) (k : AV → Heap → Prop) (m : Fz k) : cvM Tryz.prog (.fn (.func 98) x y) args h k m = caM Tryz.prog 98 (x ++ args ++ y) h k ⟨⟩ := by
  unfold cvM caM
  rw [callV_func 98 x y args (by kernel_rfl)]
  rfl
theorem call99 (x y args : List AV) (h : Heap) (k : AV → Heap → Prop) (m : Fz k) : cvM Tryz.prog (.fn (.func 99) x y) args h k m = caM Tryz.prog 99 (x ++ args ++ y) h k ⟨⟩ := by
  unfold cvM caM
  rw [callV_func 99 x y args (by kernel_rfl)]
  rfl
theorem call100 (x y args : List AV) (h : Heap) (k : AV → Heap → Prop) (m : Fz k) : cvM Tryz.prog (.fn (.func 100) x y) args h k m = caM Tryz.prog 100 (x ++ args ++ y) h k ⟨⟩ := by
  unfold cvM caM
  rw [callV_func 100 x y args (by kernel_rfl)]
  rfl
theorem call101 (x y args : List AV) (h : Heap) (k : AV → Heap → Prop) (m : Fz k) : cvM Tryz.prog (.fn (.func 101) x y) args h k m = caM Tryz.prog 101 (x ++ args ++ y) h k ⟨⟩ := by
  unfold cvM caM
  rw [callV_func 101 x y args (by kernel_rfl)]
  rfl
theorem call113 (x y args : List AV) (h : Heap) (k : AV → Heap → Prop) (m : Fz k) : cvM Tryz.prog (.fn (.func 113) x y) args h k m = caM Tryz.prog 113 (x ++ args ++ y) h k ⟨⟩ := by
  unfold cvM caM
  rw [callV_func 113 x y args (by kernel_rfl)]
  rfl
theorem call114 (x y args : List AV) (h : Heap) (k : AV → Heap → Prop) (m : Fz k) : cvM Tryz.prog (.fn (.func 114) x y) args h k m = caM Tryz.prog 114 (x ++ args ++ y) h k ⟨⟩ := by
  unfold cvM caM
  rw [callV_func 114 x y args (by kernel_rfl)]
  rfl
theorem call115 (x y args : List AV) (h : Heap) (k : AV → Heap → Prop) (m : Fz k) : cvM Tryz.prog (.fn (.func 115) x y) args h k m = caM Tryz.prog 115 (x ++ args ++ y) h k ⟨⟩ := by
  unfold cvM caM
  rw [callV_func 115 x y args (by kernel_rfl)]
  rfl
theorem call120 (x y args : List AV) (h : Heap) (k : AV → Heap → Prop) (m : Fz k) : cvM Tryz.prog (.fn (.func 120) x y) args h k m = caM Tryz.prog 120 (x ++ args ++ y) h k ⟨⟩ := by
  unfold cvM caM
  rw [callV_func 120 x y args (by kernel_rfl)]
  rfl
theorem call126 (x y args : List AV) (h : Heap) (k : AV → Heap → Prop) (m : Fz k) : cvM Tryz.prog (.fn (.func 126) x y) args h k m = caM Tryz.prog 126 (x ++ args ++ y) h k ⟨⟩ := by
  unfold cvM caM
  rw [callV_func 126 x y args (by kernel_rfl)]
  rfl
theorem call80 (x y args : List AV) (h : Heap) (k : AV → Heap → Prop) (m : Fz k) : cvM Tryz.prog (.fn (.func 80) x y) args h k m = caM Tryz.prog 80 (x ++ args ++ y) h k ⟨⟩ := by
  unfold cvM caM
  rw [callV_func 80 x y args (by kernel_rfl)]
  rfl
theorem call130 (x y args : List AV) (h : Heap) (k : AV → Heap → Prop) (m : Fz k) : cvM Tryz.prog (.fn (.func 130) x y) args h k m = caM Tryz.prog 130 (x ++ args ++ y) h k ⟨⟩ := by
  unfold cvM caM
  rw [callV_func 130 x y args (by kernel_rfl)]
  rfl
theorem call129 (x y args : List AV) (h : Heap) (k : AV → Heap → Prop) (m : Fz k) : cvM Tryz.prog (.fn (.func 129) x y) args h k m = caM Tryz.prog 129 (x ++ args ++ y) h k ⟨⟩ := by
  unfold cvM caM
  rw [callV_func 129 x y args (by kernel_rfl)]
  rfl
end Go.Proofs.YtpanggiejiommaaGreat
