/- Joined out of: AbVC AbVI AbVP73. -/
import Derived.Test.YtgkchcbnbbgdpaaGreatDoorJvD
import Derived.KernelRfl
set_option linter.unusedVariables false
set_option linter.unusedSimpArgs false
namespace Go.Ab
def cc73 : CC :=
  (.seq (.reg [⟨(some 3), .box (.t 0), none, []⟩, ⟨(some 6), .mv (.k (.int .i64 0)), none, []⟩])
  (.seq (.reg [⟨(some 10), .fieldA 0 (.t 3), none, []⟩, ⟨(some 11), .load 1 false (.t 10), none, []⟩, ⟨(some 12), .call (.k (.fn 103 [] [])) [(.t 11)], none, []⟩, ⟨(some 9), .mv (.t 12), none, []⟩, ⟨(some 13), .ext 0 (.t 9), none, []⟩, ⟨(some 14), .ext 1 (.t 9), none, []⟩, ⟨(some 7), .alloc [(.bool false), (.bool false), (.bool false), (.bool false), (.bool false), (.bool false), (.bool false), (.bool false)], none, []⟩, ⟨none, .store 8 (.t 7) (.t 13), none, []⟩, ⟨(some 8), .mv (.t 14), none, []⟩])
  (.seq (.block 0 (.seq (.reg [⟨(some 16), .mv (.t 8), none, []⟩, ⟨(some 17), .un .not (.t 16), none, []⟩, ⟨(some 15), .mv (.t 17), none, []⟩])
  (.cond (.t 15)
  (.seq (.reg [⟨(some 6), .mv (.k (.int .i64 81)), none, []⟩])
  .ret)
  (.seq (.seq (.reg [⟨(some 19), .fieldA 7 (.t 7), none, []⟩, ⟨(some 20), .load 1 false (.t 19), none, []⟩, ⟨(some 21), .mv (.t 20), none, []⟩, ⟨(some 22), .fieldA 1 (.t 3), some (21, true), []⟩, ⟨(some 23), .load 1 false (.t 22), some (21, true), []⟩, ⟨(some 24), .bin .lss .plain (.t 23) (.k (.int .i64 1)), some (21, true), []⟩, ⟨(some 25), .mv (.t 24), some (21, true), []⟩, ⟨(some 26), .fieldA 1 (.t 3), some (25, false), []⟩, ⟨(some 27), .load 1 false (.t 26), some (25, false), []⟩, ⟨(some 28), .bin .gtr .plain (.t 27) (.k (.int .i64 18)), some (25, false), []⟩, ⟨(some 29), .pick (.t 25) (.k (.bool true)) (.t 28), some (21, true), []⟩, ⟨(some 30), .pick (.t 21) (.t 29) (.k (.bool false)), none, []⟩, ⟨(some 18), .mv (.t 30), none, []⟩])
  (.cond (.t 18)
  .skip
  (.reg [⟨(some 31), .fieldA 6 (.t 7), none, []⟩, ⟨(some 32), .load 1 false (.t 31), none, []⟩, ⟨(some 33), .mv (.t 32), none, []⟩, ⟨(some 34), .fieldA 1 (.t 3), some (33, true), []⟩, ⟨(some 35), .load 1 false (.t 34), some (33, true), []⟩, ⟨(some 36), .bin .lss .plain (.t 35) (.k (.int .i64 19)), some (33, true), []⟩, ⟨(some 37), .mv (.t 36), some (33, true), []⟩, ⟨(some 38), .fieldA 1 (.t 3), some (37, false), []⟩, ⟨(some 39), .load 1 false (.t 38), some (37, false), []⟩, ⟨(some 40), .bin .gtr .plain (.t 39) (.k (.int .i64 21)), some (37, false), []⟩, ⟨(some 41), .pick (.t 37) (.k (.bool true)) (.t 40), some (33, true), []⟩, ⟨(some 42), .pick (.t 33) (.t 41) (.k (.bool false)), none, []⟩, ⟨(some 18), .mv (.t 42), none, []⟩])))
  (.cond (.t 18)
  (.seq (.reg [⟨(some 6), .mv (.k (.int .i64 81)), none, []⟩])
  .ret)
  (.seq (.seq (.reg [⟨(some 44), .fieldA 0 (.t 7), none, []⟩, ⟨(some 45), .load 1 false (.t 44), none, []⟩, ⟨(some 46), .mv (.t 45), none, []⟩, ⟨(some 47), .fieldA 2 (.t 3), some (46, true), []⟩, ⟨(some 48), .load 1 false (.t 47), some (46, true), []⟩, ⟨(some 49), .call (.k (.fn 104 [] [])) [(.k (.bool true)), (.t 48)], some (46, true), []⟩, ⟨(some 50), .un .not (.t 49), some (46, true), []⟩, ⟨(some 51), .pick (.t 46) (.t 50) (.k (.bool false)), none, []⟩, ⟨(some 43), .mv (.t 51), none, []⟩])
  (.cond (.t 43)
  .skip
  (.seq (.reg [⟨(some 52), .fieldA 1 (.t 7), none, []⟩, ⟨(some 53), .load 1 false (.t 52), none, []⟩, ⟨(some 54), .mv (.t 53), none, []⟩, ⟨(some 55), .fieldA 3 (.t 3), some (54, true), []⟩, ⟨(some 56), .load 1 false (.t 55), some (54, true), []⟩, ⟨(some 57), .call (.k (.fn 104 [] [])) [(.k (.bool true)), (.t 56)], some (54, true), []⟩, ⟨(some 58), .un .not (.t 57), some (54, true), []⟩, ⟨(some 59), .pick (.t 54) (.t 58) (.k (.bool false)), none, []⟩, ⟨(some 43), .mv (.t 59), none, []⟩])
  (.cond (.t 43)
  .skip
  (.reg [⟨(some 60), .fieldA 2 (.t 7), none, []⟩, ⟨(some 61), .load 1 false (.t 60), none, []⟩, ⟨(some 62), .mv (.t 61), none, []⟩, ⟨(some 63), .fieldA 4 (.t 3), some (62, true), []⟩, ⟨(some 64), .load 1 false (.t 63), some (62, true), []⟩, ⟨(some 65), .call (.k (.fn 104 [] [])) [(.k (.bool true)), (.t 64)], some (62, true), []⟩, ⟨(some 66), .un .not (.t 65), some (62, true), []⟩, ⟨(some 67), .pick (.t 62) (.t 66) (.k (.bool false)), none, []⟩, ⟨(some 43), .mv (.t 67), none, []⟩])))))
  (.cond (.t 43)
  (.seq (.reg [⟨(some 6), .mv (.k (.int .i64 82)), none, []⟩])
  .ret)
  (.seq (.seq (.reg [⟨(some 69), .fieldA 0 (.t 7), none, []⟩, ⟨(some 70), .load 1 false (.t 69), none, []⟩, ⟨(some 71), .un .not (.t 70), none, []⟩, ⟨(some 72), .mv (.t 71), none, []⟩, ⟨(some 73), .fieldA 2 (.t 3), some (72, true), []⟩, ⟨(some 74), .load 1 false (.t 73), some (72, true), []⟩, ⟨(some 75), .bin .neq .plain (.t 74) (.k (.int .i64 0)), some (72, true), []⟩, ⟨(some 76), .pick (.t 72) (.t 75) (.k (.bool false)), none, []⟩, ⟨(some 68), .mv (.t 76), none, []⟩])
  (.cond (.t 68)
  .skip
  (.seq (.reg [⟨(some 77), .fieldA 1 (.t 7), none, []⟩, ⟨(some 78), .load 1 false (.t 77), none, []⟩, ⟨(some 79), .un .not (.t 78), none, []⟩, ⟨(some 80), .mv (.t 79), none, []⟩, ⟨(some 81), .fieldA 3 (.t 3), some (80, true), []⟩, ⟨(some 82), .load 1 false (.t 81), some (80, true), []⟩, ⟨(some 83), .bin .neq .plain (.t 82) (.k (.int .i64 0)), some (80, true), []⟩, ⟨(some 84), .pick (.t 80) (.t 83) (.k (.bool false)), none, []⟩, ⟨(some 68), .mv (.t 84), none, []⟩])
  (.cond (.t 68)
  .skip
  (.seq (.reg [⟨(some 85), .fieldA 2 (.t 7), none, []⟩, ⟨(some 86), .load 1 false (.t 85), none, []⟩, ⟨(some 87), .un .not (.t 86), none, []⟩, ⟨(some 88), .mv (.t 87), none, []⟩, ⟨(some 89), .fieldA 3 (.t 7), some (88, true), []⟩, ⟨(some 90), .load 1 false (.t 89), some (88, true), []⟩, ⟨(some 91), .un .not (.t 90), some (88, true), []⟩, ⟨(some 92), .pick (.t 88) (.t 91) (.k (.bool false)), none, []⟩, ⟨(some 93), .mv (.t 92), none, []⟩, ⟨(some 94), .fieldA 4 (.t 3), some (93, true), []⟩, ⟨(some 95), .load 1 false (.t 94), some (93, true), []⟩, ⟨(some 96), .bin .neq .plain (.t 95) (.k (.int .i64 0)), some (93, true), []⟩, ⟨(some 97), .pick (.t 93) (.t 96) (.k (.bool false)), none, []⟩, ⟨(some 68), .mv (.t 97), none, []⟩])
  (.cond (.t 68)
  .skip
  (.seq (.reg [⟨(some 98), .fieldA 4 (.t 7), none, []⟩, ⟨(some 99), .load 1 false (.t 98), none, []⟩, ⟨(some 100), .un .not (.t 99), none, []⟩, ⟨(some 101), .mv (.t 100), none, []⟩, ⟨(some 102), .fieldA 5 (.t 3), some (101, true), []⟩, ⟨(some 103), .load 1 false (.t 102), some (101, true), []⟩, ⟨(some 104), .bin .neq .plain (.t 103) (.k (.int .i64 0)), some (101, true), []⟩, ⟨(some 105), .pick (.t 101) (.t 104) (.k (.bool false)), none, []⟩, ⟨(some 68), .mv (.t 105), none, []⟩])
  (.cond (.t 68)
  .skip
  (.reg [⟨(some 106), .fieldA 6 (.t 7), none, []⟩, ⟨(some 107), .load 1 false (.t 106), none, []⟩, ⟨(some 108), .un .not (.t 107), none, []⟩, ⟨(some 109), .mv (.t 108), none, []⟩, ⟨(some 110), .fieldA 7 (.t 7), some (109, true), []⟩, ⟨(some 111), .load 1 false (.t 110), some (109, true), []⟩, ⟨(some 112), .un .not (.t 111), some (109, true), []⟩, ⟨(some 113), .pick (.t 109) (.t 112) (.k (.bool false)), none, []⟩, ⟨(some 114), .mv (.t 113), none, []⟩, ⟨(some 115), .fieldA 1 (.t 3), some (114, true), []⟩, ⟨(some 116), .load 1 false (.t 115), some (114, true), []⟩, ⟨(some 117), .bin .neq .plain (.t 116) (.k (.int .i64 0)), some (114, true), []⟩, ⟨(some 118), .pick (.t 114) (.t 117) (.k (.bool false)), none, []⟩, ⟨(some 68), .mv (.t 118), none, []⟩])))))))))
  (.cond (.t 68)
  (.seq (.reg [⟨(some 6), .mv (.k (.int .i64 83)), none, []⟩])
  .ret)
  (.seq (.reg [⟨(some 120), .fieldA 3 (.t 7), none, []⟩, ⟨(some 121), .load 1 false (.t 120), none, []⟩, ⟨(some 122), .mv (.t 121), none, []⟩, ⟨(some 123), .fieldA 4 (.t 3), some (122, true), []⟩, ⟨(some 124), .load 1 false (.t 123), some (122, true), []⟩, ⟨(some 125), .bin .lss .plain (.t 124) (.k (.int .i64 0)), some (122, true), []⟩, ⟨(some 126), .mv (.t 125), some (122, true), []⟩, ⟨(some 127), .fieldA 4 (.t 3), some (126, false), []⟩, ⟨(some 128), .load 1 false (.t 127), some (126, false), []⟩, ⟨(some 129), .mv (.t 1), some (126, false), []⟩, ⟨(some 130), .min (.t 129) (.k (.int .i64 4)), some (126, false), []⟩, ⟨(some 131), .bin .geq .plain (.t 128) (.t 130), some (126, false), []⟩, ⟨(some 132), .pick (.t 126) (.k (.bool true)) (.t 131), some (122, true), []⟩, ⟨(some 133), .pick (.t 122) (.t 132) (.k (.bool false)), none, []⟩, ⟨(some 119), .mv (.t 133), none, []⟩])
  (.cond (.t 119)
  (.seq (.reg [⟨(some 6), .mv (.k (.int .i64 63)), none, []⟩])
  .ret)
  (.seq (.reg [⟨(some 135), .fieldA 5 (.t 7), none, []⟩, ⟨(some 136), .load 1 false (.t 135), none, []⟩, ⟨(some 137), .mv (.t 136), none, []⟩, ⟨(some 138), .fieldA 5 (.t 3), some (137, true), []⟩, ⟨(some 139), .load 1 false (.t 138), some (137, true), []⟩, ⟨(some 140), .bin .lss .plain (.t 139) (.k (.int .i64 0)), some (137, true), []⟩, ⟨(some 141), .mv (.t 140), some (137, true), []⟩, ⟨(some 142), .fieldA 5 (.t 3), some (141, false), []⟩, ⟨(some 143), .load 1 false (.t 142), some (141, false), []⟩, ⟨(some 144), .mv (.t 2), some (141, false), []⟩, ⟨(some 145), .bin .geq .plain (.t 143) (.t 144), some (141, false), []⟩, ⟨(some 146), .pick (.t 141) (.k (.bool true)) (.t 145), some (137, true), []⟩, ⟨(some 147), .pick (.t 137) (.t 146) (.k (.bool false)), none, []⟩, ⟨(some 134), .mv (.t 147), none, []⟩])
  (.cond (.t 134)
  (.seq (.reg [⟨(some 6), .mv (.k (.int .i64 84)), none, []⟩])
  .ret)
  .skip)))))))))))))
  (.seq (.reg [⟨(some 6), .mv (.k (.int .i64 0)), none, []⟩])
  .ret))))
def cf73 : CFn := ⟨cc73, 148, [(6, none)]⟩
def cc103 : CC :=
  (.seq (.reg [⟨(some 2), .alloc [(.bool false), (.bool false), (.bool false), (.bool false), (.bool false), (.bool false), (.bool false), (.bool false)], none, []⟩, ⟨(some 3), .mv (.k (.bool false)), none, []⟩])
  (.seq (.seq (.reg [⟨(some 4), .mv (.t 0), none, []⟩])
  (.block 0 (.seq (.reg [⟨(some 6), .bin .eql .plain (.t 4) (.k (.int .i64 1)), none, []⟩, ⟨(some 5), .mv (.t 6), none, []⟩])
  (.cond (.t 5)
  (.seq (.reg [⟨(some 7), .build [(.bool false), (.bool false), (.bool false), (.bool false), (.bool false), (.bool false), (.bool false), (.bool false)] [], none, []⟩, ⟨none, .store 8 (.t 2) (.t 7), none, []⟩, ⟨(some 3), .mv (.k (.bool true)), none, []⟩])
  .ret)
  (.seq (.reg [⟨(some 9), .bin .eql .plain (.t 4) (.k (.int .i64 2)), none, []⟩, ⟨(some 8), .mv (.t 9), none, []⟩])
  (.cond (.t 8)
  (.seq (.reg [⟨(some 10), .build [(.bool false), (.bool false), (.bool false), (.bool false), (.bool false), (.bool false), (.bool false), (.bool false)] [(0, 1, (.k (.bool true))), (4, 1, (.k (.bool true)))], none, []⟩, ⟨none, .store 8 (.t 2) (.t 10), none, []⟩, ⟨(some 3), .mv (.k (.bool true)), none, []⟩])
  .ret)
  (.seq (.reg [⟨(some 12), .bin .eql .plain (.t 4) (.k (.int .i64 3)), none, []⟩, ⟨(some 11), .mv (.t 12), none, []⟩])
  (.cond (.t 11)
  (.seq (.reg [⟨(some 13), .build [(.bool false), (.bool false), (.bool false), (.bool false), (.bool false), (.bool false), (.bool false), (.bool false)] [(0, 1, (.k (.bool true))), (1, 1, (.k (.bool true)))], none, []⟩, ⟨none, .store 8 (.t 2) (.t 13), none, []⟩, ⟨(some 3), .mv (.k (.bool true)), none, []⟩])
  .ret)
  (.seq (.reg [⟨(some 15), .bin .eql .plain (.t 4) (.k (.int .i64 4)), none, []⟩, ⟨(some 14), .mv (.t 15), none, []⟩])
  (.cond (.t 14)
  (.seq (.reg [⟨(some 16), .build [(.bool false), (.bool false), (.bool false), (.bool false), (.bool false), (.bool false), (.bool false), (.bool false)] [(0, 1, (.k (.bool true))), (1, 1, (.k (.bool true))), (6, 1, (.k (.bool true)))], none, []⟩, ⟨none, .store 8 (.t 2) (.t 16), none, []⟩, ⟨(some 3), .mv (.k (.bool true)), none, []⟩])
  .ret)
  (.seq (.reg [⟨(some 18), .bin .eql .plain (.t 4) (.k (.int .i64 5)), none, []⟩, ⟨(some 17), .mv (.t 18), none, []⟩])
  (.cond (.t 17)
  (.seq (.reg [⟨(some 19), .build [(.bool false), (.bool false), (.bool false), (.bool false), (.bool false), (.bool false), (.bool false), (.bool false)] [(0, 1, (.k (.bool true))), (1, 1, (.k (.bool true))), (2, 1, (.k (.bool true))), (7, 1, (.k (.bool true)))], none, []⟩, ⟨none, .store 8 (.t 2) (.t 19), none, []⟩, ⟨(some 3), .mv (.k (.bool true)), none, []⟩])
  .ret)
  (.seq (.seq (.reg [⟨(some 21), .bin .eql .plain (.t 4) (.k (.int .i64 6)), none, []⟩, ⟨(some 20), .mv (.t 21), none, []⟩])
  (.cond (.t 20)
  .skip
  (.reg [⟨(some 22), .bin .eql .plain (.t 4) (.k (.int .i64 7)), none, []⟩, ⟨(some 20), .mv (.t 22), none, []⟩])))
  (.cond (.t 20)
  (.seq (.reg [⟨(some 23), .build [(.bool false), (.bool false), (.bool false), (.bool false), (.bool false), (.bool false), (.bool false), (.bool false)] [(0, 1, (.k (.bool true))), (1, 1, (.k (.bool true))), (4, 1, (.k (.bool true)))], none, []⟩, ⟨none, .store 8 (.t 2) (.t 23), none, []⟩, ⟨(some 3), .mv (.k (.bool true)), none, []⟩])
  .ret)
  (.seq (.reg [⟨(some 25), .bin .eql .plain (.t 4) (.k (.int .i64 8)), none, []⟩, ⟨(some 24), .mv (.t 25), none, []⟩])
  (.cond (.t 24)
  (.seq (.reg [⟨(some 26), .build [(.bool false), (.bool false), (.bool false), (.bool false), (.bool false), (.bool false), (.bool false), (.bool false)] [(0, 1, (.k (.bool true))), (3, 1, (.k (.bool true)))], none, []⟩, ⟨none, .store 8 (.t 2) (.t 26), none, []⟩, ⟨(some 3), .mv (.k (.bool true)), none, []⟩])
  .ret)
  (.seq (.seq (.reg [⟨(some 28), .bin .eql .plain (.t 4) (.k (.int .i64 9)), none, []⟩, ⟨(some 27), .mv (.t 28), none, []⟩])
  (.cond (.t 27)
  .skip
  (.reg [⟨(some 29), .bin .eql .plain (.t 4) (.k (.int .i64 13)), none, []⟩, ⟨(some 27), .mv (.t 29), none, []⟩])))
  (.cond (.t 27)
  (.seq (.reg [⟨(some 30), .build [(.bool false), (.bool false), (.bool false), (.bool false), (.bool false), (.bool false), (.bool false), (.bool false)] [(0, 1, (.k (.bool true)))], none, []⟩, ⟨none, .store 8 (.t 2) (.t 30), none, []⟩, ⟨(some 3), .mv (.k (.bool true)), none, []⟩])
  .ret)
  (.seq (.reg [⟨(some 32), .bin .eql .plain (.t 4) (.k (.int .i64 10)), none, []⟩, ⟨(some 31), .mv (.t 32), none, []⟩])
  (.cond (.t 31)
  (.seq (.reg [⟨(some 33), .build [(.bool false), (.bool false), (.bool false), (.bool false), (.bool false), (.bool false), (.bool false), (.bool false)] [(4, 1, (.k (.bool true))), (5, 1, (.k (.bool true)))], none, []⟩, ⟨none, .store 8 (.t 2) (.t 33), none, []⟩, ⟨(some 3), .mv (.k (.bool true)), none, []⟩])
  .ret)
  (.seq (.seq (.reg [⟨(some 35), .bin .eql .plain (.t 4) (.k (.int .i64 11)), none, []⟩, ⟨(some 34), .mv (.t 35), none, []⟩])
  (.cond (.t 34)
  .skip
  (.reg [⟨(some 36), .bin .eql .plain (.t 4) (.k (.int .i64 12)), none, []⟩, ⟨(some 34), .mv (.t 36), none, []⟩])))
  (.cond (.t 34)
  (.seq (.reg [⟨(some 37), .build [(.bool false), (.bool false), (.bool false), (.bool false), (.bool false), (.bool false), (.bool false), (.bool false)] [(0, 1, (.k (.bool true))), (4, 1, (.k (.bool true))), (5, 1, (.k (.bool true)))], none, []⟩, ⟨none, .store 8 (.t 2) (.t 37), none, []⟩, ⟨(some 3), .mv (.k (.bool true)), none, []⟩])
  .ret)
  .skip))))))))))))))))))))))
  (.seq (.reg [⟨(some 38), .build [(.bool false), (.bool false), (.bool false), (.bool false), (.bool false), (.bool false), (.bool false), (.bool false)] [], none, []⟩, ⟨none, .store 8 (.t 2) (.t 38), none, []⟩, ⟨(some 3), .mv (.k (.bool false)), none, []⟩])
  .ret)))
def cf103 : CFn := ⟨cc103, 39, [(2, some (8, true)), (3, none)]⟩
def cc104 : CC :=
  (.seq (.reg [⟨(some 4), .mv (.k (.bool false)), none, []⟩])
  (.seq (.reg [⟨(some 5), .mv (.t 0), none, []⟩, ⟨(some 6), .mv (.t 5), none, []⟩, ⟨(some 7), .mv (.t 1), some (6, true), []⟩, ⟨(some 8), .bin .geq .plain (.t 7) (.k (.int .i64 0)), some (6, true), []⟩, ⟨(some 9), .pick (.t 6) (.t 8) (.k (.bool false)), none, []⟩, ⟨(some 10), .mv (.t 9), none, []⟩, ⟨(some 11), .mv (.t 1), some (10, true), []⟩, ⟨(some 12), .bin .lss .plain (.t 11) (.k (.int .i64 16)), some (10, true), []⟩, ⟨(some 13), .pick (.t 10) (.t 12) (.k (.bool false)), none, []⟩, ⟨(some 14), .mv (.t 13), none, []⟩, ⟨(some 15), .mv (.t 0), some (14, false), []⟩, ⟨(some 16), .un .not (.t 15), some (14, false), []⟩, ⟨(some 17), .mv (.t 16), some (14, false), []⟩, ⟨(some 18), .mv (.t 1), some (17, true), []⟩, ⟨(some 19), .bin .eql .plain (.t 18) (.k (.int .i64 0)), some (17, true), []⟩, ⟨(some 20), .pick (.t 17) (.t 19) (.k (.bool false)), some (14, false), []⟩, ⟨(some 21), .pick (.t 14) (.k (.bool true)) (.t 20), none, []⟩, ⟨(some 4), .mv (.t 21), none, []⟩])
  .ret))
def cf104 : CFn := ⟨cc104, 22, [(4, none)]⟩
def cc77 : CC :=
  (.seq (.reg [⟨(some 3), .box (.t 0), none, []⟩, ⟨(some 6), .mv (.k (.int .i64 0)), none, []⟩])
  (.seq (.reg [⟨(some 8), .fieldA 0 (.t 3), none, []⟩, ⟨(some 9), .load 1 false (.t 8), none, []⟩, ⟨(some 10), .call (.k (.fn 100 [] [])) [(.t 9)], none, []⟩, ⟨(some 7), .mv (.t 10), none, []⟩])
  (.seq (.seq (.reg [⟨(some 11), .mv (.t 7), none, []⟩, ⟨(some 12), .bin .eql .plain (.t 11) (.k (.str [63])), none, []⟩, ⟨(some 13), .mv (.t 12), none, []⟩, ⟨(some 14), .mv (.t 7), some (13, false), []⟩, ⟨(some 15), .call (.k (.fn 99 [] [])) [(.t 14), (.k (.int .u8 111))], some (13, false), []⟩, ⟨(some 16), .mv (.t 15), some (13, false), []⟩, ⟨(some 17), .fieldA 1 (.t 3), some (16, true), []⟩, ⟨(some 18), .load 1 false (.t 17), some (16, true), []⟩, ⟨(some 19), .bin .lss .plain (.t 18) (.k (.int .i64 1)), some (16, true), []⟩, ⟨(some 20), .mv (.t 19), some (16, true), []⟩, ⟨(some 21), .fieldA 1 (.t 3), some (20, false), []⟩, ⟨(some 22), .load 1 false (.t 21), some (20, false), []⟩, ⟨(some 23), .bin .gtr .plain (.t 22) (.k (.int .i64 18)), some (20, false), []⟩, ⟨(some 24), .pick (.t 20) (.k (.bool true)) (.t 23), some (16, true), []⟩, ⟨(some 25), .pick (.t 16) (.t 24) (.k (.bool false)), some (13, false), []⟩, ⟨(some 26), .pick (.t 13) (.k (.bool true)) (.t 25), none, []⟩, ⟨(some 27), .mv (.t 26), none, []⟩, ⟨(some 28), .mv (.t 7), some (27, false), []⟩, ⟨(some 29), .call (.k (.fn 99 [] [])) [(.t 28), (.k (.int .u8 112))], some (27, false), []⟩, ⟨(some 30), .mv (.t 29), some (27, false), []⟩, ⟨(some 31), .fieldA 1 (.t 3), some (30, true), []⟩, ⟨(some 32), .load 1 false (.t 31), some (30, true), []⟩, ⟨(some 33), .bin .lss .plain (.t 32) (.k (.int .i64 19)), some (30, true), []⟩, ⟨(some 34), .mv (.t 33), some (30, true), []⟩, ⟨(some 35), .fieldA 1 (.t 3), some (34, false), []⟩, ⟨(some 36), .load 1 false (.t 35), some (34, false), []⟩, ⟨(some 37), .bin .gtr .plain (.t 36) (.k (.int .i64 21)), some (34, false), []⟩, ⟨(some 38), .pick (.t 34) (.k (.bool true)) (.t 37), some (30, true), []⟩, ⟨(some 39), .pick (.t 30) (.t 38) (.k (.bool false)), some (27, false), []⟩, ⟨(some 40), .pick (.t 27) (.k (.bool true)) (.t 39), none, []⟩])
  (.cond (.t 40)
  (.seq (.reg [⟨(some 6), .mv (.k (.int .i64 81)), none, []⟩])
  .ret)
  .skip))
  (.seq (.seq (.reg [⟨(some 41), .mv (.t 7), none, []⟩, ⟨(some 42), .call (.k (.fn 99 [] [])) [(.t 41), (.k (.int .u8 97))], none, []⟩, ⟨(some 43), .mv (.t 42), none, []⟩, ⟨(some 44), .fieldA 2 (.t 3), some (43, true), []⟩, ⟨(some 45), .load 1 false (.t 44), some (43, true), []⟩, ⟨(some 46), .call (.k (.fn 105 [] [])) [(.t 45)], some (43, true), []⟩, ⟨(some 47), .pick (.t 43) (.t 46) (.k (.bool false)), none, []⟩, ⟨(some 48), .mv (.t 47), none, []⟩, ⟨(some 49), .mv (.t 7), some (48, false), []⟩, ⟨(some 50), .call (.k (.fn 99 [] [])) [(.t 49), (.k (.int .u8 98))], some (48, false), []⟩, ⟨(some 51), .mv (.t 50), some (48, false), []⟩, ⟨(some 52), .fieldA 3 (.t 3), some (51, true), []⟩, ⟨(some 53), .load 1 false (.t 52), some (51, true), []⟩, ⟨(some 54), .call (.k (.fn 105 [] [])) [(.t 53)], some (51, true), []⟩, ⟨(some 55), .pick (.t 51) (.t 54) (.k (.bool false)), some (48, false), []⟩, ⟨(some 56), .pick (.t 48) (.k (.bool true)) (.t 55), none, []⟩, ⟨(some 57), .mv (.t 56), none, []⟩, ⟨(some 58), .mv (.t 7), some (57, false), []⟩, ⟨(some 59), .call (.k (.fn 99 [] [])) [(.t 58), (.k (.int .u8 99))], some (57, false), []⟩, ⟨(some 60), .mv (.t 59), some (57, false), []⟩, ⟨(some 61), .fieldA 4 (.t 3), some (60, true), []⟩, ⟨(some 62), .load 1 false (.t 61), some (60, true), []⟩, ⟨(some 63), .call (.k (.fn 105 [] [])) [(.t 62)], some (60, true), []⟩, ⟨(some 64), .pick (.t 60) (.t 63) (.k (.bool false)), some (57, false), []⟩, ⟨(some 65), .pick (.t 57) (.k (.bool true)) (.t 64), none, []⟩])
  (.cond (.t 65)
  (.seq (.reg [⟨(some 6), .mv (.k (.int .i64 82)), none, []⟩])
  .ret)
  .skip))
  (.seq (.seq (.reg [⟨(some 66), .mv (.t 7), none, []⟩, ⟨(some 67), .call (.k (.fn 99 [] [])) [(.t 66), (.k (.int .u8 97))], none, []⟩, ⟨(some 68), .un .not (.t 67), none, []⟩, ⟨(some 69), .mv (.t 68), none, []⟩, ⟨(some 70), .fieldA 2 (.t 3), some (69, true), []⟩, ⟨(some 71), .load 1 false (.t 70), some (69, true), []⟩, ⟨(some 72), .bin .neq .plain (.t 71) (.k (.int .i64 0)), some (69, true), []⟩, ⟨(some 73), .pick (.t 69) (.t 72) (.k (.bool false)), none, []⟩, ⟨(some 74), .mv (.t 73), none, []⟩, ⟨(some 75), .mv (.t 7), some (74, false), []⟩, ⟨(some 76), .call (.k (.fn 99 [] [])) [(.t 75), (.k (.int .u8 98))], some (74, false), []⟩, ⟨(some 77), .un .not (.t 76), some (74, false), []⟩, ⟨(some 78), .mv (.t 77), some (74, false), []⟩, ⟨(some 79), .fieldA 3 (.t 3), some (78, true), []⟩, ⟨(some 80), .load 1 false (.t 79), some (78, true), []⟩, ⟨(some 81), .bin .neq .plain (.t 80) (.k (.int .i64 0)), some (78, true), []⟩, ⟨(some 82), .pick (.t 78) (.t 81) (.k (.bool false)), some (74, false), []⟩, ⟨(some 83), .pick (.t 74) (.k (.bool true)) (.t 82), none, []⟩, ⟨(some 84), .mv (.t 83), none, []⟩, ⟨(some 85), .mv (.t 7), some (84, false), []⟩, ⟨(some 86), .call (.k (.fn 99 [] [])) [(.t 85), (.k (.int .u8 99))], some (84, false), []⟩, ⟨(some 87), .un .not (.t 86), some (84, false), []⟩, ⟨(some 88), .mv (.t 87), some (84, false), []⟩, ⟨(some 89), .mv (.t 7), some (88, true), []⟩, ⟨(some 90), .call (.k (.fn 99 [] [])) [(.t 89), (.k (.int .u8 114))], some (88, true), []⟩, ⟨(some 91), .un .not (.t 90), some (88, true), []⟩, ⟨(some 92), .pick (.t 88) (.t 91) (.k (.bool false)), some (84, false), []⟩, ⟨(some 93), .mv (.t 92), some (84, false), []⟩, ⟨(some 94), .fieldA 4 (.t 3), some (93, true), []⟩, ⟨(some 95), .load 1 false (.t 94), some (93, true), []⟩, ⟨(some 96), .bin .neq .plain (.t 95) (.k (.int .i64 0)), some (93, true), []⟩, ⟨(some 97), .pick (.t 93) (.t 96) (.k (.bool false)), some (84, false), []⟩, ⟨(some 98), .pick (.t 84) (.k (.bool true)) (.t 97), none, []⟩, ⟨(some 99), .mv (.t 98), none, []⟩, ⟨(some 100), .mv (.t 7), some (99, false), []⟩, ⟨(some 101), .call (.k (.fn 99 [] [])) [(.t 100), (.k (.int .u8 107))], some (99, false), []⟩, ⟨(some 102), .un .not (.t 101), some (99, false), []⟩, ⟨(some 103), .mv (.t 102), some (99, false), []⟩, ⟨(some 104), .mv (.t 7), some (103, true), []⟩, ⟨(some 105), .call (.k (.fn 99 [] [])) [(.t 104), (.k (.int .u8 116))], some (103, true), []⟩, ⟨(some 106), .un .not (.t 105), some (103, true), []⟩, ⟨(some 107), .pick (.t 103) (.t 106) (.k (.bool false)), some (99, false), []⟩, ⟨(some 108), .mv (.t 107), some (99, false), []⟩, ⟨(some 109), .fieldA 5 (.t 3), some (108, true), []⟩, ⟨(some 110), .load 1 false (.t 109), some (108, true), []⟩, ⟨(some 111), .bin .neq .plain (.t 110) (.k (.int .i64 0)), some (108, true), []⟩, ⟨(some 112), .pick (.t 108) (.t 111) (.k (.bool false)), some (99, false), []⟩, ⟨(some 113), .pick (.t 99) (.k (.bool true)) (.t 112), none, []⟩, ⟨(some 114), .mv (.t 113), none, []⟩, ⟨(some 115), .mv (.t 7), some (114, false), []⟩, ⟨(some 116), .call (.k (.fn 99 [] [])) [(.t 115), (.k (.int .u8 111))], some (114, false), []⟩, ⟨(some 117), .un .not (.t 116), some (114, false), []⟩, ⟨(some 118), .mv (.t 117), some (114, false), []⟩, ⟨(some 119), .mv (.t 7), some (118, true), []⟩, ⟨(some 120), .call (.k (.fn 99 [] [])) [(.t 119), (.k (.int .u8 112))], some (118, true), []⟩, ⟨(some 121), .un .not (.t 120), some (118, true), []⟩, ⟨(some 122), .pick (.t 118) (.t 121) (.k (.bool false)), some (114, false), []⟩, ⟨(some 123), .mv (.t 122), some (114, false), []⟩, ⟨(some 124), .fieldA 1 (.t 3), some (123, true), []⟩, ⟨(some 125), .load 1 false (.t 124), some (123, true), []⟩, ⟨(some 126), .bin .neq .plain (.t 125) (.k (.int .i64 0)), some (123, true), []⟩, ⟨(some 127), .pick (.t 123) (.t 126) (.k (.bool false)), some (114, false), []⟩, ⟨(some 128), .pick (.t 114) (.k (.bool true)) (.t 127), none, []⟩])
  (.cond (.t 128)
  (.seq (.reg [⟨(some 6), .mv (.k (.int .i64 83)), none, []⟩])
  .ret)
  .skip))
  (.seq (.seq (.reg [⟨(some 129), .mv (.t 7), none, []⟩, ⟨(some 130), .call (.k (.fn 99 [] [])) [(.t 129), (.k (.int .u8 114))], none, []⟩, ⟨(some 131), .mv (.t 130), none, []⟩, ⟨(some 132), .fieldA 4 (.t 3), some (131, true), []⟩, ⟨(some 133), .load 1 false (.t 132), some (131, true), []⟩, ⟨(some 134), .bin .lss .plain (.t 133) (.k (.int .i64 0)), some (131, true), []⟩, ⟨(some 135), .mv (.t 134), some (131, true), []⟩, ⟨(some 136), .fieldA 4 (.t 3), some (135, false), []⟩, ⟨(some 137), .load 1 false (.t 136), some (135, false), []⟩, ⟨(some 138), .mv (.t 1), some (135, false), []⟩, ⟨(some 139), .bin .geq .plain (.t 137) (.t 138), some (135, false), []⟩, ⟨(some 140), .pick (.t 135) (.k (.bool true)) (.t 139), some (131, true), []⟩, ⟨(some 141), .mv (.t 140), some (131, true), []⟩, ⟨(some 142), .fieldA 4 (.t 3), some (141, false), []⟩, ⟨(some 143), .load 1 false (.t 142), some (141, false), []⟩, ⟨(some 144), .bin .geq .plain (.t 143) (.k (.int .i64 4)), some (141, false), []⟩, ⟨(some 145), .pick (.t 141) (.k (.bool true)) (.t 144), some (131, true), []⟩, ⟨(some 146), .pick (.t 131) (.t 145) (.k (.bool false)), none, []⟩])
  (.cond (.t 146)
  (.seq (.reg [⟨(some 6), .mv (.k (.int .i64 63)), none, []⟩])
  .ret)
  .skip))
  (.seq (.seq (.reg [⟨(some 147), .mv (.t 7), none, []⟩, ⟨(some 148), .call (.k (.fn 99 [] [])) [(.t 147), (.k (.int .u8 116))], none, []⟩, ⟨(some 149), .mv (.t 148), none, []⟩, ⟨(some 150), .fieldA 5 (.t 3), some (149, true), []⟩, ⟨(some 151), .load 1 false (.t 150), some (149, true), []⟩, ⟨(some 152), .bin .lss .plain (.t 151) (.k (.int .i64 0)), some (149, true), []⟩, ⟨(some 153), .mv (.t 152), some (149, true), []⟩, ⟨(some 154), .fieldA 5 (.t 3), some (153, false), []⟩, ⟨(some 155), .load 1 false (.t 154), some (153, false), []⟩, ⟨(some 156), .mv (.t 2), some (153, false), []⟩, ⟨(some 157), .bin .geq .plain (.t 155) (.t 156), some (153, false), []⟩, ⟨(some 158), .pick (.t 153) (.k (.bool true)) (.t 157), some (149, true), []⟩, ⟨(some 159), .pick (.t 149) (.t 158) (.k (.bool false)), none, []⟩])
  (.cond (.t 159)
  (.seq (.reg [⟨(some 6), .mv (.k (.int .i64 84)), none, []⟩])
  .ret)
  .skip))
  (.seq (.reg [⟨(some 6), .mv (.k (.int .i64 0)), none, []⟩])
  .ret))))))))
def cf77 : CFn := ⟨cc77, 160, [(6, none)]⟩
def cc99 : CC :=
  (.seq (.reg [⟨(some 4), .mv (.k (.bool false)), none, []⟩])
  (.seq (.seq (.reg [⟨(some 5), .mv (.k (.int .i64 0)), none, []⟩])
  (.block 0 (.loop (.seq (.seq (.reg [⟨(some 6), .mv (.t 5), none, []⟩, ⟨(some 7), .mv (.t 0), none, []⟩, ⟨(some 8), .lenS (.t 7), none, []⟩, ⟨(some 9), .bin .lss .plain (.t 6) (.t 8), none, []⟩])
  (.cond (.t 9)
  .skip
  (.exit 0)))
  (.seq (.block 1 (.seq (.reg [⟨(some 12), .mv (.t 0), none, []⟩, ⟨(some 13), .mv (.t 5), none, []⟩, ⟨(some 14), .ixStr (.t 12) (.t 13), none, []⟩, ⟨(some 15), .mv (.t 1), none, []⟩, ⟨(some 16), .bin .eql .plain (.t 14) (.t 15), none, []⟩])
  (.cond (.t 16)
  (.seq (.reg [⟨(some 4), .mv (.k (.bool true)), none, []⟩])
  .ret)
  .skip)))
  (.reg [⟨(some 10), .mv (.t 5), none, []⟩, ⟨(some 11), .bin .add .plain (.t 10) (.k (.int .i64 1)), none, []⟩, ⟨(some 5), .mv (.t 11), none, []⟩]))))))
  (.seq (.reg [⟨(some 4), .mv (.k (.bool false)), none, []⟩])
  .ret)))
def cf99 : CFn := ⟨cc99, 17, [(4, none)]⟩
def cc100 : CC :=
  (.seq (.reg [⟨(some 2), .mv (.k (.str [])), none, []⟩])
  (.seq (.reg [⟨(some 4), .bslice 13 1 [(.str []), (.str []), (.str []), (.str []), (.str []), (.str []), (.str []), (.str []), (.str []), (.str []), (.str []), (.str []), (.str [])] [(0, 1, (.k (.str []))), (1, 1, (.k (.str [97, 107]))), (2, 1, (.k (.str [97, 98]))), (3, 1, (.k (.str [112, 97, 98]))), (4, 1, (.k (.str [111, 97, 98, 99]))), (5, 1, (.k (.str [97, 98, 107]))), (6, 1, (.k (.str [97, 98, 107]))), (7, 1, (.k (.str [97, 114]))), (8, 1, (.k (.str [97]))), (9, 1, (.k (.str [116]))), (10, 1, (.k (.str [97, 116]))), (11, 1, (.k (.str [97, 116]))), (12, 1, (.k (.str [97])))], none, []⟩, ⟨(some 3), .mv (.t 4), none, []⟩])
  (.seq (.seq (.reg [⟨(some 5), .mv (.t 0), none, []⟩, ⟨(some 6), .bin .lss .plain (.t 5) (.k (.int .i64 1)), none, []⟩, ⟨(some 7), .mv (.t 6), none, []⟩, ⟨(some 8), .mv (.t 0), some (7, false), []⟩, ⟨(some 9), .bin .gtr .plain (.t 8) (.k (.int .i64 13)), some (7, false), []⟩, ⟨(some 10), .pick (.t 7) (.k (.bool true)) (.t 9), none, []⟩])
  (.cond (.t 10)
  (.seq (.reg [⟨(some 2), .mv (.k (.str [63])), none, []⟩])
  .ret)
  .skip))
  (.seq (.reg [⟨(some 11), .mv (.t 3), none, []⟩, ⟨(some 12), .mv (.t 0), none, []⟩, ⟨(some 13), .bin .sub .plain (.t 12) (.k (.int .i64 1)), none, []⟩, ⟨(some 14), .idxSl 1 (.t 11) (.t 13), none, []⟩, ⟨(some 15), .load 1 false (.t 14), none, []⟩, ⟨(some 2), .mv (.t 15), none, []⟩])
  .ret))))
def cf100 : CFn := ⟨cc100, 16, [(2, none)]⟩
def cc105 : CC :=
  (.seq (.reg [⟨(some 2), .mv (.k (.bool false)), none, []⟩])
  (.seq (.reg [⟨(some 3), .mv (.t 0), none, []⟩, ⟨(some 4), .bin .lss .plain (.t 3) (.k (.int .i64 0)), none, []⟩, ⟨(some 5), .mv (.t 4), none, []⟩, ⟨(some 6), .mv (.t 0), some (5, false), []⟩, ⟨(some 7), .bin .gtr .plain (.t 6) (.k (.int .i64 15)), some (5, false), []⟩, ⟨(some 8), .pick (.t 5) (.k (.bool true)) (.t 7), none, []⟩, ⟨(some 2), .mv (.t 8), none, []⟩])
  .ret))
def cf105 : CFn := ⟨cc105, 9, [(2, none)]⟩
def fnV (n : Nat) : Option CFn := match n with | 73 => some cf73 | 103 => some cf103 | 104 => some cf104 | 77 => some cf77 | 99 => some cf99 | 100 => some cf100 | 105 => some cf105 | _ => none
def cxV : Cx := { fn := fnV, ext := fun _ => none }
def insA (kd op a b c k : Int) : AV := .agg [.int .i64 kd, .int .i64 op, .int .i64 a, .int .i64 b, .int .i64 c, .int .i64 k]
end Go.Ab
namespace Go.Ab
def oneI (kd op a b c k cells long : Int) : Int :=
  if ¬ (1 ≤ kd ∧ kd ≤ 13) then 81 else
  if kd = 5 ∧ (op < 1 ∨ 18 < op) then 81 else
  if kd = 4 ∧ (op < 19 ∨ 21 < op) then 81 else
  if (kd ≠ 1 ∧ kd ≠ 10) ∧ (a < 0 ∨ 15 < a) then 82 else
  if (kd = 3 ∨ kd = 4 ∨ kd = 5 ∨ kd = 6 ∨ kd = 7) ∧ (b < 0 ∨ 15 < b) then 82 else
  if kd = 5 ∧ (c < 0 ∨ 15 < c) then 82 else
  if (kd = 1 ∨ kd = 10) ∧ a ≠ 0 then 83 else
  if ¬ (kd = 3 ∨ kd = 4 ∨ kd = 5 ∨ kd = 6 ∨ kd = 7) ∧ b ≠ 0 then 83 else
  if ¬ (kd = 5 ∨ kd = 8) ∧ c ≠ 0 then 83 else
  if ¬ (kd = 2 ∨ kd = 6 ∨ kd = 7 ∨ kd = 10 ∨ kd = 11 ∨ kd = 12) ∧ k ≠ 0 then 83 else
  if ¬ (kd = 4 ∨ kd = 5) ∧ op ≠ 0 then 83 else
  if kd = 8 ∧ (c < 0 ∨ cells ≤ c ∨ 4 ≤ c) then 63 else
  if (kd = 10 ∨ kd = 11 ∨ kd = 12) ∧ (k < 0 ∨ long ≤ k) then 84 else 0
def decAF : Nat → Nat → Ans
  | 0, _ => []
  | f + 1, n => match n with
    | 0 => []
    | m + 1 => (match Nat.beq ((m + 1) % 4) 1, Nat.beq ((m + 1) % 4) 2 with
      | true, _ => none
      | false, true => some true
      | false, false => some false) :: decAF f ((m + 1) / 4)
def decA (n : Nat) : Ans := decAF 1000 n
def decIF : Nat → Nat → List Nat
  | 0, _ => []
  | f + 1, n => match n with
    | 0 => []
    | m + 1 => ((m + 1) % 16 - 1) :: decIF f ((m + 1) / 16)
def decI (n : Nat) : List Nat := decIF 1000 n
def nthP : List Prop → Nat → Prop
  | [], _ => True
  | p :: _, 0 => p
  | _ :: r, n + 1 => nthP r n
def pick (D : List Prop) : List Nat → Prop
  | [] => True
  | i :: r => nthP D i ∧ pick D r
theorem nthP_of : ∀ {D : List Prop}, AndL D → ∀ i, nthP D i
  | [], _, _ => trivial
  | _ :: _, h, 0 => h.1
  | _ :: _, h, i + 1 => nthP_of h.2 i
theorem pick_of {D : List Prop} (h : AndL D) : ∀ l, pick D l
  | [] => trivial
  | i :: r => ⟨nthP_of h i, pick_of h r⟩
theorem ora_path {cx : Cx} {n f : Nat} {args : List AV} {h : H} {ans : Ans} {ix : List Nat} {D : List Prop} {v w : Int} {nx : Nat} (e : view ((levO cx n).call f args h ans []) = some (.int .i64 v, nx, pick D ix)) (hD : AndL D) (hv : w = v) :
    ∃ h', Ca cx f args h (.int .i64 w) h' := by
  subst hv
  obtain ⟨h', hc, _⟩ := Ca.ora e (pick_of hD ix)
  exact ⟨h', hc⟩
theorem dT {p : Prop} [Decidable p] (h : p) : decide p = true := decide_eq_true h
theorem dF {p : Prop} [Decidable p] (h : ¬ p) : decide p = false := decide_eq_false h
theorem dNT {p : Prop} [Decidable p] (h : ¬ p) : (!decide p) = true := by rw [dF h]; rfl
theorem dNF {p : Prop} [Decidable p] (h : p) : (!decide p) = false := by rw [dT h]; rfl
end Go.Ab
namespace Go.Ab
section
variable (op a b c k cells long : Int)
theorem one73_1 : ∃ h', Ca cxV 73 [insA 1 op a b c k, .int .i64 cells, .int .i64 long] ⟨0, .leaf⟩ (.int .i64 (oneI 1 op a b c k cells long)) h' := by
  by_cases q0 : a = 0
  · by_cases q1 : b = 0
    · by_cases q2 : c = 0
      · by_cases q3 : k = 0
        · by_cases q4 : op = 0
          · exact ora_path (D := [(!decide (a = 0)) = false, (!decide (b = 0)) = false, (!decide (c = 0)) = false, (!decide (k = 0)) = false, (!decide (op = 0)) = false]) (n := 300) (ans := decA 0x155555575555d575555d575555555555555555555) (ix := decI 0x12345) (nx := 3) (v := 0) (by kernel_rfl) ⟨dNF q0, dNF q1, dNF q2, dNF q3, dNF q4, trivial⟩ (by unfold oneI; repeat (first | rw [if_pos (by omega)] | rw [if_neg (by omega)]))
          · exact ora_path (D := [(!decide (a = 0)) = false, (!decide (b = 0)) = false, (!decide (c = 0)) = false, (!decide (k = 0)) = false, (!decide (op = 0)) = true]) (n := 300) (ans := decA 0x25555d575555d575555555555555555555) (ix := decI 0x12345) (nx := 3) (v := 83) (by kernel_rfl) ⟨dNF q0, dNF q1, dNF q2, dNF q3, dNT q4, trivial⟩ (by unfold oneI; repeat (first | rw [if_pos (by omega)] | rw [if_neg (by omega)]))
        · exact ora_path (D := [(!decide (a = 0)) = false, (!decide (b = 0)) = false, (!decide (c = 0)) = false, (!decide (k = 0)) = true]) (n := 300) (ans := decA 0x29575555d575555555555555555555) (ix := decI 0x12344) (nx := 3) (v := 83) (by kernel_rfl) ⟨dNF q0, dNF q1, dNF q2, dNT q3, trivial⟩ (by unfold oneI; repeat (first | rw [if_pos (by omega)] | rw [if_neg (by omega)]))
      · exact ora_path (D := [(!decide (a = 0)) = false, (!decide (b = 0)) = false, (!decide (c = 0)) = true]) (n := 300) (ans := decA 0xa5555d575555555555555555555) (ix := decI 0x1233) (nx := 3) (v := 83) (by kernel_rfl) ⟨dNF q0, dNF q1, dNT q2, trivial⟩ (by unfold oneI; repeat (first | rw [if_pos (by omega)] | rw [if_neg (by omega)]))
    · exact ora_path (D := [(!decide (a = 0)) = false, (!decide (b = 0)) = true]) (n := 300) (ans := decA 0x29575555555555555555555) (ix := decI 0x122) (nx := 3) (v := 83) (by kernel_rfl) ⟨dNF q0, dNT q1, trivial⟩ (by unfold oneI; repeat (first | rw [if_pos (by omega)] | rw [if_neg (by omega)]))
  · exact ora_path (D := [(!decide (a = 0)) = true]) (n := 300) (ans := decA 0xa5555555555555555555) (ix := decI 0x11) (nx := 3) (v := 83) (by kernel_rfl) ⟨dNT q0, trivial⟩ (by unfold oneI; repeat (first | rw [if_pos (by omega)] | rw [if_neg (by omega)]))
theorem one73_2 : ∃ h', Ca cxV 73 [insA 2 op a b c k, .int .i64 cells, .int .i64 long] ⟨0, .leaf⟩ (.int .i64 (oneI 2 op a b c k cells long)) h' := by
  by_cases q0 : 0 ≤ a
  · by_cases q1 : a < 16
    · by_cases q2 : b = 0
      · by_cases q3 : c = 0
        · by_cases q4 : op = 0
          · exact ora_path (D := [(decide (0 ≤ a)) = true, (decide (a < 16)) = true, (!decide (b = 0)) = false, (!decide (c = 0)) = false, (!decide (op = 0)) = false]) (n := 300) (ans := decA 0x1555555755555575555d555555555556aaa955555555555) (ix := decI 0x11122222345) (nx := 3) (v := 0) (by kernel_rfl) ⟨dT q0, dT q1, dNF q2, dNF q3, dNF q4, trivial⟩ (by unfold oneI; repeat (first | rw [if_pos (by omega)] | rw [if_neg (by omega)]))
          · exact ora_path (D := [(decide (0 ≤ a)) = true, (decide (a < 16)) = true, (!decide (b = 0)) = false, (!decide (c = 0)) = false, (!decide (op = 0)) = true]) (n := 300) (ans := decA 0x255555575555d555555555556aaa955555555555) (ix := decI 0x11122222345) (nx := 3) (v := 83) (by kernel_rfl) ⟨dT q0, dT q1, dNF q2, dNF q3, dNT q4, trivial⟩ (by unfold oneI; repeat (first | rw [if_pos (by omega)] | rw [if_neg (by omega)]))
        · exact ora_path (D := [(decide (0 ≤ a)) = true, (decide (a < 16)) = true, (!decide (b = 0)) = false, (!decide (c = 0)) = true]) (n := 300) (ans := decA 0xa5555d555555555556aaa955555555555) (ix := decI 0x11122222344) (nx := 3) (v := 83) (by kernel_rfl) ⟨dT q0, dT q1, dNF q2, dNT q3, trivial⟩ (by unfold oneI; repeat (first | rw [if_pos (by omega)] | rw [if_neg (by omega)]))
      · exact ora_path (D := [(decide (0 ≤ a)) = true, (decide (a < 16)) = true, (!decide (b = 0)) = true]) (n := 300) (ans := decA 0x29555555555556aaa955555555555) (ix := decI 0x1112222233) (nx := 3) (v := 83) (by kernel_rfl) ⟨dT q0, dT q1, dNT q2, trivial⟩ (by unfold oneI; repeat (first | rw [if_pos (by omega)] | rw [if_neg (by omega)]))
    · exact ora_path (D := [(decide (0 ≤ a)) = true, (decide (a < 16)) = false]) (n := 300) (ans := decA 0x55dd7fa955555555555) (ix := decI 0x11122222) (nx := 3) (v := 82) (by kernel_rfl) ⟨dT q0, dF q1, trivial⟩ (by unfold oneI; repeat (first | rw [if_pos (by omega)] | rw [if_neg (by omega)]))
  · exact ora_path (D := [(decide (0 ≤ a)) = false]) (n := 300) (ans := decA 0x555555fd55555555555) (ix := decI 0x111) (nx := 3) (v := 82) (by kernel_rfl) ⟨dF q0, trivial⟩ (by unfold oneI; repeat (first | rw [if_pos (by omega)] | rw [if_neg (by omega)]))
theorem one73_3 : ∃ h', Ca cxV 73 [insA 3 op a b c k, .int .i64 cells, .int .i64 long] ⟨0, .leaf⟩ (.int .i64 (oneI 3 op a b c k cells long)) h' := by
  by_cases q0 : 0 ≤ a
  · by_cases q1 : a < 16
    · by_cases q2 : 0 ≤ b
      · by_cases q3 : b < 16
        · by_cases q4 : c = 0
          · by_cases q5 : k = 0
            · by_cases q6 : op = 0
              · exact ora_path (D := [(decide (0 ≤ a)) = true, (decide (a < 16)) = true, (decide (0 ≤ b)) = true, (decide (b < 16)) = true, (!decide (c = 0)) = false, (!decide (k = 0)) = false, (!decide (op = 0)) = false]) (n := 300) (ans := decA 0x155555575555d5755555555555556aaa95555aaaa555555555555) (ix := decI 0x1112222233344444567) (nx := 3) (v := 0) (by kernel_rfl) ⟨dT q0, dT q1, dT q2, dT q3, dNF q4, dNF q5, dNF q6, trivial⟩ (by unfold oneI; repeat (first | rw [if_pos (by omega)] | rw [if_neg (by omega)]))
              · exact ora_path (D := [(decide (0 ≤ a)) = true, (decide (a < 16)) = true, (decide (0 ≤ b)) = true, (decide (b < 16)) = true, (!decide (c = 0)) = false, (!decide (k = 0)) = false, (!decide (op = 0)) = true]) (n := 300) (ans := decA 0x25555d5755555555555556aaa95555aaaa555555555555) (ix := decI 0x1112222233344444567) (nx := 3) (v := 83) (by kernel_rfl) ⟨dT q0, dT q1, dT q2, dT q3, dNF q4, dNF q5, dNT q6, trivial⟩ (by unfold oneI; repeat (first | rw [if_pos (by omega)] | rw [if_neg (by omega)]))
            · exact ora_path (D := [(decide (0 ≤ a)) = true, (decide (a < 16)) = true, (decide (0 ≤ b)) = true, (decide (b < 16)) = true, (!decide (c = 0)) = false, (!decide (k = 0)) = true]) (n := 300) (ans := decA 0x295755555555555556aaa95555aaaa555555555555) (ix := decI 0x1112222233344444566) (nx := 3) (v := 83) (by kernel_rfl) ⟨dT q0, dT q1, dT q2, dT q3, dNF q4, dNT q5, trivial⟩ (by unfold oneI; repeat (first | rw [if_pos (by omega)] | rw [if_neg (by omega)]))
          · exact ora_path (D := [(decide (0 ≤ a)) = true, (decide (a < 16)) = true, (decide (0 ≤ b)) = true, (decide (b < 16)) = true, (!decide (c = 0)) = true]) (n := 300) (ans := decA 0xa55555555555556aaa95555aaaa555555555555) (ix := decI 0x111222223334444455) (nx := 3) (v := 83) (by kernel_rfl) ⟨dT q0, dT q1, dT q2, dT q3, dNT q4, trivial⟩ (by unfold oneI; repeat (first | rw [if_pos (by omega)] | rw [if_neg (by omega)]))
        · exact ora_path (D := [(decide (0 ≤ a)) = true, (decide (a < 16)) = true, (decide (0 ≤ b)) = true, (decide (b < 16)) = false]) (n := 300) (ans := decA 0x55dd7fa95555aaaa555555555555) (ix := decI 0x1112222233344444) (nx := 3) (v := 82) (by kernel_rfl) ⟨dT q0, dT q1, dT q2, dF q3, trivial⟩ (by unfold oneI; repeat (first | rw [if_pos (by omega)] | rw [if_neg (by omega)]))
      · exact ora_path (D := [(decide (0 ≤ a)) = true, (decide (a < 16)) = true, (decide (0 ≤ b)) = false]) (n := 300) (ans := decA 0x555555fd5555aaaa555555555555) (ix := decI 0x11122222333) (nx := 3) (v := 82) (by kernel_rfl) ⟨dT q0, dT q1, dF q2, trivial⟩ (by unfold oneI; repeat (first | rw [if_pos (by omega)] | rw [if_neg (by omega)]))
    · exact ora_path (D := [(decide (0 ≤ a)) = true, (decide (a < 16)) = false]) (n := 300) (ans := decA 0x15775fea555555555555) (ix := decI 0x11122222) (nx := 3) (v := 82) (by kernel_rfl) ⟨dT q0, dF q1, trivial⟩ (by unfold oneI; repeat (first | rw [if_pos (by omega)] | rw [if_neg (by omega)]))
  · exact ora_path (D := [(decide (0 ≤ a)) = false]) (n := 300) (ans := decA 0x1555557f555555555555) (ix := decI 0x111) (nx := 3) (v := 82) (by kernel_rfl) ⟨dF q0, trivial⟩ (by unfold oneI; repeat (first | rw [if_pos (by omega)] | rw [if_neg (by omega)]))
theorem one73_4 : ∃ h', Ca cxV 73 [insA 4 op a b c k, .int .i64 cells, .int .i64 long] ⟨0, .leaf⟩ (.int .i64 (oneI 4 op a b c k cells long)) h' := by
  by_cases q0 : op < 19
  · exact ora_path (D := [(decide (op < 19)) = true]) (n := 300) (ans := decA 0x166a55555555) (ix := decI 0x1111) (nx := 3) (v := 81) (by kernel_rfl) ⟨dT q0, trivial⟩ (by unfold oneI; repeat (first | rw [if_pos (by omega)] | rw [if_neg (by omega)]))
  · by_cases q1 : 21 < op
    · exact ora_path (D := [(decide (op < 19)) = false, (decide (21 < op)) = true]) (n := 300) (ans := decA 0x277f55555555) (ix := decI 0x11112) (nx := 3) (v := 81) (by kernel_rfl) ⟨dF q0, dT q1, trivial⟩ (by unfold oneI; repeat (first | rw [if_pos (by omega)] | rw [if_neg (by omega)]))
    · by_cases q2 : 0 ≤ a
      · by_cases q3 : a < 16
        · by_cases q4 : 0 ≤ b
          · by_cases q5 : b < 16
            · by_cases q6 : c = 0
              · by_cases q7 : k = 0
                · exact ora_path (D := [(decide (op < 19)) = false, (decide (21 < op)) = false, (decide (0 ≤ a)) = true, (decide (a < 16)) = true, (decide (0 ≤ b)) = true, (decide (b < 16)) = true, (!decide (c = 0)) = false, (!decide (k = 0)) = false]) (n := 300) (ans := decA 0x55555555555755d5555555555555aaaa55556aaa955777f55555555) (ix := decI 0x11112333444445556666678) (nx := 3) (v := 0) (by kernel_rfl) ⟨dF q0, dF q1, dT q2, dT q3, dT q4, dT q5, dNF q6, dNF q7, trivial⟩ (by unfold oneI; repeat (first | rw [if_pos (by omega)] | rw [if_neg (by omega)]))
                · exact ora_path (D := [(decide (op < 19)) = false, (decide (21 < op)) = false, (decide (0 ≤ a)) = true, (decide (a < 16)) = true, (decide (0 ≤ b)) = true, (decide (b < 16)) = true, (!decide (c = 0)) = false, (!decide (k = 0)) = true]) (n := 300) (ans := decA 0xa55d5555555555555aaaa55556aaa955777f55555555) (ix := decI 0x111123334444455566666788) (nx := 3) (v := 83) (by kernel_rfl) ⟨dF q0, dF q1, dT q2, dT q3, dT q4, dT q5, dNF q6, dNT q7, trivial⟩ (by unfold oneI; repeat (first | rw [if_pos (by omega)] | rw [if_neg (by omega)]))
              · exact ora_path (D := [(decide (op < 19)) = false, (decide (21 < op)) = false, (decide (0 ≤ a)) = true, (decide (a < 16)) = true, (decide (0 ≤ b)) = true, (decide (b < 16)) = true, (!decide (c = 0)) = true]) (n := 300) (ans := decA 0x295555555555555aaaa55556aaa955777f55555555) (ix := decI 0x11112333444445556666677) (nx := 3) (v := 83) (by kernel_rfl) ⟨dF q0, dF q1, dT q2, dT q3, dT q4, dT q5, dNT q6, trivial⟩ (by unfold oneI; repeat (first | rw [if_pos (by omega)] | rw [if_neg (by omega)]))
            · exact ora_path (D := [(decide (op < 19)) = false, (decide (21 < op)) = false, (decide (0 ≤ a)) = true, (decide (a < 16)) = true, (decide (0 ≤ b)) = true, (decide (b < 16)) = false]) (n := 300) (ans := decA 0x15775fea55556aaa955777f55555555) (ix := decI 0x111123334444455566666) (nx := 3) (v := 82) (by kernel_rfl) ⟨dF q0, dF q1, dT q2, dT q3, dT q4, dF q5, trivial⟩ (by unfold oneI; repeat (first | rw [if_pos (by omega)] | rw [if_neg (by omega)]))
          · exact ora_path (D := [(decide (op < 19)) = false, (decide (21 < op)) = false, (decide (0 ≤ a)) = true, (decide (a < 16)) = true, (decide (0 ≤ b)) = false]) (n := 300) (ans := decA 0x1555557f55556aaa955777f55555555) (ix := decI 0x1111233344444555) (nx := 3) (v := 82) (by kernel_rfl) ⟨dF q0, dF q1, dT q2, dT q3, dF q4, trivial⟩ (by unfold oneI; repeat (first | rw [if_pos (by omega)] | rw [if_neg (by omega)]))
        · exact ora_path (D := [(decide (op < 19)) = false, (decide (21 < op)) = false, (decide (0 ≤ a)) = true, (decide (a < 16)) = false]) (n := 300) (ans := decA 0x55dd7fa955777f55555555) (ix := decI 0x1111233344444) (nx := 3) (v := 82) (by kernel_rfl) ⟨dF q0, dF q1, dT q2, dF q3, trivial⟩ (by unfold oneI; repeat (first | rw [if_pos (by omega)] | rw [if_neg (by omega)]))
      · exact ora_path (D := [(decide (op < 19)) = false, (decide (21 < op)) = false, (decide (0 ≤ a)) = false]) (n := 300) (ans := decA 0x555555fd55777f55555555) (ix := decI 0x11112333) (nx := 3) (v := 82) (by kernel_rfl) ⟨dF q0, dF q1, dF q2, trivial⟩ (by unfold oneI; repeat (first | rw [if_pos (by omega)] | rw [if_neg (by omega)]))
theorem one73_5 : ∃ h', Ca cxV 73 [insA 5 op a b c k, .int .i64 cells, .int .i64 long] ⟨0, .leaf⟩ (.int .i64 (oneI 5 op a b c k cells long)) h' := by
  by_cases q0 : op < 1
  · exact ora_path (D := [(decide (op < 1)) = true]) (n := 300) (ans := decA 0x566a55555) (ix := decI 0x1111) (nx := 3) (v := 81) (by kernel_rfl) ⟨dT q0, trivial⟩ (by unfold oneI; repeat (first | rw [if_pos (by omega)] | rw [if_neg (by omega)]))
  · by_cases q1 : 18 < op
    · exact ora_path (D := [(decide (op < 1)) = false, (decide (18 < op)) = true]) (n := 300) (ans := decA 0xa77f55555) (ix := decI 0x111122) (nx := 3) (v := 81) (by kernel_rfl) ⟨dF q0, dT q1, trivial⟩ (by unfold oneI; repeat (first | rw [if_pos (by omega)] | rw [if_neg (by omega)]))
    · by_cases q2 : 0 ≤ a
      · by_cases q3 : a < 16
        · by_cases q4 : 0 ≤ b
          · by_cases q5 : b < 16
            · by_cases q6 : 0 ≤ c
              · by_cases q7 : c < 16
                · by_cases q8 : k = 0
                  · exact ora_path (D := [(decide (op < 1)) = false, (decide (18 < op)) = false, (decide (0 ≤ a)) = true, (decide (a < 16)) = true, (decide (0 ≤ b)) = true, (decide (b < 16)) = true, (decide (0 ≤ c)) = true, (decide (c < 16)) = true, (!decide (k = 0)) = false]) (n := 300) (ans := decA 0x5555555555575555555555555aaaa55556aaa95555aaaa555555777f55555) (ix := decI 0x111123334444455566666777888889) (nx := 3) (v := 0) (by kernel_rfl) ⟨dF q0, dF q1, dT q2, dT q3, dT q4, dT q5, dT q6, dT q7, dNF q8, trivial⟩ (by unfold oneI; repeat (first | rw [if_pos (by omega)] | rw [if_neg (by omega)]))
                  · exact ora_path (D := [(decide (op < 1)) = false, (decide (18 < op)) = false, (decide (0 ≤ a)) = true, (decide (a < 16)) = true, (decide (0 ≤ b)) = true, (decide (b < 16)) = true, (decide (0 ≤ c)) = true, (decide (c < 16)) = true, (!decide (k = 0)) = true]) (n := 300) (ans := decA 0xa5555555555555aaaa55556aaa95555aaaa555555777f55555) (ix := decI 0x1111233344444555666667778888899) (nx := 3) (v := 83) (by kernel_rfl) ⟨dF q0, dF q1, dT q2, dT q3, dT q4, dT q5, dT q6, dT q7, dNT q8, trivial⟩ (by unfold oneI; repeat (first | rw [if_pos (by omega)] | rw [if_neg (by omega)]))
                · exact ora_path (D := [(decide (op < 1)) = false, (decide (18 < op)) = false, (decide (0 ≤ a)) = true, (decide (a < 16)) = true, (decide (0 ≤ b)) = true, (decide (b < 16)) = true, (decide (0 ≤ c)) = true, (decide (c < 16)) = false]) (n := 300) (ans := decA 0x5775fea55556aaa95555aaaa555555777f55555) (ix := decI 0x11112333444445556666677788888) (nx := 3) (v := 82) (by kernel_rfl) ⟨dF q0, dF q1, dT q2, dT q3, dT q4, dT q5, dT q6, dF q7, trivial⟩ (by unfold oneI; repeat (first | rw [if_pos (by omega)] | rw [if_neg (by omega)]))
              · exact ora_path (D := [(decide (op < 1)) = false, (decide (18 < op)) = false, (decide (0 ≤ a)) = true, (decide (a < 16)) = true, (decide (0 ≤ b)) = true, (decide (b < 16)) = true, (decide (0 ≤ c)) = false]) (n := 300) (ans := decA 0x555557f55556aaa95555aaaa555555777f55555) (ix := decI 0x111123334444455566666777) (nx := 3) (v := 82) (by kernel_rfl) ⟨dF q0, dF q1, dT q2, dT q3, dT q4, dT q5, dF q6, trivial⟩ (by unfold oneI; repeat (first | rw [if_pos (by omega)] | rw [if_neg (by omega)]))
            · exact ora_path (D := [(decide (op < 1)) = false, (decide (18 < op)) = false, (decide (0 ≤ a)) = true, (decide (a < 16)) = true, (decide (0 ≤ b)) = true, (decide (b < 16)) = false]) (n := 300) (ans := decA 0x55dd7fa95555aaaa555555777f55555) (ix := decI 0x111123334444455566666) (nx := 3) (v := 82) (by kernel_rfl) ⟨dF q0, dF q1, dT q2, dT q3, dT q4, dF q5, trivial⟩ (by unfold oneI; repeat (first | rw [if_pos (by omega)] | rw [if_neg (by omega)]))
          · exact ora_path (D := [(decide (op < 1)) = false, (decide (18 < op)) = false, (decide (0 ≤ a)) = true, (decide (a < 16)) = true, (decide (0 ≤ b)) = false]) (n := 300) (ans := decA 0x555555fd5555aaaa555555777f55555) (ix := decI 0x1111233344444555) (nx := 3) (v := 82) (by kernel_rfl) ⟨dF q0, dF q1, dT q2, dT q3, dF q4, trivial⟩ (by unfold oneI; repeat (first | rw [if_pos (by omega)] | rw [if_neg (by omega)]))
        · exact ora_path (D := [(decide (op < 1)) = false, (decide (18 < op)) = false, (decide (0 ≤ a)) = true, (decide (a < 16)) = false]) (n := 300) (ans := decA 0x15775fea555555777f55555) (ix := decI 0x1111233344444) (nx := 3) (v := 82) (by kernel_rfl) ⟨dF q0, dF q1, dT q2, dF q3, trivial⟩ (by unfold oneI; repeat (first | rw [if_pos (by omega)] | rw [if_neg (by omega)]))
      · exact ora_path (D := [(decide (op < 1)) = false, (decide (18 < op)) = false, (decide (0 ≤ a)) = false]) (n := 300) (ans := decA 0x1555557f555555777f55555) (ix := decI 0x11112333) (nx := 3) (v := 82) (by kernel_rfl) ⟨dF q0, dF q1, dF q2, trivial⟩ (by unfold oneI; repeat (first | rw [if_pos (by omega)] | rw [if_neg (by omega)]))
theorem one73_6 : ∃ h', Ca cxV 73 [insA 6 op a b c k, .int .i64 cells, .int .i64 long] ⟨0, .leaf⟩ (.int .i64 (oneI 6 op a b c k cells long)) h' := by
  by_cases q0 : 0 ≤ a
  · by_cases q1 : a < 16
    · by_cases q2 : 0 ≤ b
      · by_cases q3 : b < 16
        · by_cases q4 : c = 0
          · by_cases q5 : op = 0
            · exact ora_path (D := [(decide (0 ≤ a)) = true, (decide (a < 16)) = true, (decide (0 ≤ b)) = true, (decide (b < 16)) = true, (!decide (c = 0)) = false, (!decide (op = 0)) = false]) (n := 300) (ans := decA 0x15555557555555755555555555556aaa95555aaaa55555555555555) (ix := decI 0x111222223334444456) (nx := 3) (v := 0) (by kernel_rfl) ⟨dT q0, dT q1, dT q2, dT q3, dNF q4, dNF q5, trivial⟩ (by unfold oneI; repeat (first | rw [if_pos (by omega)] | rw [if_neg (by omega)]))
            · exact ora_path (D := [(decide (0 ≤ a)) = true, (decide (a < 16)) = true, (decide (0 ≤ b)) = true, (decide (b < 16)) = true, (!decide (c = 0)) = false, (!decide (op = 0)) = true]) (n := 300) (ans := decA 0x2555555755555555555556aaa95555aaaa55555555555555) (ix := decI 0x111222223334444456) (nx := 3) (v := 83) (by kernel_rfl) ⟨dT q0, dT q1, dT q2, dT q3, dNF q4, dNT q5, trivial⟩ (by unfold oneI; repeat (first | rw [if_pos (by omega)] | rw [if_neg (by omega)]))
          · exact ora_path (D := [(decide (0 ≤ a)) = true, (decide (a < 16)) = true, (decide (0 ≤ b)) = true, (decide (b < 16)) = true, (!decide (c = 0)) = true]) (n := 300) (ans := decA 0xa55555555555556aaa95555aaaa55555555555555) (ix := decI 0x111222223334444455) (nx := 3) (v := 83) (by kernel_rfl) ⟨dT q0, dT q1, dT q2, dT q3, dNT q4, trivial⟩ (by unfold oneI; repeat (first | rw [if_pos (by omega)] | rw [if_neg (by omega)]))
        · exact ora_path (D := [(decide (0 ≤ a)) = true, (decide (a < 16)) = true, (decide (0 ≤ b)) = true, (decide (b < 16)) = false]) (n := 300) (ans := decA 0x55dd7fa95555aaaa55555555555555) (ix := decI 0x1112222233344444) (nx := 3) (v := 82) (by kernel_rfl) ⟨dT q0, dT q1, dT q2, dF q3, trivial⟩ (by unfold oneI; repeat (first | rw [if_pos (by omega)] | rw [if_neg (by omega)]))
      · exact ora_path (D := [(decide (0 ≤ a)) = true, (decide (a < 16)) = true, (decide (0 ≤ b)) = false]) (n := 300) (ans := decA 0x555555fd5555aaaa55555555555555) (ix := decI 0x11122222333) (nx := 3) (v := 82) (by kernel_rfl) ⟨dT q0, dT q1, dF q2, trivial⟩ (by unfold oneI; repeat (first | rw [if_pos (by omega)] | rw [if_neg (by omega)]))
    · exact ora_path (D := [(decide (0 ≤ a)) = true, (decide (a < 16)) = false]) (n := 300) (ans := decA 0x15775fea55555555555555) (ix := decI 0x11122222) (nx := 3) (v := 82) (by kernel_rfl) ⟨dT q0, dF q1, trivial⟩ (by unfold oneI; repeat (first | rw [if_pos (by omega)] | rw [if_neg (by omega)]))
  · exact ora_path (D := [(decide (0 ≤ a)) = false]) (n := 300) (ans := decA 0x1555557f55555555555555) (ix := decI 0x111) (nx := 3) (v := 82) (by kernel_rfl) ⟨dF q0, trivial⟩ (by unfold oneI; repeat (first | rw [if_pos (by omega)] | rw [if_neg (by omega)]))
theorem one73_7 : ∃ h', Ca cxV 73 [insA 7 op a b c k, .int .i64 cells, .int .i64 long] ⟨0, .leaf⟩ (.int .i64 (oneI 7 op a b c k cells long)) h' := by
  by_cases q0 : 0 ≤ a
  · by_cases q1 : a < 16
    · by_cases q2 : 0 ≤ b
      · by_cases q3 : b < 16
        · by_cases q4 : c = 0
          · by_cases q5 : op = 0
            · exact ora_path (D := [(decide (0 ≤ a)) = true, (decide (a < 16)) = true, (decide (0 ≤ b)) = true, (decide (b < 16)) = true, (!decide (c = 0)) = false, (!decide (op = 0)) = false]) (n := 300) (ans := decA 0x15555557555555755555555555556aaa95555aaaa55555555555555) (ix := decI 0x111222223334444456) (nx := 3) (v := 0) (by kernel_rfl) ⟨dT q0, dT q1, dT q2, dT q3, dNF q4, dNF q5, trivial⟩ (by unfold oneI; repeat (first | rw [if_pos (by omega)] | rw [if_neg (by omega)]))
            · exact ora_path (D := [(decide (0 ≤ a)) = true, (decide (a < 16)) = true, (decide (0 ≤ b)) = true, (decide (b < 16)) = true, (!decide (c = 0)) = false, (!decide (op = 0)) = true]) (n := 300) (ans := decA 0x2555555755555555555556aaa95555aaaa55555555555555) (ix := decI 0x111222223334444456) (nx := 3) (v := 83) (by kernel_rfl) ⟨dT q0, dT q1, dT q2, dT q3, dNF q4, dNT q5, trivial⟩ (by unfold oneI; repeat (first | rw [if_pos (by omega)] | rw [if_neg (by omega)]))
          · exact ora_path (D := [(decide (0 ≤ a)) = true, (decide (a < 16)) = true, (decide (0 ≤ b)) = true, (decide (b < 16)) = true, (!decide (c = 0)) = true]) (n := 300) (ans := decA 0xa55555555555556aaa95555aaaa55555555555555) (ix := decI 0x111222223334444455) (nx := 3) (v := 83) (by kernel_rfl) ⟨dT q0, dT q1, dT q2, dT q3, dNT q4, trivial⟩ (by unfold oneI; repeat (first | rw [if_pos (by omega)] | rw [if_neg (by omega)]))
        · exact ora_path (D := [(decide (0 ≤ a)) = true, (decide (a < 16)) = true, (decide (0 ≤ b)) = true, (decide (b < 16)) = false]) (n := 300) (ans := decA 0x55dd7fa95555aaaa55555555555555) (ix := decI 0x1112222233344444) (nx := 3) (v := 82) (by kernel_rfl) ⟨dT q0, dT q1, dT q2, dF q3, trivial⟩ (by unfold oneI; repeat (first | rw [if_pos (by omega)] | rw [if_neg (by omega)]))
      · exact ora_path (D := [(decide (0 ≤ a)) = true, (decide (a < 16)) = true, (decide (0 ≤ b)) = false]) (n := 300) (ans := decA 0x555555fd5555aaaa55555555555555) (ix := decI 0x11122222333) (nx := 3) (v := 82) (by kernel_rfl) ⟨dT q0, dT q1, dF q2, trivial⟩ (by unfold oneI; repeat (first | rw [if_pos (by omega)] | rw [if_neg (by omega)]))
    · exact ora_path (D := [(decide (0 ≤ a)) = true, (decide (a < 16)) = false]) (n := 300) (ans := decA 0x15775fea55555555555555) (ix := decI 0x11122222) (nx := 3) (v := 82) (by kernel_rfl) ⟨dT q0, dF q1, trivial⟩ (by unfold oneI; repeat (first | rw [if_pos (by omega)] | rw [if_neg (by omega)]))
  · exact ora_path (D := [(decide (0 ≤ a)) = false]) (n := 300) (ans := decA 0x1555557f55555555555555) (ix := decI 0x111) (nx := 3) (v := 82) (by kernel_rfl) ⟨dF q0, trivial⟩ (by unfold oneI; repeat (first | rw [if_pos (by omega)] | rw [if_neg (by omega)]))
theorem one73_8 : ∃ h', Ca cxV 73 [insA 8 op a b c k, .int .i64 cells, .int .i64 long] ⟨0, .leaf⟩ (.int .i64 (oneI 8 op a b c k cells long)) h' := by
  by_cases q0 : 0 ≤ a
  · by_cases q1 : a < 16
    · by_cases q2 : b = 0
      · by_cases q3 : k = 0
        · by_cases q4 : op = 0
          · by_cases q5 : c < 0
            · exact ora_path (D := [(decide (0 ≤ a)) = true, (decide (a < 16)) = true, (!decide (b = 0)) = false, (!decide (k = 0)) = false, (!decide (op = 0)) = false, (decide (c < 0)) = true]) (n := 300) (ans := decA 0x59aa9575555d555555d555555555556aaa955555555555555) (ix := decI 0x11122222345666666) (nx := 3) (v := 63) (by kernel_rfl) ⟨dT q0, dT q1, dNF q2, dNF q3, dNF q4, dT q5, trivial⟩ (by unfold oneI; repeat (first | rw [if_pos (by omega)] | rw [if_neg (by omega)]))
            · by_cases q6 : (if 4 < cells then 4 else cells) ≤ c
              · exact ora_path (D := [(decide (0 ≤ a)) = true, (decide (a < 16)) = true, (!decide (b = 0)) = false, (!decide (k = 0)) = false, (!decide (op = 0)) = false, (decide (c < 0)) = false, (decide ((if 4 < cells then 4 else cells) ≤ c)) = true]) (n := 300) (ans := decA 0x9dffd575555d555555d555555555556aaa955555555555555) (ix := decI 0x111222223456666667) (nx := 3) (v := 63) (by kernel_rfl) ⟨dT q0, dT q1, dNF q2, dNF q3, dNF q4, dF q5, dT q6, trivial⟩ (by unfold oneI; repeat (first | rw [if_pos (by omega)] | rw [if_neg (by omega)]))
              · exact ora_path (D := [(decide (0 ≤ a)) = true, (decide (a < 16)) = true, (!decide (b = 0)) = false, (!decide (k = 0)) = false, (!decide (op = 0)) = false, (decide (c < 0)) = false, (decide ((if 4 < cells then 4 else cells) ≤ c)) = false]) (n := 300) (ans := decA 0x1555ddffd575555d555555d555555555556aaa955555555555555) (ix := decI 0x111222223456666667) (nx := 3) (v := 0) (by kernel_rfl) ⟨dT q0, dT q1, dNF q2, dNF q3, dNF q4, dF q5, dF q6, trivial⟩ (by unfold oneI; repeat (first | rw [if_pos (by omega)] | rw [if_neg (by omega)]))
          · exact ora_path (D := [(decide (0 ≤ a)) = true, (decide (a < 16)) = true, (!decide (b = 0)) = false, (!decide (k = 0)) = false, (!decide (op = 0)) = true]) (n := 300) (ans := decA 0x25555d555555d555555555556aaa955555555555555) (ix := decI 0x11122222345) (nx := 3) (v := 83) (by kernel_rfl) ⟨dT q0, dT q1, dNF q2, dNF q3, dNT q4, trivial⟩ (by unfold oneI; repeat (first | rw [if_pos (by omega)] | rw [if_neg (by omega)]))
        · exact ora_path (D := [(decide (0 ≤ a)) = true, (decide (a < 16)) = true, (!decide (b = 0)) = false, (!decide (k = 0)) = true]) (n := 300) (ans := decA 0x29555555d555555555556aaa955555555555555) (ix := decI 0x11122222344) (nx := 3) (v := 83) (by kernel_rfl) ⟨dT q0, dT q1, dNF q2, dNT q3, trivial⟩ (by unfold oneI; repeat (first | rw [if_pos (by omega)] | rw [if_neg (by omega)]))
      · exact ora_path (D := [(decide (0 ≤ a)) = true, (decide (a < 16)) = true, (!decide (b = 0)) = true]) (n := 300) (ans := decA 0x29555555555556aaa955555555555555) (ix := decI 0x1112222233) (nx := 3) (v := 83) (by kernel_rfl) ⟨dT q0, dT q1, dNT q2, trivial⟩ (by unfold oneI; repeat (first | rw [if_pos (by omega)] | rw [if_neg (by omega)]))
    · exact ora_path (D := [(decide (0 ≤ a)) = true, (decide (a < 16)) = false]) (n := 300) (ans := decA 0x55dd7fa955555555555555) (ix := decI 0x11122222) (nx := 3) (v := 82) (by kernel_rfl) ⟨dT q0, dF q1, trivial⟩ (by unfold oneI; repeat (first | rw [if_pos (by omega)] | rw [if_neg (by omega)]))
  · exact ora_path (D := [(decide (0 ≤ a)) = false]) (n := 300) (ans := decA 0x555555fd55555555555555) (ix := decI 0x111) (nx := 3) (v := 82) (by kernel_rfl) ⟨dF q0, trivial⟩ (by unfold oneI; repeat (first | rw [if_pos (by omega)] | rw [if_neg (by omega)]))
theorem one73_9 : ∃ h', Ca cxV 73 [insA 9 op a b c k, .int .i64 cells, .int .i64 long] ⟨0, .leaf⟩ (.int .i64 (oneI 9 op a b c k cells long)) h' := by
  by_cases q0 : 0 ≤ a
  · by_cases q1 : a < 16
    · by_cases q2 : b = 0
      · by_cases q3 : c = 0
        · by_cases q4 : k = 0
          · by_cases q5 : op = 0
            · exact ora_path (D := [(decide (0 ≤ a)) = true, (decide (a < 16)) = true, (!decide (b = 0)) = false, (!decide (c = 0)) = false, (!decide (k = 0)) = false, (!decide (op = 0)) = false]) (n := 300) (ans := decA 0x155555575555d575555d555555555556aaa9555555555555555) (ix := decI 0x111222223456) (nx := 3) (v := 0) (by kernel_rfl) ⟨dT q0, dT q1, dNF q2, dNF q3, dNF q4, dNF q5, trivial⟩ (by unfold oneI; repeat (first | rw [if_pos (by omega)] | rw [if_neg (by omega)]))
            · exact ora_path (D := [(decide (0 ≤ a)) = true, (decide (a < 16)) = true, (!decide (b = 0)) = false, (!decide (c = 0)) = false, (!decide (k = 0)) = false, (!decide (op = 0)) = true]) (n := 300) (ans := decA 0x25555d575555d555555555556aaa9555555555555555) (ix := decI 0x111222223456) (nx := 3) (v := 83) (by kernel_rfl) ⟨dT q0, dT q1, dNF q2, dNF q3, dNF q4, dNT q5, trivial⟩ (by unfold oneI; repeat (first | rw [if_pos (by omega)] | rw [if_neg (by omega)]))
          · exact ora_path (D := [(decide (0 ≤ a)) = true, (decide (a < 16)) = true, (!decide (b = 0)) = false, (!decide (c = 0)) = false, (!decide (k = 0)) = true]) (n := 300) (ans := decA 0x29575555d555555555556aaa9555555555555555) (ix := decI 0x111222223455) (nx := 3) (v := 83) (by kernel_rfl) ⟨dT q0, dT q1, dNF q2, dNF q3, dNT q4, trivial⟩ (by unfold oneI; repeat (first | rw [if_pos (by omega)] | rw [if_neg (by omega)]))
        · exact ora_path (D := [(decide (0 ≤ a)) = true, (decide (a < 16)) = true, (!decide (b = 0)) = false, (!decide (c = 0)) = true]) (n := 300) (ans := decA 0xa5555d555555555556aaa9555555555555555) (ix := decI 0x11122222344) (nx := 3) (v := 83) (by kernel_rfl) ⟨dT q0, dT q1, dNF q2, dNT q3, trivial⟩ (by unfold oneI; repeat (first | rw [if_pos (by omega)] | rw [if_neg (by omega)]))
      · exact ora_path (D := [(decide (0 ≤ a)) = true, (decide (a < 16)) = true, (!decide (b = 0)) = true]) (n := 300) (ans := decA 0x29555555555556aaa9555555555555555) (ix := decI 0x1112222233) (nx := 3) (v := 83) (by kernel_rfl) ⟨dT q0, dT q1, dNT q2, trivial⟩ (by unfold oneI; repeat (first | rw [if_pos (by omega)] | rw [if_neg (by omega)]))
    · exact ora_path (D := [(decide (0 ≤ a)) = true, (decide (a < 16)) = false]) (n := 300) (ans := decA 0x55dd7fa9555555555555555) (ix := decI 0x11122222) (nx := 3) (v := 82) (by kernel_rfl) ⟨dT q0, dF q1, trivial⟩ (by unfold oneI; repeat (first | rw [if_pos (by omega)] | rw [if_neg (by omega)]))
  · exact ora_path (D := [(decide (0 ≤ a)) = false]) (n := 300) (ans := decA 0x555555fd555555555555555) (ix := decI 0x111) (nx := 3) (v := 82) (by kernel_rfl) ⟨dF q0, trivial⟩ (by unfold oneI; repeat (first | rw [if_pos (by omega)] | rw [if_neg (by omega)]))
theorem one73_10 : ∃ h', Ca cxV 73 [insA 10 op a b c k, .int .i64 cells, .int .i64 long] ⟨0, .leaf⟩ (.int .i64 (oneI 10 op a b c k cells long)) h' := by
  by_cases q0 : a = 0
  · by_cases q1 : b = 0
    · by_cases q2 : c = 0
      · by_cases q3 : op = 0
        · by_cases q4 : k < 0
          · exact ora_path (D := [(!decide (a = 0)) = false, (!decide (b = 0)) = false, (!decide (c = 0)) = false, (!decide (op = 0)) = false, (decide (k < 0)) = true]) (n := 300) (ans := decA 0x59aa55555755555575555d57555555555555555555555555) (ix := decI 0x123455555) (nx := 3) (v := 84) (by kernel_rfl) ⟨dNF q0, dNF q1, dNF q2, dNF q3, dT q4, trivial⟩ (by unfold oneI; repeat (first | rw [if_pos (by omega)] | rw [if_neg (by omega)]))
          · by_cases q5 : long ≤ k
            · exact ora_path (D := [(!decide (a = 0)) = false, (!decide (b = 0)) = false, (!decide (c = 0)) = false, (!decide (op = 0)) = false, (decide (k < 0)) = false, (decide (long ≤ k)) = true]) (n := 300) (ans := decA 0x9dff55555755555575555d57555555555555555555555555) (ix := decI 0x1234555556) (nx := 3) (v := 84) (by kernel_rfl) ⟨dNF q0, dNF q1, dNF q2, dNF q3, dF q4, dT q5, trivial⟩ (by unfold oneI; repeat (first | rw [if_pos (by omega)] | rw [if_neg (by omega)]))
            · exact ora_path (D := [(!decide (a = 0)) = false, (!decide (b = 0)) = false, (!decide (c = 0)) = false, (!decide (op = 0)) = false, (decide (k < 0)) = false, (decide (long ≤ k)) = false]) (n := 300) (ans := decA 0xddff55555755555575555d57555555555555555555555555) (ix := decI 0x1234555556) (nx := 3) (v := 0) (by kernel_rfl) ⟨dNF q0, dNF q1, dNF q2, dNF q3, dF q4, dF q5, trivial⟩ (by unfold oneI; repeat (first | rw [if_pos (by omega)] | rw [if_neg (by omega)]))
        · exact ora_path (D := [(!decide (a = 0)) = false, (!decide (b = 0)) = false, (!decide (c = 0)) = false, (!decide (op = 0)) = true]) (n := 300) (ans := decA 0x255555575555d57555555555555555555555555) (ix := decI 0x1234) (nx := 3) (v := 83) (by kernel_rfl) ⟨dNF q0, dNF q1, dNF q2, dNT q3, trivial⟩ (by unfold oneI; repeat (first | rw [if_pos (by omega)] | rw [if_neg (by omega)]))
      · exact ora_path (D := [(!decide (a = 0)) = false, (!decide (b = 0)) = false, (!decide (c = 0)) = true]) (n := 300) (ans := decA 0xa5555d57555555555555555555555555) (ix := decI 0x1233) (nx := 3) (v := 83) (by kernel_rfl) ⟨dNF q0, dNF q1, dNT q2, trivial⟩ (by unfold oneI; repeat (first | rw [if_pos (by omega)] | rw [if_neg (by omega)]))
    · exact ora_path (D := [(!decide (a = 0)) = false, (!decide (b = 0)) = true]) (n := 300) (ans := decA 0x2957555555555555555555555555) (ix := decI 0x122) (nx := 3) (v := 83) (by kernel_rfl) ⟨dNF q0, dNT q1, trivial⟩ (by unfold oneI; repeat (first | rw [if_pos (by omega)] | rw [if_neg (by omega)]))
  · exact ora_path (D := [(!decide (a = 0)) = true]) (n := 300) (ans := decA 0xa555555555555555555555555) (ix := decI 0x11) (nx := 3) (v := 83) (by kernel_rfl) ⟨dNT q0, trivial⟩ (by unfold oneI; repeat (first | rw [if_pos (by omega)] | rw [if_neg (by omega)]))
theorem one73_11 : ∃ h', Ca cxV 73 [insA 11 op a b c k, .int .i64 cells, .int .i64 long] ⟨0, .leaf⟩ (.int .i64 (oneI 11 op a b c k cells long)) h' := by
  by_cases q0 : 0 ≤ a
  · by_cases q1 : a < 16
    · by_cases q2 : b = 0
      · by_cases q3 : c = 0
        · by_cases q4 : op = 0
          · by_cases q5 : k < 0
            · exact ora_path (D := [(decide (0 ≤ a)) = true, (decide (a < 16)) = true, (!decide (b = 0)) = false, (!decide (c = 0)) = false, (!decide (op = 0)) = false, (decide (k < 0)) = true]) (n := 300) (ans := decA 0x166a955555d555555d5557555555555555aaaa55555555555555555) (ix := decI 0x1112222234566666) (nx := 3) (v := 84) (by kernel_rfl) ⟨dT q0, dT q1, dNF q2, dNF q3, dNF q4, dT q5, trivial⟩ (by unfold oneI; repeat (first | rw [if_pos (by omega)] | rw [if_neg (by omega)]))
            · by_cases q6 : long ≤ k
              · exact ora_path (D := [(decide (0 ≤ a)) = true, (decide (a < 16)) = true, (!decide (b = 0)) = false, (!decide (c = 0)) = false, (!decide (op = 0)) = false, (decide (k < 0)) = false, (decide (long ≤ k)) = true]) (n := 300) (ans := decA 0x277fd55555d555555d5557555555555555aaaa55555555555555555) (ix := decI 0x11122222345666667) (nx := 3) (v := 84) (by kernel_rfl) ⟨dT q0, dT q1, dNF q2, dNF q3, dNF q4, dF q5, dT q6, trivial⟩ (by unfold oneI; repeat (first | rw [if_pos (by omega)] | rw [if_neg (by omega)]))
              · exact ora_path (D := [(decide (0 ≤ a)) = true, (decide (a < 16)) = true, (!decide (b = 0)) = false, (!decide (c = 0)) = false, (!decide (op = 0)) = false, (decide (k < 0)) = false, (decide (long ≤ k)) = false]) (n := 300) (ans := decA 0x377fd55555d555555d5557555555555555aaaa55555555555555555) (ix := decI 0x11122222345666667) (nx := 3) (v := 0) (by kernel_rfl) ⟨dT q0, dT q1, dNF q2, dNF q3, dNF q4, dF q5, dF q6, trivial⟩ (by unfold oneI; repeat (first | rw [if_pos (by omega)] | rw [if_neg (by omega)]))
          · exact ora_path (D := [(decide (0 ≤ a)) = true, (decide (a < 16)) = true, (!decide (b = 0)) = false, (!decide (c = 0)) = false, (!decide (op = 0)) = true]) (n := 300) (ans := decA 0x9555555d5557555555555555aaaa55555555555555555) (ix := decI 0x11122222345) (nx := 3) (v := 83) (by kernel_rfl) ⟨dT q0, dT q1, dNF q2, dNF q3, dNT q4, trivial⟩ (by unfold oneI; repeat (first | rw [if_pos (by omega)] | rw [if_neg (by omega)]))
        · exact ora_path (D := [(decide (0 ≤ a)) = true, (decide (a < 16)) = true, (!decide (b = 0)) = false, (!decide (c = 0)) = true]) (n := 300) (ans := decA 0x295557555555555555aaaa55555555555555555) (ix := decI 0x11122222344) (nx := 3) (v := 83) (by kernel_rfl) ⟨dT q0, dT q1, dNF q2, dNT q3, trivial⟩ (by unfold oneI; repeat (first | rw [if_pos (by omega)] | rw [if_neg (by omega)]))
      · exact ora_path (D := [(decide (0 ≤ a)) = true, (decide (a < 16)) = true, (!decide (b = 0)) = true]) (n := 300) (ans := decA 0xa555555555555aaaa55555555555555555) (ix := decI 0x1112222233) (nx := 3) (v := 83) (by kernel_rfl) ⟨dT q0, dT q1, dNT q2, trivial⟩ (by unfold oneI; repeat (first | rw [if_pos (by omega)] | rw [if_neg (by omega)]))
    · exact ora_path (D := [(decide (0 ≤ a)) = true, (decide (a < 16)) = false]) (n := 300) (ans := decA 0x15775fea55555555555555555) (ix := decI 0x11122222) (nx := 3) (v := 82) (by kernel_rfl) ⟨dT q0, dF q1, trivial⟩ (by unfold oneI; repeat (first | rw [if_pos (by omega)] | rw [if_neg (by omega)]))
  · exact ora_path (D := [(decide (0 ≤ a)) = false]) (n := 300) (ans := decA 0x1555557f55555555555555555) (ix := decI 0x111) (nx := 3) (v := 82) (by kernel_rfl) ⟨dF q0, trivial⟩ (by unfold oneI; repeat (first | rw [if_pos (by omega)] | rw [if_neg (by omega)]))
theorem one73_12 : ∃ h', Ca cxV 73 [insA 12 op a b c k, .int .i64 cells, .int .i64 long] ⟨0, .leaf⟩ (.int .i64 (oneI 12 op a b c k cells long)) h' := by
  by_cases q0 : 0 ≤ a
  · by_cases q1 : a < 16
    · by_cases q2 : b = 0
      · by_cases q3 : c = 0
        · by_cases q4 : op = 0
          · by_cases q5 : k < 0
            · exact ora_path (D := [(decide (0 ≤ a)) = true, (decide (a < 16)) = true, (!decide (b = 0)) = false, (!decide (c = 0)) = false, (!decide (op = 0)) = false, (decide (k < 0)) = true]) (n := 300) (ans := decA 0x166a955555d555555d5557555555555555aaaa55555555555555555) (ix := decI 0x1112222234566666) (nx := 3) (v := 84) (by kernel_rfl) ⟨dT q0, dT q1, dNF q2, dNF q3, dNF q4, dT q5, trivial⟩ (by unfold oneI; repeat (first | rw [if_pos (by omega)] | rw [if_neg (by omega)]))
            · by_cases q6 : long ≤ k
              · exact ora_path (D := [(decide (0 ≤ a)) = true, (decide (a < 16)) = true, (!decide (b = 0)) = false, (!decide (c = 0)) = false, (!decide (op = 0)) = false, (decide (k < 0)) = false, (decide (long ≤ k)) = true]) (n := 300) (ans := decA 0x277fd55555d555555d5557555555555555aaaa55555555555555555) (ix := decI 0x11122222345666667) (nx := 3) (v := 84) (by kernel_rfl) ⟨dT q0, dT q1, dNF q2, dNF q3, dNF q4, dF q5, dT q6, trivial⟩ (by unfold oneI; repeat (first | rw [if_pos (by omega)] | rw [if_neg (by omega)]))
              · exact ora_path (D := [(decide (0 ≤ a)) = true, (decide (a < 16)) = true, (!decide (b = 0)) = false, (!decide (c = 0)) = false, (!decide (op = 0)) = false, (decide (k < 0)) = false, (decide (long ≤ k)) = false]) (n := 300) (ans := decA 0x377fd55555d555555d5557555555555555aaaa55555555555555555) (ix := decI 0x11122222345666667) (nx := 3) (v := 0) (by kernel_rfl) ⟨dT q0, dT q1, dNF q2, dNF q3, dNF q4, dF q5, dF q6, trivial⟩ (by unfold oneI; repeat (first | rw [if_pos (by omega)] | rw [if_neg (by omega)]))
          · exact ora_path (D := [(decide (0 ≤ a)) = true, (decide (a < 16)) = true, (!decide (b = 0)) = false, (!decide (c = 0)) = false, (!decide (op = 0)) = true]) (n := 300) (ans := decA 0x9555555d5557555555555555aaaa55555555555555555) (ix := decI 0x11122222345) (nx := 3) (v := 83) (by kernel_rfl) ⟨dT q0, dT q1, dNF q2, dNF q3, dNT q4, trivial⟩ (by unfold oneI; repeat (first | rw [if_pos (by omega)] | rw [if_neg (by omega)]))
        · exact ora_path (D := [(decide (0 ≤ a)) = true, (decide (a < 16)) = true, (!decide (b = 0)) = false, (!decide (c = 0)) = true]) (n := 300) (ans := decA 0x295557555555555555aaaa55555555555555555) (ix := decI 0x11122222344) (nx := 3) (v := 83) (by kernel_rfl) ⟨dT q0, dT q1, dNF q2, dNT q3, trivial⟩ (by unfold oneI; repeat (first | rw [if_pos (by omega)] | rw [if_neg (by omega)]))
      · exact ora_path (D := [(decide (0 ≤ a)) = true, (decide (a < 16)) = true, (!decide (b = 0)) = true]) (n := 300) (ans := decA 0xa555555555555aaaa55555555555555555) (ix := decI 0x1112222233) (nx := 3) (v := 83) (by kernel_rfl) ⟨dT q0, dT q1, dNT q2, trivial⟩ (by unfold oneI; repeat (first | rw [if_pos (by omega)] | rw [if_neg (by omega)]))
    · exact ora_path (D := [(decide (0 ≤ a)) = true, (decide (a < 16)) = false]) (n := 300) (ans := decA 0x15775fea55555555555555555) (ix := decI 0x11122222) (nx := 3) (v := 82) (by kernel_rfl) ⟨dT q0, dF q1, trivial⟩ (by unfold oneI; repeat (first | rw [if_pos (by omega)] | rw [if_neg (by omega)]))
  · exact ora_path (D := [(decide (0 ≤ a)) = false]) (n := 300) (ans := decA 0x1555557f55555555555555555) (ix := decI 0x111) (nx := 3) (v := 82) (by kernel_rfl) ⟨dF q0, trivial⟩ (by unfold oneI; repeat (first | rw [if_pos (by omega)] | rw [if_neg (by omega)]))
theorem one73_13 : ∃ h', Ca cxV 73 [insA 13 op a b c k, .int .i64 cells, .int .i64 long] ⟨0, .leaf⟩ (.int .i64 (oneI 13 op a b c k cells long)) h' := by
  by_cases q0 : 0 ≤ a
  · by_cases q1 : a < 16
    · by_cases q2 : b = 0
      · by_cases q3 : c = 0
        · by_cases q4 : k = 0
          · by_cases q5 : op = 0
            · exact ora_path (D := [(decide (0 ≤ a)) = true, (decide (a < 16)) = true, (!decide (b = 0)) = false, (!decide (c = 0)) = false, (!decide (k = 0)) = false, (!decide (op = 0)) = false]) (n := 300) (ans := decA 0x155555575555d575555d555555555556aaa9555555555555555) (ix := decI 0x111222223456) (nx := 3) (v := 0) (by kernel_rfl) ⟨dT q0, dT q1, dNF q2, dNF q3, dNF q4, dNF q5, trivial⟩ (by unfold oneI; repeat (first | rw [if_pos (by omega)] | rw [if_neg (by omega)]))
            · exact ora_path (D := [(decide (0 ≤ a)) = true, (decide (a < 16)) = true, (!decide (b = 0)) = false, (!decide (c = 0)) = false, (!decide (k = 0)) = false, (!decide (op = 0)) = true]) (n := 300) (ans := decA 0x25555d575555d555555555556aaa9555555555555555) (ix := decI 0x111222223456) (nx := 3) (v := 83) (by kernel_rfl) ⟨dT q0, dT q1, dNF q2, dNF q3, dNF q4, dNT q5, trivial⟩ (by unfold oneI; repeat (first | rw [if_pos (by omega)] | rw [if_neg (by omega)]))
          · exact ora_path (D := [(decide (0 ≤ a)) = true, (decide (a < 16)) = true, (!decide (b = 0)) = false, (!decide (c = 0)) = false, (!decide (k = 0)) = true]) (n := 300) (ans := decA 0x29575555d555555555556aaa9555555555555555) (ix := decI 0x111222223455) (nx := 3) (v := 83) (by kernel_rfl) ⟨dT q0, dT q1, dNF q2, dNF q3, dNT q4, trivial⟩ (by unfold oneI; repeat (first | rw [if_pos (by omega)] | rw [if_neg (by omega)]))
        · exact ora_path (D := [(decide (0 ≤ a)) = true, (decide (a < 16)) = true, (!decide (b = 0)) = false, (!decide (c = 0)) = true]) (n := 300) (ans := decA 0xa5555d555555555556aaa9555555555555555) (ix := decI 0x11122222344) (nx := 3) (v := 83) (by kernel_rfl) ⟨dT q0, dT q1, dNF q2, dNT q3, trivial⟩ (by unfold oneI; repeat (first | rw [if_pos (by omega)] | rw [if_neg (by omega)]))
      · exact ora_path (D := [(decide (0 ≤ a)) = true, (decide (a < 16)) = true, (!decide (b = 0)) = true]) (n := 300) (ans := decA 0x29555555555556aaa9555555555555555) (ix := decI 0x1112222233) (nx := 3) (v := 83) (by kernel_rfl) ⟨dT q0, dT q1, dNT q2, trivial⟩ (by unfold oneI; repeat (first | rw [if_pos (by omega)] | rw [if_neg (by omega)]))
    · exact ora_path (D := [(decide (0 ≤ a)) = true, (decide (a < 16)) = false]) (n := 300) (ans := decA 0x55dd7fa9555555555555555) (ix := decI 0x11122222) (nx := 3) (v := 82) (by kernel_rfl) ⟨dT q0, dF q1, trivial⟩ (by unfold oneI; repeat (first | rw [if_pos (by omega)] | rw [if_neg (by omega)]))
  · exact ora_path (D := [(decide (0 ≤ a)) = false]) (n := 300) (ans := decA 0x555555fd555555555555555) (ix := decI 0x111) (nx := 3) (v := 82) (by kernel_rfl) ⟨dF q0, trivial⟩ (by unfold oneI; repeat (first | rw [if_pos (by omega)] | rw [if_neg (by omega)]))
end
end Go.Ab
