/- mem.Of, red.New, outriderref15.Tasks: the code, made shorter. -/
import Derived.Test.YtgkchcbnbbgdpaaGreatDoorJvD
import Derived.Test.YtgkchcbnbbgdpaaGreatDoorJvC
set_option linter.unusedVariables false
set_option linter.unusedSimpArgs false
namespace Go.Ab
def lb29_0 : CC :=
  (.seq (.reg [⟨(some 21), .bin .lss .plain (.t 20) (.t 19), none, []⟩])
  (.seq (.cond (.t 21)
  .skip
  (.exit 0))
  (.seq (.block 1 (.seq (.reg [⟨(some 22), .idxSl 2 (.t 18) (.t 20), none, []⟩, ⟨(some 23), .load 2 true (.t 22), none, []⟩, ⟨(some 9), .alloc [(.int .i64 0), (.int .i64 0)], none, []⟩, ⟨none, .store 2 (.t 9) (.t 23), none, []⟩])
  (.seq (.seq (.reg [⟨(some 24), .fieldA 0 (.t 9), none, []⟩, ⟨(some 25), .load 1 false (.t 24), none, []⟩, ⟨(some 26), .bin .lss .plain (.t 25) (.k (.int .i64 0)), none, []⟩, ⟨(some 27), .mv (.t 26), none, []⟩, ⟨(some 28), .fieldA 0 (.t 9), some (27, false), []⟩, ⟨(some 29), .load 1 false (.t 28), some (27, false), []⟩, ⟨(some 30), .mv (.t 0), some (27, false), []⟩, ⟨(some 31), .bin .geq .plain (.t 29) (.t 30), some (27, false), []⟩, ⟨(some 32), .pick (.t 27) (.k (.bool true)) (.t 31), none, []⟩])
  (.cond (.t 32)
  (.seq (.reg [⟨(some 4), .mv (.k .snil), none, []⟩, ⟨(some 5), .mv (.k (.int .i64 131)), none, []⟩])
  .ret)
  .skip))
  (.seq (.seq (.reg [⟨(some 33), .fieldA 0 (.t 9), none, []⟩, ⟨(some 34), .load 1 false (.t 33), none, []⟩, ⟨(some 35), .idxArr 64 1 (.t 7) (.t 34), none, []⟩, ⟨(some 36), .load 1 false (.t 35), none, []⟩])
  (.cond (.t 36)
  (.seq (.reg [⟨(some 4), .mv (.k .snil), none, []⟩, ⟨(some 5), .mv (.k (.int .i64 61)), none, []⟩])
  .ret)
  .skip))
  (.seq (.reg [⟨(some 37), .fieldA 0 (.t 9), none, []⟩, ⟨(some 38), .load 1 false (.t 37), none, []⟩, ⟨(some 39), .idxArr 64 1 (.t 7) (.t 38), none, []⟩, ⟨none, .store 1 (.t 39) (.k (.bool true)), none, []⟩])
  (.reg [⟨(some 40), .mv (.t 6), none, []⟩, ⟨(some 41), .fieldA 0 (.t 9), none, []⟩, ⟨(some 42), .load 1 false (.t 41), none, []⟩, ⟨(some 43), .fieldA 1 (.t 9), none, []⟩, ⟨(some 44), .load 1 false (.t 43), none, []⟩, ⟨(some 45), .idxSl 1 (.t 40) (.t 42), none, []⟩, ⟨none, .store 1 (.t 45) (.t 44), none, []⟩]))))))
  (.reg [⟨(some 46), .bin .add .plain (.t 20) (.k (.int .i64 1)), none, []⟩, ⟨(some 20), .mv (.t 46), none, []⟩]))))
def cc29 : CC :=
  (.seq (.reg [⟨(some 4), .mv (.k .snil), none, []⟩, ⟨(some 5), .mv (.k (.int .i64 0)), none, []⟩])
  (.seq (.seq (.reg [⟨(some 10), .mv (.t 0), none, []⟩, ⟨(some 11), .bin .lss .plain (.t 10) (.k (.int .i64 1)), none, []⟩, ⟨(some 12), .mv (.t 11), none, []⟩, ⟨(some 13), .mv (.t 0), some (12, false), []⟩, ⟨(some 14), .bin .gtr .plain (.t 13) (.k (.int .i64 64)), some (12, false), []⟩, ⟨(some 15), .pick (.t 12) (.k (.bool true)) (.t 14), none, []⟩])
  (.cond (.t 15)
  (.seq (.reg [⟨(some 4), .mv (.k .snil), none, []⟩, ⟨(some 5), .mv (.k (.int .i64 130)), none, []⟩])
  .ret)
  .skip))
  (.seq (.reg [⟨(some 16), .mv (.t 0), none, []⟩, ⟨(some 17), .mkSl 1 8 [(.int .i64 0)] (.t 16) (.t 16), none, []⟩, ⟨(some 6), .mv (.t 17), none, []⟩])
  (.seq (.reg [⟨(some 7), .alloc [(.bool false), (.bool false), (.bool false), (.bool false), (.bool false), (.bool false), (.bool false), (.bool false), (.bool false), (.bool false), (.bool false), (.bool false), (.bool false), (.bool false), (.bool false), (.bool false), (.bool false), (.bool false), (.bool false), (.bool false), (.bool false), (.bool false), (.bool false), (.bool false), (.bool false), (.bool false), (.bool false), (.bool false), (.bool false), (.bool false), (.bool false), (.bool false), (.bool false), (.bool false), (.bool false), (.bool false), (.bool false), (.bool false), (.bool false), (.bool false), (.bool false), (.bool false), (.bool false), (.bool false), (.bool false), (.bool false), (.bool false), (.bool false), (.bool false), (.bool false), (.bool false), (.bool false), (.bool false), (.bool false), (.bool false), (.bool false), (.bool false), (.bool false), (.bool false), (.bool false), (.bool false), (.bool false), (.bool false), (.bool false)], none, []⟩])
  (.seq (.seq (.reg [⟨(some 18), .mv (.t 1), none, []⟩, ⟨(some 19), .lenL (.t 18), none, []⟩, ⟨(some 20), .mv (.k (.int .i64 0)), none, []⟩])
  (.block 0 (.loop lb29_0)))
  (.seq (.reg [⟨(some 47), .mv (.t 6), none, []⟩, ⟨(some 4), .mv (.t 47), none, []⟩, ⟨(some 5), .mv (.k (.int .i64 0)), none, []⟩])
  .ret))))))
def cf29 : CFn := ⟨cc29, 48, [(4, none), (5, none)]⟩
def lb30_0 : CC :=
  (.seq (.reg [⟨(some 15), .bin .lss .plain (.t 14) (.t 13), none, []⟩])
  (.seq (.cond (.t 15)
  .skip
  (.exit 0))
  (.seq (.block 1 (.seq (.reg [⟨(some 16), .idxSl 2 (.t 12) (.t 14), none, []⟩, ⟨(some 17), .load 2 true (.t 16), none, []⟩, ⟨(some 6), .alloc [(.int .i64 0), (.int .i64 0)], none, []⟩, ⟨none, .store 2 (.t 6) (.t 17), none, []⟩])
  (.seq (.seq (.reg [⟨(some 18), .fieldA 0 (.t 6), none, []⟩, ⟨(some 19), .load 1 false (.t 18), none, []⟩, ⟨(some 20), .call (.k (.fn 70 [] [])) [(.t 19)], none, []⟩, ⟨(some 21), .un .not (.t 20), none, []⟩])
  (.cond (.t 21)
  (.seq (.reg [⟨(some 2), .mv (.k .pnil), none, []⟩, ⟨(some 3), .mv (.k (.int .i64 140)), none, []⟩])
  .ret)
  .skip))
  (.seq (.draw [⟨(some 23), .mv (.t 4), none, []⟩, ⟨(some 24), .nilc (.t 23), none, []⟩, ⟨(some 25), .fieldA 0 (.t 24), none, []⟩, ⟨(some 26), .load 1 false (.t 25), none, []⟩, ⟨(some 27), .fieldA 0 (.t 6), none, []⟩, ⟨(some 28), .load 1 false (.t 27), none, []⟩, ⟨(some 29), .bslice 1 1 [(.int .i64 0)] [(0, 1, (.t 28))], none, []⟩, ⟨(some 30), .append 1 8 (.t 26) (.t 29), none, []⟩, ⟨(some 22), .mv (.t 4), none, [7]⟩, ⟨(some 31), .nilc (.t 22), none, []⟩, ⟨(some 32), .fieldA 0 (.t 31), none, []⟩, ⟨none, .store 1 (.t 32) (.t 30), none, []⟩] none)
  (.draw [⟨(some 38), .fieldA 0 (.t 6), none, []⟩, ⟨(some 39), .load 1 false (.t 38), none, []⟩, ⟨(some 40), .call (.k (.fn 71 [] [])) [(.t 39)], none, []⟩, ⟨(some 34), .mv (.t 4), none, [2]⟩, ⟨(some 35), .nilc (.t 34), none, [2]⟩, ⟨(some 36), .fieldA 1 (.t 35), none, [2]⟩, ⟨(some 37), .load 1 false (.t 36), none, [2]⟩, ⟨(some 41), .bslice 1 1 [(.int .i64 0)] [(0, 1, (.t 40))], none, []⟩, ⟨(some 42), .append 1 8 (.t 37) (.t 41), none, []⟩, ⟨(some 33), .mv (.t 4), none, [2, 8]⟩, ⟨(some 43), .nilc (.t 33), none, []⟩, ⟨(some 44), .fieldA 1 (.t 43), none, []⟩, ⟨none, .store 1 (.t 44) (.t 42), none, []⟩] none)))))
  (.reg [⟨(some 45), .bin .add .plain (.t 14) (.k (.int .i64 1)), none, []⟩, ⟨(some 14), .mv (.t 45), none, []⟩]))))
def cc30 : CC :=
  (.seq (.reg [⟨(some 2), .mv (.k .pnil), none, []⟩, ⟨(some 3), .mv (.k (.int .i64 0)), none, []⟩])
  (.seq (.seq (.reg [⟨(some 7), .mv (.t 0), none, []⟩, ⟨(some 8), .lenL (.t 7), none, []⟩, ⟨(some 9), .bin .gtr .plain (.t 8) (.k (.int .i64 4)), none, []⟩])
  (.cond (.t 9)
  (.seq (.reg [⟨(some 2), .mv (.k .pnil), none, []⟩, ⟨(some 3), .mv (.k (.int .i64 171)), none, []⟩])
  .ret)
  .skip))
  (.seq (.reg [⟨(some 10), .build [.snil, .snil, (.int .i64 0)] [], none, []⟩, ⟨(some 11), .box (.t 10), none, []⟩, ⟨(some 4), .mv (.t 11), none, []⟩])
  (.seq (.seq (.reg [⟨(some 12), .mv (.t 0), none, []⟩, ⟨(some 13), .lenL (.t 12), none, []⟩, ⟨(some 14), .mv (.k (.int .i64 0)), none, []⟩])
  (.block 0 (.loop lb30_0)))
  (.seq (.reg [⟨(some 46), .mv (.t 4), none, []⟩, ⟨(some 2), .mv (.t 46), none, []⟩, ⟨(some 3), .mv (.k (.int .i64 0)), none, []⟩])
  .ret)))))
def cf30 : CFn := ⟨cc30, 47, [(2, none), (3, none)]⟩
def lb36_0 : CC :=
  (.seq (.seq (.reg [⟨(some 118), .mv (.t 8), none, []⟩, ⟨(some 119), .fieldA 5 (.t 1), none, []⟩, ⟨(some 120), .load 1 false (.t 119), none, []⟩, ⟨(some 121), .bin .lss .plain (.t 118) (.t 120), none, []⟩])
  (.cond (.t 121)
  .skip
  (.exit 4)))
  (.seq (.block 5 (.reg [⟨(some 124), .mv (.t 4), none, []⟩, ⟨(some 125), .mv (.t 7), none, []⟩, ⟨(some 126), .mv (.t 8), none, []⟩, ⟨(some 127), .build [(.int .i64 0), (.int .i64 0)] [(0, 1, (.t 125)), (1, 1, (.t 126))], none, []⟩, ⟨(some 128), .bslice 1 2 [(.int .i64 0), (.int .i64 0)] [(0, 2, (.t 127))], none, []⟩, ⟨(some 129), .append 2 16 (.t 124) (.t 128), none, []⟩, ⟨(some 4), .mv (.t 129), none, []⟩]))
  (.reg [⟨(some 122), .mv (.t 8), none, []⟩, ⟨(some 123), .bin .add .plain (.t 122) (.k (.int .i64 1)), none, []⟩, ⟨(some 8), .mv (.t 123), none, []⟩])))
def lb36_1 : CC :=
  (.seq (.seq (.reg [⟨(some 112), .mv (.t 7), none, []⟩, ⟨(some 113), .fieldA 4 (.t 1), none, []⟩, ⟨(some 114), .load 1 false (.t 113), none, []⟩, ⟨(some 115), .bin .lss .plain (.t 112) (.t 114), none, []⟩])
  (.cond (.t 115)
  .skip
  (.exit 2)))
  (.seq (.block 3 (.seq (.seq (.reg [⟨(some 8), .mv (.k (.int .i64 0)), none, []⟩])
  (.block 4 (.loop lb36_0)))
  (.seq (.reg [⟨(some 130), .mv (.t 4), none, []⟩, ⟨(some 131), .lenL (.t 130), none, []⟩, ⟨(some 132), .bin .gtr .plain (.t 131) (.k (.int .i64 200)), none, []⟩])
  (.cond (.t 132)
  (.seq (.reg [⟨(some 2), .mv (.k .snil), none, []⟩, ⟨(some 3), .mv (.k (.int .i64 151)), none, []⟩])
  .ret)
  .skip))))
  (.reg [⟨(some 116), .mv (.t 7), none, []⟩, ⟨(some 117), .bin .add .plain (.t 116) (.k (.int .i64 1)), none, []⟩, ⟨(some 7), .mv (.t 117), none, []⟩])))
def lb36_2 : CC :=
  (.seq (.seq (.reg [⟨(some 27), .fieldA 3 (.t 1), none, []⟩, ⟨(some 28), .load 1 false (.t 27), none, []⟩, ⟨(some 29), .bin .gtr .plain (.t 28) (.k (.int .i64 0)), none, []⟩, ⟨(some 30), .mv (.t 29), none, []⟩, ⟨(some 31), .mv (.t 5), some (30, true), []⟩, ⟨(some 32), .fieldA 2 (.t 1), some (30, true), []⟩, ⟨(some 33), .load 1 false (.t 32), some (30, true), []⟩, ⟨(some 34), .bin .lss .plain (.t 31) (.t 33), some (30, true), []⟩, ⟨(some 35), .pick (.t 30) (.t 34) (.k (.bool false)), none, []⟩, ⟨(some 36), .mv (.t 35), none, []⟩, ⟨(some 37), .fieldA 3 (.t 1), some (36, false), []⟩, ⟨(some 38), .load 1 false (.t 37), some (36, false), []⟩, ⟨(some 39), .bin .lss .plain (.t 38) (.k (.int .i64 0)), some (36, false), []⟩, ⟨(some 40), .mv (.t 39), some (36, false), []⟩, ⟨(some 41), .mv (.t 5), some (40, true), []⟩, ⟨(some 42), .fieldA 2 (.t 1), some (40, true), []⟩, ⟨(some 43), .load 1 false (.t 42), some (40, true), []⟩, ⟨(some 44), .bin .gtr .plain (.t 41) (.t 43), some (40, true), []⟩, ⟨(some 45), .pick (.t 40) (.t 44) (.k (.bool false)), some (36, false), []⟩, ⟨(some 46), .pick (.t 36) (.k (.bool true)) (.t 45), none, []⟩])
  (.cond (.t 46)
  .skip
  (.exit 0)))
  (.block 1 (.seq (.reg [⟨(some 47), .mv (.t 4), none, []⟩, ⟨(some 48), .mv (.t 5), none, []⟩, ⟨(some 49), .build [(.int .i64 0), (.int .i64 0)] [(0, 1, (.t 48)), (1, 1, (.k (.int .i64 0)))], none, []⟩, ⟨(some 50), .bslice 1 2 [(.int .i64 0), (.int .i64 0)] [(0, 2, (.t 49))], none, []⟩, ⟨(some 51), .append 2 16 (.t 47) (.t 50), none, []⟩, ⟨(some 4), .mv (.t 51), none, []⟩])
  (.seq (.seq (.reg [⟨(some 52), .mv (.t 4), none, []⟩, ⟨(some 53), .lenL (.t 52), none, []⟩, ⟨(some 54), .bin .gtr .plain (.t 53) (.k (.int .i64 200)), none, []⟩])
  (.cond (.t 54)
  (.seq (.reg [⟨(some 2), .mv (.k .snil), none, []⟩, ⟨(some 3), .mv (.k (.int .i64 151)), none, []⟩])
  .ret)
  .skip))
  (.seq (.reg [⟨(some 55), .mv (.t 5), none, []⟩, ⟨(some 56), .fieldA 3 (.t 1), none, []⟩, ⟨(some 57), .load 1 false (.t 56), none, []⟩, ⟨(some 58), .bin .add .plain (.t 55) (.t 57), none, []⟩, ⟨(some 6), .mv (.t 58), none, []⟩])
  (.seq (.seq (.reg [⟨(some 59), .fieldA 3 (.t 1), none, []⟩, ⟨(some 60), .load 1 false (.t 59), none, []⟩, ⟨(some 61), .bin .gtr .plain (.t 60) (.k (.int .i64 0)), none, []⟩, ⟨(some 62), .mv (.t 61), none, []⟩, ⟨(some 63), .mv (.t 6), some (62, true), []⟩, ⟨(some 64), .mv (.t 5), some (62, true), []⟩, ⟨(some 65), .bin .lss .plain (.t 63) (.t 64), some (62, true), []⟩, ⟨(some 66), .pick (.t 62) (.t 65) (.k (.bool false)), none, []⟩, ⟨(some 67), .mv (.t 66), none, []⟩, ⟨(some 68), .fieldA 3 (.t 1), some (67, false), []⟩, ⟨(some 69), .load 1 false (.t 68), some (67, false), []⟩, ⟨(some 70), .bin .lss .plain (.t 69) (.k (.int .i64 0)), some (67, false), []⟩, ⟨(some 71), .mv (.t 70), some (67, false), []⟩, ⟨(some 72), .mv (.t 6), some (71, true), []⟩, ⟨(some 73), .mv (.t 5), some (71, true), []⟩, ⟨(some 74), .bin .gtr .plain (.t 72) (.t 73), some (71, true), []⟩, ⟨(some 75), .pick (.t 71) (.t 74) (.k (.bool false)), some (67, false), []⟩, ⟨(some 76), .pick (.t 67) (.k (.bool true)) (.t 75), none, []⟩])
  (.cond (.t 76)
  (.exit 0)
  .skip))
  (.reg [⟨(some 77), .mv (.t 6), none, []⟩, ⟨(some 5), .mv (.t 77), none, []⟩])))))))
def cc36 : CC :=
  (.seq (.reg [⟨(some 1), .box (.t 0), none, []⟩, ⟨(some 2), .mv (.k .snil), none, []⟩, ⟨(some 3), .mv (.k (.int .i64 0)), none, []⟩])
  (.seq (.reg [⟨(some 4), .mv (.k .snil), none, []⟩])
  (.seq (.seq (.reg [⟨(some 9), .fieldA 0 (.t 1), none, []⟩, ⟨(some 10), .load 1 false (.t 9), none, []⟩, ⟨(some 11), .bin .eql .plain (.t 10) (.k (.int .i64 1)), none, []⟩, ⟨(some 12), .mv (.t 11), none, []⟩, ⟨(some 13), .fieldA 4 (.t 1), some (12, true), []⟩, ⟨(some 14), .load 1 false (.t 13), some (12, true), []⟩, ⟨(some 15), .bin .eql .plain (.t 14) (.k (.int .i64 0)), some (12, true), []⟩, ⟨(some 16), .pick (.t 12) (.t 15) (.k (.bool false)), none, []⟩, ⟨(some 17), .mv (.t 16), none, []⟩, ⟨(some 18), .fieldA 5 (.t 1), some (17, true), []⟩, ⟨(some 19), .load 1 false (.t 18), some (17, true), []⟩, ⟨(some 20), .bin .eql .plain (.t 19) (.k (.int .i64 0)), some (17, true), []⟩, ⟨(some 21), .pick (.t 17) (.t 20) (.k (.bool false)), none, []⟩])
  (.cond (.t 21)
  (.seq (.seq (.reg [⟨(some 22), .fieldA 3 (.t 1), none, []⟩, ⟨(some 23), .load 1 false (.t 22), none, []⟩, ⟨(some 24), .bin .eql .plain (.t 23) (.k (.int .i64 0)), none, []⟩])
  (.cond (.t 24)
  (.seq (.reg [⟨(some 2), .mv (.k .snil), none, []⟩, ⟨(some 3), .mv (.k (.int .i64 150)), none, []⟩])
  .ret)
  .skip))
  (.seq (.reg [⟨(some 25), .fieldA 1 (.t 1), none, []⟩, ⟨(some 26), .load 1 false (.t 25), none, []⟩, ⟨(some 5), .mv (.t 26), none, []⟩])
  (.seq (.block 0 (.loop lb36_2))
  (.seq (.reg [⟨(some 78), .mv (.t 4), none, []⟩, ⟨(some 2), .mv (.t 78), none, []⟩, ⟨(some 3), .mv (.k (.int .i64 0)), none, []⟩])
  .ret))))
  .skip))
  (.seq (.seq (.reg [⟨(some 79), .fieldA 0 (.t 1), none, []⟩, ⟨(some 80), .load 1 false (.t 79), none, []⟩, ⟨(some 81), .bin .eql .plain (.t 80) (.k (.int .i64 2)), none, []⟩, ⟨(some 82), .mv (.t 81), none, []⟩, ⟨(some 83), .fieldA 1 (.t 1), some (82, true), []⟩, ⟨(some 84), .load 1 false (.t 83), some (82, true), []⟩, ⟨(some 85), .bin .eql .plain (.t 84) (.k (.int .i64 0)), some (82, true), []⟩, ⟨(some 86), .pick (.t 82) (.t 85) (.k (.bool false)), none, []⟩, ⟨(some 87), .mv (.t 86), none, []⟩, ⟨(some 88), .fieldA 2 (.t 1), some (87, true), []⟩, ⟨(some 89), .load 1 false (.t 88), some (87, true), []⟩, ⟨(some 90), .bin .eql .plain (.t 89) (.k (.int .i64 0)), some (87, true), []⟩, ⟨(some 91), .pick (.t 87) (.t 90) (.k (.bool false)), none, []⟩, ⟨(some 92), .mv (.t 91), none, []⟩, ⟨(some 93), .fieldA 3 (.t 1), some (92, true), []⟩, ⟨(some 94), .load 1 false (.t 93), some (92, true), []⟩, ⟨(some 95), .bin .eql .plain (.t 94) (.k (.int .i64 0)), some (92, true), []⟩, ⟨(some 96), .pick (.t 92) (.t 95) (.k (.bool false)), none, []⟩, ⟨(some 97), .mv (.t 96), none, []⟩, ⟨(some 98), .fieldA 4 (.t 1), some (97, true), []⟩, ⟨(some 99), .load 1 false (.t 98), some (97, true), []⟩, ⟨(some 100), .bin .geq .plain (.t 99) (.k (.int .i64 0)), some (97, true), []⟩, ⟨(some 101), .pick (.t 97) (.t 100) (.k (.bool false)), none, []⟩, ⟨(some 102), .mv (.t 101), none, []⟩, ⟨(some 103), .fieldA 5 (.t 1), some (102, true), []⟩, ⟨(some 104), .load 1 false (.t 103), some (102, true), []⟩, ⟨(some 105), .bin .geq .plain (.t 104) (.k (.int .i64 1)), some (102, true), []⟩, ⟨(some 106), .pick (.t 102) (.t 105) (.k (.bool false)), none, []⟩, ⟨(some 107), .mv (.t 106), none, []⟩, ⟨(some 108), .fieldA 5 (.t 1), some (107, true), []⟩, ⟨(some 109), .load 1 false (.t 108), some (107, true), []⟩, ⟨(some 110), .bin .leq .plain (.t 109) (.k (.int .i64 6)), some (107, true), []⟩, ⟨(some 111), .pick (.t 107) (.t 110) (.k (.bool false)), none, []⟩])
  (.cond (.t 111)
  (.seq (.seq (.reg [⟨(some 7), .mv (.k (.int .i64 0)), none, []⟩])
  (.block 2 (.loop lb36_1)))
  (.seq (.reg [⟨(some 133), .mv (.t 4), none, []⟩, ⟨(some 2), .mv (.t 133), none, []⟩, ⟨(some 3), .mv (.k (.int .i64 0)), none, []⟩])
  .ret))
  .skip))
  (.seq (.reg [⟨(some 2), .mv (.k .snil), none, []⟩, ⟨(some 3), .mv (.k (.int .i64 152)), none, []⟩])
  .ret)))))
def cf36 : CFn := ⟨cc36, 134, [(2, none), (3, none)]⟩
def cc70 : CC :=
  (.seq (.reg [⟨(some 2), .mv (.k (.bool false)), none, []⟩])
  (.seq (.reg [⟨(some 3), .mv (.t 0), none, []⟩, ⟨(some 4), .bin .geq .plain (.t 3) (.k (.int .i64 1)), none, []⟩, ⟨(some 5), .mv (.t 4), none, []⟩, ⟨(some 6), .mv (.t 0), some (5, true), []⟩, ⟨(some 7), .bin .leq .plain (.t 6) (.k (.int .i64 7)), some (5, true), []⟩, ⟨(some 8), .pick (.t 5) (.t 7) (.k (.bool false)), none, []⟩, ⟨(some 2), .mv (.t 8), none, []⟩])
  .ret))
def cf70 : CFn := ⟨cc70, 9, [(2, none)]⟩
def cc71 : CC :=
  (.seq (.reg [⟨(some 2), .mv (.k (.int .i64 0)), none, []⟩])
  (.seq (.seq (.reg [⟨(some 3), .mv (.t 0), none, []⟩])
  (.block 0 (.seq (.reg [⟨(some 5), .bin .eql .plain (.t 3) (.k (.int .i64 2)), none, []⟩, ⟨(some 4), .mv (.t 5), none, []⟩])
  (.cond (.t 4)
  (.seq (.reg [⟨(some 2), .mv (.k (.int .i64 1)), none, []⟩])
  .ret)
  (.seq (.reg [⟨(some 7), .bin .eql .plain (.t 3) (.k (.int .i64 3)), none, []⟩, ⟨(some 6), .mv (.t 7), none, []⟩])
  (.cond (.t 6)
  (.seq (.reg [⟨(some 2), .mv (.k (.int .i64 9223372036854775807)), none, []⟩])
  .ret)
  (.seq (.reg [⟨(some 9), .bin .eql .plain (.t 3) (.k (.int .i64 4)), none, []⟩, ⟨(some 8), .mv (.t 9), none, []⟩])
  (.cond (.t 8)
  (.seq (.reg [⟨(some 2), .mv (.k (.int .i64 (-9223372036854775808))), none, []⟩])
  .ret)
  (.seq (.reg [⟨(some 11), .bin .eql .plain (.t 3) (.k (.int .i64 5)), none, []⟩, ⟨(some 10), .mv (.t 11), none, []⟩])
  (.cond (.t 10)
  (.seq (.reg [⟨(some 2), .mv (.k (.int .i64 (-1))), none, []⟩])
  .ret)
  .skip))))))))))
  (.seq (.reg [⟨(some 2), .mv (.k (.int .i64 0)), none, []⟩])
  .ret)))
def cf71 : CFn := ⟨cc71, 12, [(2, none)]⟩
def fnM : Nat → Option CFn
  | 29 => some cf29
  | 30 => some cf30
  | 36 => some cf36
  | 70 => some cf70
  | 71 => some cf71
  | _ => none
def cxM : Cx := ⟨fnM, fun _ => none⟩
end Go.Ab
/- mem.Of, red.New, Tasks: their code is the program's. -/
namespace Go.Ab
open Go.Proofs Go.RowKit
theorem cxM_ok : CxOk Tryz.prog cxM := by
  refine ⟨fun f cf h => ?_, fun f e h => (by cases h), fun f e h => (by cases h)⟩
  change fnM f = some cf at h
  unfold fnM at h
  split at h
  · cases h; exact ⟨_, Tryz.func29, by kernel_rfl⟩
  · cases h; exact ⟨_, Tryz.func30, by kernel_rfl⟩
  · cases h; exact ⟨_, Tryz.func36, by kernel_rfl⟩
  · cases h; exact ⟨_, Tryz.func70, by kernel_rfl⟩
  · cases h; exact ⟨_, Tryz.func71, by kernel_rfl⟩
  · cases h
end Go.Ab
set_option maxRecDepth 100000
namespace Go.Ab
open Go.Proofs
def st29 (cap : Option Nat) (m n i : Nat) : TS := ofL [(0, .int .i64 (.ofNat m)), (6, .sl 1 0 m none 1), (7, .ptr 2 0), (18, .sl 0 0 n cap 2), (19, .int .i64 (.ofNat n)), (20, .int .i64 (.ofNat i))]
def hp29 (CS O T : List AV) : H := hOf 3 [(0, kF CS), (1, kT O), (2, kT T)]
def hp29c (CS O T : List AV) (a v : Int) : H := hOf 4 [(0, kF CS), (1, kT O), (2, kT T), (3, kT [.int .i64 a, .int .i64 v])]
theorem b29_end (cap : Option Nat) (m n i : Nat) (CS O T : List AV) (L1 : decide (Int.ofNat i < Int.ofNat n) = false) :
    Tri Tryz.prog 48 1 (lb29_0) (st29 cap m n i) (hp29 CS O T) (Fl.exit 0) (ofL [(6, AV.sl 1 0 m none 1)]) (hOf 3 [(0, kF CS), (1, kT O), (2, kT T)]) :=
  Tri.of mixedT cxM_ok 60 200 (ans := [.f]) (ks := [6]) (vs := [AV.sl 1 0 m none 1]) (p := (decide (Int.ofNat i < Int.ofNat n) = false) ∧ (True)) (by kernel_rfl) ⟨L1, trivial⟩
theorem b29_neg (cap : Option Nat) (m n i : Nat) (a v : Int) (CS O T : List AV) (L1 : decide (a < 0) = true)
    (L2 : GivesA cxM (hOf 3 [(0, kF CS), (1, kT O), (2, kT T)]) (CO.load 2 true (Opd.k (AV.ptr 0 (0 + i * 2)))) (AV.agg [iV a, iV v]) (hOf 3 [(0, kF CS), (1, kT O), (2, kT T)]))
    (L3 : GivesA cxM (hOf 3 [(0, kF CS), (1, kT O), (2, kT T)]) (CO.idxSl 2 (Opd.k (AV.sl 0 0 n cap 2)) (Opd.k (iV (Int.ofNat i)))) (AV.ptr 0 (0 + i * 2)) (hOf 3 [(0, kF CS), (1, kT O), (2, kT T)]))
    (L4 : decide (Int.ofNat i < Int.ofNat n) = true) :
    Tri Tryz.prog 48 1 (lb29_0) (st29 cap m n i) (hp29 CS O T) (Fl.ret) (ofL [(4, AV.snil), (5, iV 131)]) (hOf 4 [(0, kF CS), (1, kT O), (2, kT T), (3, kT [iV a, iV v])]) :=
  Tri.of mixedT cxM_ok 60 200 (ans := [.t, .v (some 22) (.ptr 0 (0 + i * 2)) (hp29 CS O T), .v (some 23) (.agg [.int .i64 a, .int .i64 v]) (hp29 CS O T), .t, .t, .t, .t, .t, .t]) (ks := [4, 5]) (vs := [AV.snil, iV 131]) (p := (true = true) ∧ (decide (a < 0) = true) ∧ (decide (a < 0) = true) ∧ (decide (a < 0) = true) ∧ (decide (a < 0) = true) ∧ (decide (a < 0) = true) ∧ (GivesA cxM (hOf 3 [(0, kF CS), (1, kT O), (2, kT T)]) (CO.load 2 true (Opd.k (AV.ptr 0 (0 + i * 2)))) (AV.agg [iV a, iV v]) (hOf 3 [(0, kF CS), (1, kT O), (2, kT T)])) ∧ (GivesA cxM (hOf 3 [(0, kF CS), (1, kT O), (2, kT T)]) (CO.idxSl 2 (Opd.k (AV.sl 0 0 n cap 2)) (Opd.k (iV (Int.ofNat i)))) (AV.ptr 0 (0 + i * 2)) (hOf 3 [(0, kF CS), (1, kT O), (2, kT T)])) ∧ (decide (Int.ofNat i < Int.ofNat n) = true) ∧ (True)) (by kernel_rfl) ⟨rfl, L1, L1, L1, L1, L1, L2, L3, L4, trivial⟩
theorem b29_big (cap : Option Nat) (m n i : Nat) (a v : Int) (CS O T : List AV) (L1 : decide (Int.ofNat m ≤ a) = true)
    (L2 : decide (a < 0) = false)
    (L3 : GivesA cxM (hOf 3 [(0, kF CS), (1, kT O), (2, kT T)]) (CO.load 2 true (Opd.k (AV.ptr 0 (0 + i * 2)))) (AV.agg [iV a, iV v]) (hOf 3 [(0, kF CS), (1, kT O), (2, kT T)]))
    (L4 : GivesA cxM (hOf 3 [(0, kF CS), (1, kT O), (2, kT T)]) (CO.idxSl 2 (Opd.k (AV.sl 0 0 n cap 2)) (Opd.k (iV (Int.ofNat i)))) (AV.ptr 0 (0 + i * 2)) (hOf 3 [(0, kF CS), (1, kT O), (2, kT T)]))
    (L5 : decide (Int.ofNat i < Int.ofNat n) = true) :
    Tri Tryz.prog 48 1 (lb29_0) (st29 cap m n i) (hp29 CS O T) (Fl.ret) (ofL [(4, AV.snil), (5, iV 131)]) (hOf 4 [(0, kF CS), (1, kT O), (2, kT T), (3, kT [iV a, iV v])]) :=
  Tri.of mixedT cxM_ok 60 200 (ans := [.t, .v (some 22) (.ptr 0 (0 + i * 2)) (hp29 CS O T), .v (some 23) (.agg [.int .i64 a, .int .i64 v]) (hp29 CS O T), .f, .f, .f, .f, .f, .t]) (ks := [4, 5]) (vs := [AV.snil, iV 131]) (p := (decide (Int.ofNat m ≤ a) = true) ∧ (decide (a < 0) = false) ∧ (decide (a < 0) = false) ∧ (decide (a < 0) = false) ∧ (decide (a < 0) = false) ∧ (decide (a < 0) = false) ∧ (GivesA cxM (hOf 3 [(0, kF CS), (1, kT O), (2, kT T)]) (CO.load 2 true (Opd.k (AV.ptr 0 (0 + i * 2)))) (AV.agg [iV a, iV v]) (hOf 3 [(0, kF CS), (1, kT O), (2, kT T)])) ∧ (GivesA cxM (hOf 3 [(0, kF CS), (1, kT O), (2, kT T)]) (CO.idxSl 2 (Opd.k (AV.sl 0 0 n cap 2)) (Opd.k (iV (Int.ofNat i)))) (AV.ptr 0 (0 + i * 2)) (hOf 3 [(0, kF CS), (1, kT O), (2, kT T)])) ∧ (decide (Int.ofNat i < Int.ofNat n) = true) ∧ (True)) (by kernel_rfl) ⟨L1, L2, L2, L2, L2, L2, L3, L4, L5, trivial⟩
theorem b29_two (cap : Option Nat) (m n i A : Nat) (v : Int) (CS O T : List AV) (L1 : GivesA cxM (hOf 4 [(0, kF CS), (1, kT O), (2, kT T), (3, kT [iV (Int.ofNat A), iV v])]) (CO.load 1 false (Opd.k (AV.ptr 2 (0 + A * 1)))) (AV.bool true) (hOf 4 [(0, kF CS), (1, kT O), (2, kT T), (3, kT [iV (Int.ofNat A), iV v])]))
    (L2 : GivesA cxM (hOf 4 [(0, kF CS), (1, kT O), (2, kT T), (3, kT [iV (Int.ofNat A), iV v])]) (CO.idxArr 64 1 (Opd.k (AV.ptr 2 0)) (Opd.k (iV (Int.ofNat A)))) (AV.ptr 2 (0 + A * 1)) (hOf 4 [(0, kF CS), (1, kT O), (2, kT T), (3, kT [iV (Int.ofNat A), iV v])]))
    (L3 : decide (Int.ofNat m ≤ Int.ofNat A) = false)
    (L4 : GivesA cxM (hOf 3 [(0, kF CS), (1, kT O), (2, kT T)]) (CO.load 2 true (Opd.k (AV.ptr 0 (0 + i * 2)))) (AV.agg [iV (Int.ofNat A), iV v]) (hOf 3 [(0, kF CS), (1, kT O), (2, kT T)]))
    (L5 : GivesA cxM (hOf 3 [(0, kF CS), (1, kT O), (2, kT T)]) (CO.idxSl 2 (Opd.k (AV.sl 0 0 n cap 2)) (Opd.k (iV (Int.ofNat i)))) (AV.ptr 0 (0 + i * 2)) (hOf 3 [(0, kF CS), (1, kT O), (2, kT T)]))
    (L6 : decide (Int.ofNat i < Int.ofNat n) = true) :
    Tri Tryz.prog 48 1 (lb29_0) (st29 cap m n i) (hp29 CS O T) (Fl.ret) (ofL [(4, AV.snil), (5, iV 61)]) (hOf 4 [(0, kF CS), (1, kT O), (2, kT T), (3, kT [iV (Int.ofNat A), iV v])]) :=
  Tri.of mixedT cxM_ok 60 200 (ans := [.t, .v (some 22) (.ptr 0 (0 + i * 2)) (hp29 CS O T), .v (some 23) (.agg [.int .i64 (.ofNat A), .int .i64 v]) (hp29 CS O T), .f, .f, .f, .f, .f, .f, .v (some 35) (.ptr 2 (0 + A * 1)) (hp29c CS O T (.ofNat A) v), .v (some 36) (.bool true) (hp29c CS O T (.ofNat A) v), .n]) (ks := [4, 5]) (vs := [AV.snil, iV 61]) (p := (GivesA cxM (hOf 4 [(0, kF CS), (1, kT O), (2, kT T), (3, kT [iV (Int.ofNat A), iV v])]) (CO.load 1 false (Opd.k (AV.ptr 2 (0 + A * 1)))) (AV.bool true) (hOf 4 [(0, kF CS), (1, kT O), (2, kT T), (3, kT [iV (Int.ofNat A), iV v])])) ∧ (GivesA cxM (hOf 4 [(0, kF CS), (1, kT O), (2, kT T), (3, kT [iV (Int.ofNat A), iV v])]) (CO.idxArr 64 1 (Opd.k (AV.ptr 2 0)) (Opd.k (iV (Int.ofNat A)))) (AV.ptr 2 (0 + A * 1)) (hOf 4 [(0, kF CS), (1, kT O), (2, kT T), (3, kT [iV (Int.ofNat A), iV v])])) ∧ (decide (Int.ofNat m ≤ Int.ofNat A) = false) ∧ (false = false) ∧ (false = false) ∧ (false = false) ∧ (false = false) ∧ (false = false) ∧ (GivesA cxM (hOf 3 [(0, kF CS), (1, kT O), (2, kT T)]) (CO.load 2 true (Opd.k (AV.ptr 0 (0 + i * 2)))) (AV.agg [iV (Int.ofNat A), iV v]) (hOf 3 [(0, kF CS), (1, kT O), (2, kT T)])) ∧ (GivesA cxM (hOf 3 [(0, kF CS), (1, kT O), (2, kT T)]) (CO.idxSl 2 (Opd.k (AV.sl 0 0 n cap 2)) (Opd.k (iV (Int.ofNat i)))) (AV.ptr 0 (0 + i * 2)) (hOf 3 [(0, kF CS), (1, kT O), (2, kT T)])) ∧ (decide (Int.ofNat i < Int.ofNat n) = true) ∧ (True)) (by kernel_rfl) ⟨L1, L2, L3, rfl, rfl, rfl, rfl, rfl, L4, L5, L6, trivial⟩
theorem b29_norm (cap : Option Nat) (m n i A : Nat) (v : Int) (CS O T : List AV) (L1 : GivesA cxM (hOf 4 [(0, kF CS), (1, kT (splice O (0 + A * 1) [iV v])), (2, kT (splice T (0 + A * 1) [AV.bool true])), (3, kT [iV (Int.ofNat A), iV v])]) (CO.bin BinOp.add EqC.plain (Opd.k (iV (Int.ofNat i))) (Opd.k (iV 1))) (iV (Int.ofNat (i + 1))) (hOf 4 [(0, kF CS), (1, kT (splice O (0 + A * 1) [iV v])), (2, kT (splice T (0 + A * 1) [AV.bool true])), (3, kT [iV (Int.ofNat A), iV v])]))
    (L2 : GivesA cxM (hOf 4 [(0, kF CS), (1, kT O), (2, kT (splice T (0 + A * 1) [AV.bool true])), (3, kT [iV (Int.ofNat A), iV v])]) (CO.store 1 (Opd.k (AV.ptr 1 (0 + A * 1))) (Opd.k (iV v))) (AV.tup []) (hOf 4 [(0, kF CS), (1, kT (splice O (0 + A * 1) [iV v])), (2, kT (splice T (0 + A * 1) [AV.bool true])), (3, kT [iV (Int.ofNat A), iV v])]))
    (L3 : GivesA cxM (hOf 4 [(0, kF CS), (1, kT O), (2, kT (splice T (0 + A * 1) [AV.bool true])), (3, kT [iV (Int.ofNat A), iV v])]) (CO.idxSl 1 (Opd.k (AV.sl 1 0 m none 1)) (Opd.k (iV (Int.ofNat A)))) (AV.ptr 1 (0 + A * 1)) (hOf 4 [(0, kF CS), (1, kT O), (2, kT (splice T (0 + A * 1) [AV.bool true])), (3, kT [iV (Int.ofNat A), iV v])]))
    (L4 : GivesA cxM (hOf 4 [(0, kF CS), (1, kT O), (2, kT T), (3, kT [iV (Int.ofNat A), iV v])]) (CO.store 1 (Opd.k (AV.ptr 2 (0 + A * 1))) (Opd.k (AV.bool true))) (AV.tup []) (hOf 4 [(0, kF CS), (1, kT O), (2, kT (splice T (0 + A * 1) [AV.bool true])), (3, kT [iV (Int.ofNat A), iV v])]))
    (L5 : GivesA cxM (hOf 4 [(0, kF CS), (1, kT O), (2, kT T), (3, kT [iV (Int.ofNat A), iV v])]) (CO.idxArr 64 1 (Opd.k (AV.ptr 2 0)) (Opd.k (iV (Int.ofNat A)))) (AV.ptr 2 (0 + A * 1)) (hOf 4 [(0, kF CS), (1, kT O), (2, kT T), (3, kT [iV (Int.ofNat A), iV v])]))
    (L6 : GivesA cxM (hOf 4 [(0, kF CS), (1, kT O), (2, kT T), (3, kT [iV (Int.ofNat A), iV v])]) (CO.load 1 false (Opd.k (AV.ptr 2 (0 + A * 1)))) (AV.bool false) (hOf 4 [(0, kF CS), (1, kT O), (2, kT T), (3, kT [iV (Int.ofNat A), iV v])]))
    (L7 : decide (Int.ofNat m ≤ Int.ofNat A) = false)
    (L8 : GivesA cxM (hOf 3 [(0, kF CS), (1, kT O), (2, kT T)]) (CO.load 2 true (Opd.k (AV.ptr 0 (0 + i * 2)))) (AV.agg [iV (Int.ofNat A), iV v]) (hOf 3 [(0, kF CS), (1, kT O), (2, kT T)]))
    (L9 : GivesA cxM (hOf 3 [(0, kF CS), (1, kT O), (2, kT T)]) (CO.idxSl 2 (Opd.k (AV.sl 0 0 n cap 2)) (Opd.k (iV (Int.ofNat i)))) (AV.ptr 0 (0 + i * 2)) (hOf 3 [(0, kF CS), (1, kT O), (2, kT T)]))
    (L10 : decide (Int.ofNat i < Int.ofNat n) = true) :
    Tri Tryz.prog 48 1 (lb29_0) (st29 cap m n i) (hp29 CS O T) (Fl.norm) (ofL [(0, iV (Int.ofNat m)), (6, AV.sl 1 0 m none 1), (7, AV.ptr 2 0), (18, AV.sl 0 0 n cap 2), (19, iV (Int.ofNat n)), (20, iV (Int.ofNat (i + 1)))]) (hOf 4 [(0, kF CS), (1, kT (splice O (0 + A * 1) [iV v])), (2, kT (splice T (0 + A * 1) [AV.bool true])), (3, kT [iV (Int.ofNat A), iV v])]) :=
  Tri.of mixedT cxM_ok 60 200 (ans := [.t, .v (some 22) (.ptr 0 (0 + i * 2)) (hp29 CS O T), .v (some 23) (.agg [.int .i64 (.ofNat A), .int .i64 v]) (hp29 CS O T), .f, .f, .f, .f, .f, .f, .v (some 35) (.ptr 2 (0 + A * 1)) (hp29c CS O T (.ofNat A) v), .v (some 36) (.bool false) (hp29c CS O T (.ofNat A) v), .n, .v (some 39) (.ptr 2 (0 + A * 1)) (hp29c CS O T (.ofNat A) v), .v none undefA (hp29c CS O (splice T (0 + A * 1) [.bool true]) (.ofNat A) v), .v (some 45) (.ptr 1 (0 + A * 1)) (hp29c CS O (splice T (0 + A * 1) [.bool true]) (.ofNat A) v), .v none undefA (hp29c CS (splice O (0 + A * 1) [.int .i64 v]) (splice T (0 + A * 1) [.bool true]) (.ofNat A) v), .v (some 46) (.int .i64 (.ofNat (i + 1))) (hp29c CS (splice O (0 + A * 1) [.int .i64 v]) (splice T (0 + A * 1) [.bool true]) (.ofNat A) v)]) (ks := [0, 6, 7, 18, 19, 20]) (vs := [iV (Int.ofNat m), AV.sl 1 0 m none 1, AV.ptr 2 0, AV.sl 0 0 n cap 2, iV (Int.ofNat n), iV (Int.ofNat (i + 1))]) (p := (GivesA cxM (hOf 4 [(0, kF CS), (1, kT (splice O (0 + A * 1) [iV v])), (2, kT (splice T (0 + A * 1) [AV.bool true])), (3, kT [iV (Int.ofNat A), iV v])]) (CO.bin BinOp.add EqC.plain (Opd.k (iV (Int.ofNat i))) (Opd.k (iV 1))) (iV (Int.ofNat (i + 1))) (hOf 4 [(0, kF CS), (1, kT (splice O (0 + A * 1) [iV v])), (2, kT (splice T (0 + A * 1) [AV.bool true])), (3, kT [iV (Int.ofNat A), iV v])])) ∧ (GivesA cxM (hOf 4 [(0, kF CS), (1, kT O), (2, kT (splice T (0 + A * 1) [AV.bool true])), (3, kT [iV (Int.ofNat A), iV v])]) (CO.store 1 (Opd.k (AV.ptr 1 (0 + A * 1))) (Opd.k (iV v))) (AV.tup []) (hOf 4 [(0, kF CS), (1, kT (splice O (0 + A * 1) [iV v])), (2, kT (splice T (0 + A * 1) [AV.bool true])), (3, kT [iV (Int.ofNat A), iV v])])) ∧ (GivesA cxM (hOf 4 [(0, kF CS), (1, kT O), (2, kT (splice T (0 + A * 1) [AV.bool true])), (3, kT [iV (Int.ofNat A), iV v])]) (CO.idxSl 1 (Opd.k (AV.sl 1 0 m none 1)) (Opd.k (iV (Int.ofNat A)))) (AV.ptr 1 (0 + A * 1)) (hOf 4 [(0, kF CS), (1, kT O), (2, kT (splice T (0 + A * 1) [AV.bool true])), (3, kT [iV (Int.ofNat A), iV v])])) ∧ (GivesA cxM (hOf 4 [(0, kF CS), (1, kT O), (2, kT T), (3, kT [iV (Int.ofNat A), iV v])]) (CO.store 1 (Opd.k (AV.ptr 2 (0 + A * 1))) (Opd.k (AV.bool true))) (AV.tup []) (hOf 4 [(0, kF CS), (1, kT O), (2, kT (splice T (0 + A * 1) [AV.bool true])), (3, kT [iV (Int.ofNat A), iV v])])) ∧ (GivesA cxM (hOf 4 [(0, kF CS), (1, kT O), (2, kT T), (3, kT [iV (Int.ofNat A), iV v])]) (CO.idxArr 64 1 (Opd.k (AV.ptr 2 0)) (Opd.k (iV (Int.ofNat A)))) (AV.ptr 2 (0 + A * 1)) (hOf 4 [(0, kF CS), (1, kT O), (2, kT T), (3, kT [iV (Int.ofNat A), iV v])])) ∧ (GivesA cxM (hOf 4 [(0, kF CS), (1, kT O), (2, kT T), (3, kT [iV (Int.ofNat A), iV v])]) (CO.load 1 false (Opd.k (AV.ptr 2 (0 + A * 1)))) (AV.bool false) (hOf 4 [(0, kF CS), (1, kT O), (2, kT T), (3, kT [iV (Int.ofNat A), iV v])])) ∧ (GivesA cxM (hOf 4 [(0, kF CS), (1, kT O), (2, kT T), (3, kT [iV (Int.ofNat A), iV v])]) (CO.idxArr 64 1 (Opd.k (AV.ptr 2 0)) (Opd.k (iV (Int.ofNat A)))) (AV.ptr 2 (0 + A * 1)) (hOf 4 [(0, kF CS), (1, kT O), (2, kT T), (3, kT [iV (Int.ofNat A), iV v])])) ∧ (decide (Int.ofNat m ≤ Int.ofNat A) = false) ∧ (false = false) ∧ (false = false) ∧ (false = false) ∧ (false = false) ∧ (false = false) ∧ (GivesA cxM (hOf 3 [(0, kF CS), (1, kT O), (2, kT T)]) (CO.load 2 true (Opd.k (AV.ptr 0 (0 + i * 2)))) (AV.agg [iV (Int.ofNat A), iV v]) (hOf 3 [(0, kF CS), (1, kT O), (2, kT T)])) ∧ (GivesA cxM (hOf 3 [(0, kF CS), (1, kT O), (2, kT T)]) (CO.idxSl 2 (Opd.k (AV.sl 0 0 n cap 2)) (Opd.k (iV (Int.ofNat i)))) (AV.ptr 0 (0 + i * 2)) (hOf 3 [(0, kF CS), (1, kT O), (2, kT T)])) ∧ (decide (Int.ofNat i < Int.ofNat n) = true) ∧ (True)) (by kernel_rfl) ⟨L1, L2, L3, L4, L5, L6, L5, L7, rfl, rfl, rfl, rfl, rfl, L8, L9, L10, trivial⟩
theorem m29_low (w : Int) (cs : AV) (h : H) (L1 : decide (w < 1) = true) :
    Tri Tryz.prog 48 0 (cc29) (putArgs [.int .i64 w, cs] 0 .leaf) (h) (Fl.ret) (ofL [(4, AV.snil), (5, iV 130)]) (h) :=
  Tri.of mixedT cxM_ok 60 200 (ans := [.t, .t, .t, .t]) (ks := [4, 5]) (vs := [AV.snil, iV 130]) (p := (true = true) ∧ (decide (w < 1) = true) ∧ (decide (w < 1) = true) ∧ (decide (w < 1) = true) ∧ (True)) (by kernel_rfl) ⟨rfl, L1, L1, L1, trivial⟩
theorem m29_hi (w : Int) (cs : AV) (h : H) (L1 : decide (64 < w) = true)
    (L2 : decide (w < 1) = false) :
    Tri Tryz.prog 48 0 (cc29) (putArgs [.int .i64 w, cs] 0 .leaf) (h) (Fl.ret) (ofL [(4, AV.snil), (5, iV 130)]) (h) :=
  Tri.of mixedT cxM_ok 60 200 (ans := [.f, .f, .f, .t]) (ks := [4, 5]) (vs := [AV.snil, iV 130]) (p := (decide (64 < w) = true) ∧ (decide (w < 1) = false) ∧ (decide (w < 1) = false) ∧ (decide (w < 1) = false) ∧ (True)) (by kernel_rfl) ⟨L1, L2, L2, L2, trivial⟩
theorem m29_nil (m : Nat) (L1 : GivesA cxM (hOf 0 []) (CO.mkSl 1 8 [iV 0] (Opd.k (iV (Int.ofNat m))) (Opd.k (iV (Int.ofNat m)))) (AV.sl 0 0 m none 1) (hOf 1 [(0, kT (repA m [iV 0]))]))
    (L2 : decide (64 < Int.ofNat m) = false)
    (L3 : decide (Int.ofNat m < 1) = false) :
    Tri Tryz.prog 48 0 (cc29) (putArgs [.int .i64 (.ofNat m), .esl] 0 .leaf) (hOf 0 []) (Fl.ret) (ofL [(4, AV.sl 0 0 m none 1), (5, iV 0)]) (hOf 2 [(0, kT (repA m [iV 0])), (1, kT [AV.bool false, AV.bool false, AV.bool false, AV.bool false, AV.bool false, AV.bool false, AV.bool false, AV.bool false, AV.bool false, AV.bool false, AV.bool false, AV.bool false, AV.bool false, AV.bool false, AV.bool false, AV.bool false, AV.bool false, AV.bool false, AV.bool false, AV.bool false, AV.bool false, AV.bool false, AV.bool false, AV.bool false, AV.bool false, AV.bool false, AV.bool false, AV.bool false, AV.bool false, AV.bool false, AV.bool false, AV.bool false, AV.bool false, AV.bool false, AV.bool false, AV.bool false, AV.bool false, AV.bool false, AV.bool false, AV.bool false, AV.bool false, AV.bool false, AV.bool false, AV.bool false, AV.bool false, AV.bool false, AV.bool false, AV.bool false, AV.bool false, AV.bool false, AV.bool false, AV.bool false, AV.bool false, AV.bool false, AV.bool false, AV.bool false, AV.bool false, AV.bool false, AV.bool false, AV.bool false, AV.bool false, AV.bool false, AV.bool false, AV.bool false])]) :=
  Tri.of mixedT cxM_ok 60 200 (ans := [.f, .f, .f, .f, .v (some 17) (.sl 0 0 m none 1) (hOf 1 [(0, kT (repA m [.int .i64 0]))]), .n]) (ks := [4, 5]) (vs := [AV.sl 0 0 m none 1, iV 0]) (p := (GivesA cxM (hOf 0 []) (CO.mkSl 1 8 [iV 0] (Opd.k (iV (Int.ofNat m))) (Opd.k (iV (Int.ofNat m)))) (AV.sl 0 0 m none 1) (hOf 1 [(0, kT (repA m [iV 0]))])) ∧ (decide (64 < Int.ofNat m) = false) ∧ (decide (Int.ofNat m < 1) = false) ∧ (decide (Int.ofNat m < 1) = false) ∧ (decide (Int.ofNat m < 1) = false) ∧ (True)) (by kernel_rfl) ⟨L1, L2, L3, L3, L3, trivial⟩
theorem m29_ok (cap : Option Nat) (m n : Nat) (e : Int) (CS O T : List AV) (h1 : H) (L1 : TriS Tryz.prog 48 1 lb29_0.loop (ofL [(0, iV (Int.ofNat m)), (6, AV.sl 1 0 m none 1), (7, AV.ptr 2 0), (18, AV.sl 0 0 n cap 2), (19, iV (Int.ofNat n)), (20, iV 0)]) (hOf 3 [(0, kF CS), (1, kT (repA m [iV 0])), (2, kT [AV.bool false, AV.bool false, AV.bool false, AV.bool false, AV.bool false, AV.bool false, AV.bool false, AV.bool false, AV.bool false, AV.bool false, AV.bool false, AV.bool false, AV.bool false, AV.bool false, AV.bool false, AV.bool false, AV.bool false, AV.bool false, AV.bool false, AV.bool false, AV.bool false, AV.bool false, AV.bool false, AV.bool false, AV.bool false, AV.bool false, AV.bool false, AV.bool false, AV.bool false, AV.bool false, AV.bool false, AV.bool false, AV.bool false, AV.bool false, AV.bool false, AV.bool false, AV.bool false, AV.bool false, AV.bool false, AV.bool false, AV.bool false, AV.bool false, AV.bool false, AV.bool false, AV.bool false, AV.bool false, AV.bool false, AV.bool false, AV.bool false, AV.bool false, AV.bool false, AV.bool false, AV.bool false, AV.bool false, AV.bool false, AV.bool false, AV.bool false, AV.bool false, AV.bool false, AV.bool false, AV.bool false, AV.bool false, AV.bool false, AV.bool false])]) (Fl.exit 0) (ofL [(6, AV.sl 1 0 m none 1)]) (hOf 3 [(0, kF CS), (1, kT O), (2, kT T)]))
    (L2 : GivesA cxM (hOf 1 [(0, kF CS)]) (CO.mkSl 1 8 [iV 0] (Opd.k (iV (Int.ofNat m))) (Opd.k (iV (Int.ofNat m)))) (AV.sl 1 0 m none 1) (hOf 2 [(0, kF CS), (1, kT (repA m [iV 0]))]))
    (L3 : decide (64 < Int.ofNat m) = false)
    (L4 : decide (Int.ofNat m < 1) = false) :
    Tri Tryz.prog 48 1 (cc29) (putArgs [.int .i64 (.ofNat m), .sl 0 0 n cap 2] 0 .leaf) (hOf 1 [(0, kF CS)]) (Fl.ret) (ofL [(4, AV.sl 1 0 m none 1), (5, iV 0)]) (hOf 3 [(0, kF CS), (1, kT O), (2, kT T)]) :=
  Tri.of mixedT cxM_ok 60 200 (ans := [.f, .f, .f, .f, .v (some 17) (.sl 1 0 m none 1) (hOf 2 [(0, kF CS), (1, kT (repA m [.int .i64 0]))]), .l [0, 6, 7, 18, 19, 20] (.exit 0) [(6, .sl 1 0 m none 1)] (hp29 CS O T)]) (ks := [4, 5]) (vs := [AV.sl 1 0 m none 1, iV 0]) (p := (TriS Tryz.prog 48 1 lb29_0.loop (ofL [(0, iV (Int.ofNat m)), (6, AV.sl 1 0 m none 1), (7, AV.ptr 2 0), (18, AV.sl 0 0 n cap 2), (19, iV (Int.ofNat n)), (20, iV 0)]) (hOf 3 [(0, kF CS), (1, kT (repA m [iV 0])), (2, kT [AV.bool false, AV.bool false, AV.bool false, AV.bool false, AV.bool false, AV.bool false, AV.bool false, AV.bool false, AV.bool false, AV.bool false, AV.bool false, AV.bool false, AV.bool false, AV.bool false, AV.bool false, AV.bool false, AV.bool false, AV.bool false, AV.bool false, AV.bool false, AV.bool false, AV.bool false, AV.bool false, AV.bool false, AV.bool false, AV.bool false, AV.bool false, AV.bool false, AV.bool false, AV.bool false, AV.bool false, AV.bool false, AV.bool false, AV.bool false, AV.bool false, AV.bool false, AV.bool false, AV.bool false, AV.bool false, AV.bool false, AV.bool false, AV.bool false, AV.bool false, AV.bool false, AV.bool false, AV.bool false, AV.bool false, AV.bool false, AV.bool false, AV.bool false, AV.bool false, AV.bool false, AV.bool false, AV.bool false, AV.bool false, AV.bool false, AV.bool false, AV.bool false, AV.bool false, AV.bool false, AV.bool false, AV.bool false, AV.bool false, AV.bool false])]) (Fl.exit 0) (ofL [(6, AV.sl 1 0 m none 1)]) (hOf 3 [(0, kF CS), (1, kT O), (2, kT T)])) ∧ (GivesA cxM (hOf 1 [(0, kF CS)]) (CO.mkSl 1 8 [iV 0] (Opd.k (iV (Int.ofNat m))) (Opd.k (iV (Int.ofNat m)))) (AV.sl 1 0 m none 1) (hOf 2 [(0, kF CS), (1, kT (repA m [iV 0]))])) ∧ (decide (64 < Int.ofNat m) = false) ∧ (decide (Int.ofNat m < 1) = false) ∧ (decide (Int.ofNat m < 1) = false) ∧ (decide (Int.ofNat m < 1) = false) ∧ (True)) (by kernel_rfl) ⟨L1, L2, L3, L4, L4, L4, trivial⟩
theorem m29_err (cap : Option Nat) (m n : Nat) (e : Int) (CS O T : List AV) (h1 : H) (L1 : TriS Tryz.prog 48 1 lb29_0.loop (ofL [(0, iV (Int.ofNat m)), (6, AV.sl 1 0 m none 1), (7, AV.ptr 2 0), (18, AV.sl 0 0 n cap 2), (19, iV (Int.ofNat n)), (20, iV 0)]) (hOf 3 [(0, kF CS), (1, kT (repA m [iV 0])), (2, kT [AV.bool false, AV.bool false, AV.bool false, AV.bool false, AV.bool false, AV.bool false, AV.bool false, AV.bool false, AV.bool false, AV.bool false, AV.bool false, AV.bool false, AV.bool false, AV.bool false, AV.bool false, AV.bool false, AV.bool false, AV.bool false, AV.bool false, AV.bool false, AV.bool false, AV.bool false, AV.bool false, AV.bool false, AV.bool false, AV.bool false, AV.bool false, AV.bool false, AV.bool false, AV.bool false, AV.bool false, AV.bool false, AV.bool false, AV.bool false, AV.bool false, AV.bool false, AV.bool false, AV.bool false, AV.bool false, AV.bool false, AV.bool false, AV.bool false, AV.bool false, AV.bool false, AV.bool false, AV.bool false, AV.bool false, AV.bool false, AV.bool false, AV.bool false, AV.bool false, AV.bool false, AV.bool false, AV.bool false, AV.bool false, AV.bool false, AV.bool false, AV.bool false, AV.bool false, AV.bool false, AV.bool false, AV.bool false, AV.bool false, AV.bool false])]) Fl.ret (ofL [(4, AV.snil), (5, iV e)]) h1)
    (L2 : GivesA cxM (hOf 1 [(0, kF CS)]) (CO.mkSl 1 8 [iV 0] (Opd.k (iV (Int.ofNat m))) (Opd.k (iV (Int.ofNat m)))) (AV.sl 1 0 m none 1) (hOf 2 [(0, kF CS), (1, kT (repA m [iV 0]))]))
    (L3 : decide (64 < Int.ofNat m) = false)
    (L4 : decide (Int.ofNat m < 1) = false) :
    Tri Tryz.prog 48 1 (cc29) (putArgs [.int .i64 (.ofNat m), .sl 0 0 n cap 2] 0 .leaf) (hOf 1 [(0, kF CS)]) (Fl.ret) (ofL [(4, AV.snil), (5, iV e)]) (h1) :=
  Tri.of mixedT cxM_ok 60 200 (ans := [.f, .f, .f, .f, .v (some 17) (.sl 1 0 m none 1) (hOf 2 [(0, kF CS), (1, kT (repA m [.int .i64 0]))]), .l [0, 6, 7, 18, 19, 20] (.ret) [(4, .snil), (5, .int .i64 e)] h1]) (ks := [4, 5]) (vs := [AV.snil, iV e]) (p := (TriS Tryz.prog 48 1 lb29_0.loop (ofL [(0, iV (Int.ofNat m)), (6, AV.sl 1 0 m none 1), (7, AV.ptr 2 0), (18, AV.sl 0 0 n cap 2), (19, iV (Int.ofNat n)), (20, iV 0)]) (hOf 3 [(0, kF CS), (1, kT (repA m [iV 0])), (2, kT [AV.bool false, AV.bool false, AV.bool false, AV.bool false, AV.bool false, AV.bool false, AV.bool false, AV.bool false, AV.bool false, AV.bool false, AV.bool false, AV.bool false, AV.bool false, AV.bool false, AV.bool false, AV.bool false, AV.bool false, AV.bool false, AV.bool false, AV.bool false, AV.bool false, AV.bool false, AV.bool false, AV.bool false, AV.bool false, AV.bool false, AV.bool false, AV.bool false, AV.bool false, AV.bool false, AV.bool false, AV.bool false, AV.bool false, AV.bool false, AV.bool false, AV.bool false, AV.bool false, AV.bool false, AV.bool false, AV.bool false, AV.bool false, AV.bool false, AV.bool false, AV.bool false, AV.bool false, AV.bool false, AV.bool false, AV.bool false, AV.bool false, AV.bool false, AV.bool false, AV.bool false, AV.bool false, AV.bool false, AV.bool false, AV.bool false, AV.bool false, AV.bool false, AV.bool false, AV.bool false, AV.bool false, AV.bool false, AV.bool false, AV.bool false])]) Fl.ret (ofL [(4, AV.snil), (5, iV e)]) h1) ∧ (GivesA cxM (hOf 1 [(0, kF CS)]) (CO.mkSl 1 8 [iV 0] (Opd.k (iV (Int.ofNat m))) (Opd.k (iV (Int.ofNat m)))) (AV.sl 1 0 m none 1) (hOf 2 [(0, kF CS), (1, kT (repA m [iV 0]))])) ∧ (decide (64 < Int.ofNat m) = false) ∧ (decide (Int.ofNat m < 1) = false) ∧ (decide (Int.ofNat m < 1) = false) ∧ (decide (Int.ofNat m < 1) = false) ∧ (True)) (by kernel_rfl) ⟨L1, L2, L3, L4, L4, L4, trivial⟩
end Go.Ab
/- mem.Of: its error, for any cells; whatever it returns ahead of the error, nothing that was there changes. -/
namespace Go.Ab
open Go.Proofs Go.RowKit
def memG (w : Int) : List Int → List (Int × Int) → Int
  | _, [] => 0
  | seen, c :: r => if c.1 < 0 ∨ w ≤ c.1 then 131 else if c.1 ∈ seen then 61 else memG w (c.1 :: seen) r
def memE (w : Int) (l : List (Int × Int)) : Int := if w < 1 ∨ 64 < w then 130 else memG w [] l
theorem dTr {p : Prop} [Decidable p] (h : p) : decide p = true := decide_eq_true h
theorem dFa {p : Prop} [Decidable p] (h : ¬ p) : decide p = false := decide_eq_false h
theorem loop29 {cap : Option Nat} {m n : Nat} {l : List (Int × Int)} (hn : n = l.length) (hm : m ≤ 64) :
    ∀ (r : List (Int × Int)) (i : Nat) (seen : List Int) (O T : List AV), l.drop i = r → i ≤ n → O.length = m → T.length = 64 → (∀ A, A < 64 → T[A]? = some (.bool (decide ((A : Int) ∈ seen)))) →
      seen.Nodup → seen.length = i → (∀ x ∈ seen, 0 ≤ x ∧ x < ((64 : Nat) : Int)) → ltL 0 O = true → ltL 0 T = true →
      (memG m seen r = 0 → ∃ O' T', Tri Tryz.prog 48 1 (.loop lb29_0) (st29 cap m n i) (hp29 (cell2 l) O T) (.exit 0) (ofL [(6, .sl 1 0 m none 1)]) (hp29 (cell2 l) O' T')) ∧
      (memG m seen r ≠ 0 → Tri Tryz.prog 48 1 (.loop lb29_0) (st29 cap m n i) (hp29 (cell2 l) O T) .ret (ofL [(4, .snil), (5, .int .i64 (memG m seen r))]) (hOf 1 [(0, .cells false (cell2 l))])) := by
  intro r
  induction r with
  | nil =>
    intro i seen O T hd hi hO hT hTs hnd hsl hsb fO fT
    have hlen : l.length ≤ i := by
      rcases Nat.lt_or_ge i l.length with q | q
      · have := congrArg List.length hd; simp at this; omega
      · exact q
    refine ⟨fun _ => ⟨O, T, (b29_end cap m n i (cell2 l) O T (dFa (by simp; omega))).loopStop (by intro h; cases h)⟩, fun h => absurd rfl h⟩
  | cons c r ih =>
    intro i seen O T hd hi hO hT hTs hnd hsl hsb fO fT
    obtain ⟨a, v⟩ := c
    have hil : i < l.length := by
      rcases Nat.lt_or_ge i l.length with q | q
      · exact q
      · rw [List.drop_eq_nil_of_le q] at hd; cases hd
    have hget : l[i]? = some (a, v) := by
      have := congrArg (fun x => x[0]?) hd
      simpa using this
    have hdrop : l.drop (i + 1) = r := by
      have := congrArg List.tail hd
      simpa using this
    have hin : i < n := by omega
    have L0 : decide (Int.ofNat i < Int.ofNat n) = true := dTr (by simp; omega)
    have hsi : seen.length ≤ 64 := pigeons 64 seen hnd hsb
    have gI : ∀ h, GivesA cxM h (.idxSl 2 (.k (.sl 0 0 n cap 2)) (.k (.int .i64 (.ofNat i)))) (.ptr 0 (0 + i * 2)) h := fun h => g_idxSl hin
    have gL : GivesA cxM (hp29 (cell2 l) O T) (.load 2 true (.k (.ptr 0 (0 + i * 2)))) (.agg [.int .i64 a, .int .i64 v]) (hp29 (cell2 l) O T) := g_load (cs := cell2 l) rfl (cell2_part hget)
    have back : ∀ {e : Int}, Tri Tryz.prog 48 1 lb29_0 (st29 cap m n i) (hp29 (cell2 l) O T) .ret (ofL [(4, .snil), (5, .int .i64 e)]) (hOf 4 [(0, .cells false (cell2 l)), (1, .cells true O), (2, .cells true T), (3, .cells true [.int .i64 a, .int .i64 v])]) →
        Tri Tryz.prog 48 1 (.loop lb29_0) (st29 cap m n i) (hp29 (cell2 l) O T) .ret (ofL [(4, .snil), (5, .int .i64 e)]) (hOf 1 [(0, .cells false (cell2 l))]) := by
      intro e t
      refine (t.loopStop (by intro h; cases h)).ren trivial (RenOk.of (r := []) rfl rfl rfl rfl ⟨rfl, rfl, trivial⟩ ⟨⟨rfl, _, rfl, RB.free (cell2_free 0 l)⟩, trivial⟩)
    by_cases h1 : a < 0
    · have e : memG m seen ((a, v) :: r) = 131 := by simp [memG, h1]
      rw [e]
      exact ⟨fun h => (by cases h), fun _ => back (b29_neg cap m n i a v (cell2 l) O T (dTr h1) gL (gI _) L0)⟩
    · by_cases h2 : (m : Int) ≤ a
      · have e : memG m seen ((a, v) :: r) = 131 := by simp [memG, h2]
        rw [e]
        exact ⟨fun h => (by cases h), fun _ => back (b29_big cap m n i a v (cell2 l) O T (dTr h2) (dFa h1) gL (gI _) L0)⟩
      · obtain ⟨A, rfl⟩ : ∃ A : Nat, a = Int.ofNat A := ⟨a.toNat, by simp; omega⟩
        have hA : A < 64 := by simp at h2; omega
        have hAm : A < m := by simp at h2; omega
        have L2 : decide (Int.ofNat m ≤ Int.ofNat A) = false := dFa h2
        by_cases h3 : Int.ofNat A ∈ seen
        · have e : memG m seen ((Int.ofNat A, v) :: r) = 61 := by
            simp only [memG]
            rw [if_neg (by omega), if_pos h3]
          rw [e]
          refine ⟨fun h => (by cases h), fun _ => back (b29_two cap m n i A v (cell2 l) O T ?_ (g_idxArr hA) L2 gL (gI _) L0)⟩
          refine g_load (cs := T) rfl ?_
          rw [show 0 + A * 1 = A by omega]
          simp only [partA]
          rw [hTs A hA, dTr (show (A : Int) ∈ seen from h3)]
        · have e : memG m seen ((Int.ofNat A, v) :: r) = memG m (Int.ofNat A :: seen) r := by
            conv => lhs; simp only [memG]
            rw [if_neg (by omega), if_neg h3]
          rw [e]
          have lT : (splice T (0 + A * 1) [.bool true]).length = T.length := splice_len (by simp; omega)
          have lO : (splice O (0 + A * 1) [.int .i64 v]).length = O.length := splice_len (by simp; omega)
          have body := b29_norm cap m n i A v (cell2 l) O T (g_inc (by omega))
            (g_store (cs := O) rfl rfl (by simp [AV.cells]; omega) rfl (by kernel_rfl)) (g_idxSl hAm)
            (g_store (cs := T) rfl rfl (by simp [AV.cells]; omega) rfl (by kernel_rfl)) (g_idxArr hA)
            (g_load (cs := T) rfl (by
              rw [show 0 + A * 1 = A by omega]
              simp only [partA]
              rw [hTs A hA, dFa (show ¬ (A : Int) ∈ seen from h3)])) L2 gL (gI _) L0
          have body2 : Tri Tryz.prog 48 1 lb29_0 (st29 cap m n i) (hp29 (cell2 l) O T) .norm (st29 cap m n (i + 1)) (hp29 (cell2 l) (splice O (0 + A * 1) [.int .i64 v]) (splice T (0 + A * 1) [.bool true])) :=
            body.ren trivial (RenOk.of (r := []) rfl rfl rfl rfl ⟨rfl, rfl, rfl, rfl, rfl, rfl, trivial⟩
              ⟨⟨rfl, _, rfl, RB.free (cell2_free 0 l)⟩, ⟨rfl, _, rfl, RB.free (ltL_splice fO rfl)⟩, ⟨rfl, _, rfl, RB.free (ltL_splice fT rfl)⟩, trivial⟩)
          obtain ⟨k1, k2⟩ := ih (i + 1) (Int.ofNat A :: seen) (splice O (0 + A * 1) [.int .i64 v]) (splice T (0 + A * 1) [.bool true]) hdrop (by omega) (by omega) (by omega)
            (by
              intro B hB
              rw [show 0 + A * 1 = A by omega, splice_get1 (by omega)]
              by_cases q : B = A
              · subst q; rw [if_pos rfl, dTr]; simp
              · rw [if_neg q, hTs B hB]
                congr 2
                simp only [List.mem_cons, decide_eq_decide]
                constructor
                · exact .inr
                · rintro (h | h)
                  · simp at h; exact absurd (by exact_mod_cast h) q
                  · exact h)
            (List.nodup_cons.2 ⟨h3, hnd⟩) (by simp [hsl]) (by
              intro x hx
              rcases List.mem_cons.1 hx with rfl | hx
              · simp; omega
              · exact hsb x hx) (ltL_splice fO rfl) (ltL_splice fT rfl)
          refine ⟨fun h => ?_, fun h => body2.loopNext (k2 h)⟩
          obtain ⟨O', T', t⟩ := k1 h
          exact ⟨O', T', body2.loopNext t⟩
theorem told64 : ([AV.bool false, AV.bool false, AV.bool false, AV.bool false, AV.bool false, AV.bool false, AV.bool false, AV.bool false, AV.bool false, AV.bool false, AV.bool false, AV.bool false, AV.bool false, AV.bool false, AV.bool false, AV.bool false, AV.bool false, AV.bool false, AV.bool false, AV.bool false, AV.bool false, AV.bool false, AV.bool false, AV.bool false, AV.bool false, AV.bool false, AV.bool false, AV.bool false, AV.bool false, AV.bool false, AV.bool false, AV.bool false, AV.bool false, AV.bool false, AV.bool false, AV.bool false, AV.bool false, AV.bool false, AV.bool false, AV.bool false, AV.bool false, AV.bool false, AV.bool false, AV.bool false, AV.bool false, AV.bool false, AV.bool false, AV.bool false, AV.bool false, AV.bool false, AV.bool false, AV.bool false, AV.bool false, AV.bool false, AV.bool false, AV.bool false, AV.bool false, AV.bool false, AV.bool false, AV.bool false, AV.bool false, AV.bool false, AV.bool false, AV.bool false] : List AV) = List.replicate 64 (AV.bool false) := by kernel_rfl
theorem comp29 : comp Tryz.prog Tryz.f29 = some cf29 := by kernel_rfl
theorem con29 {cap : Option Nat} (w : Int) (l : List (Int × Int)) (n : Nat) (hn : n = l.length) : ∃ k v h', Con Tryz.prog k 29 [.int .i64 w, .sl 0 0 n cap 2] (hOf 1 [(0, .cells false (cell2 l))]) (.tup [v, .int .i64 (memE w l)]) h' := by
  by_cases h1 : w < 1
  · rw [show memE w l = 130 by simp [memE, h1]]
    exact ⟨0, .snil, _, (m29_low w (.sl 0 0 n cap 2) _ (dTr h1)).con (fl := .ret) Tryz.func29 comp29 rfl (.inr rfl) rfl⟩
  · by_cases h2 : 64 < w
    · rw [show memE w l = 130 by simp [memE, h2]]
      exact ⟨0, .snil, _, (m29_hi w (.sl 0 0 n cap 2) _ (dTr h2) (dFa h1)).con (fl := .ret) Tryz.func29 comp29 rfl (.inr rfl) rfl⟩
    · obtain ⟨m, rfl⟩ : ∃ m : Nat, w = Int.ofNat m := ⟨w.toNat, by simp; omega⟩
      have hm : m ≤ 64 := by simp at h2; omega
      have e : memE (Int.ofNat m) l = memG (Int.ofNat m) [] l := by
        unfold memE; rw [if_neg (by omega)]
      rw [e]
      have hmx : (64 : Nat) * 8 ≤ maxRow := by decide
      have gM : GivesA cxM (hOf 1 [(0, Bk.cells false (cell2 l))]) (CO.mkSl 1 8 [AV.int IntKind.i64 0] (Opd.k (AV.int IntKind.i64 (Int.ofNat m))) (Opd.k (AV.int IntKind.i64 (Int.ofNat m)))) (AV.sl 1 0 m none 1) (hOf 2 [(0, Bk.cells false (cell2 l)), (1, Bk.cells true (repA m [AV.int IntKind.i64 0]))]) := by
        have := g_mkSl (cx := cxM) (h := hOf 1 [(0, Bk.cells false (cell2 l))]) (z := 1) (b := 8) (m := m) (zero := [AV.int IntKind.i64 0]) (k := .i64) (k' := .i64) (by omega) (by omega)
        exact this
      have lp := loop29 (cap := cap) (m := m) hn hm l 0 [] (repA m [AV.int IntKind.i64 0]) (List.replicate 64 (AV.bool false)) rfl (Nat.zero_le _) (rep1_len _ _) rfl
        (by intro A hA; rw [List.getElem?_replicate, if_pos hA, dFa (by simp)]) List.nodup_nil rfl (by simp) (ltL_rep rfl) rfl
      by_cases hz : memG (m : Int) [] l = 0
      · obtain ⟨O, T, t⟩ := lp.1 hz
        refine ⟨1, .sl 1 0 m none 1, hp29 (cell2 l) O T, ?_⟩
        rw [show memG (Int.ofNat m) [] l = 0 from hz]
        refine (m29_ok cap m n 0 (cell2 l) O T (hOf 0 []) ⟨?_⟩ gM (dFa h2) (dFa h1)).con (fl := .ret) Tryz.func29 comp29 rfl (.inr rfl) rfl
        rw [told64]; exact t
      · refine ⟨1, .snil, hOf 1 [(0, .cells false (cell2 l))], ?_⟩
        refine (m29_err cap m n (memG (Int.ofNat m) [] l) (cell2 l) [] [] _ ⟨?_⟩ gM (dFa h2) (dFa h1)).con (fl := .ret) Tryz.func29 comp29 rfl (.inr rfl) rfl
        rw [told64]; exact lp.2 hz
theorem con29_nil (w : Int) : ∃ k v h', Con Tryz.prog k 29 [.int .i64 w, .esl] (hOf 0 []) (.tup [v, .int .i64 (memE w [])]) h' := by
  by_cases h1 : w < 1
  · rw [show memE w [] = 130 by simp [memE, h1]]
    exact ⟨0, .snil, _, (m29_low w .esl _ (dTr h1)).con (fl := .ret) Tryz.func29 comp29 rfl (.inr rfl) rfl⟩
  · by_cases h2 : 64 < w
    · rw [show memE w [] = 130 by simp [memE, h2]]
      exact ⟨0, .snil, _, (m29_hi w .esl _ (dTr h2) (dFa h1)).con (fl := .ret) Tryz.func29 comp29 rfl (.inr rfl) rfl⟩
    · obtain ⟨m, rfl⟩ : ∃ m : Nat, w = Int.ofNat m := ⟨w.toNat, by simp; omega⟩
      have hm : m ≤ 64 := by simp at h2; omega
      have e : memE (Int.ofNat m) [] = 0 := by
        unfold memE; rw [if_neg (by omega)]; rfl
      rw [e]
      have hmx : (64 : Nat) * 8 ≤ maxRow := by decide
      exact ⟨0, _, _, (m29_nil m (g_mkSl (h := hOf 0 []) (by omega) (by omega)) (dFa h2) (dFa h1)).con (fl := .ret) Tryz.func29 comp29 rfl (.inr rfl) rfl⟩
theorem con_calls {k f n : Nat} {args : List AV} {args' : List Value} {l : List (Nat × Bk)} {v : AV} {e : Int} {h' : H} {σ : Ren} {w : World} (c : Con Tryz.prog k f args (hOf n l) (.tup [v, .int .i64 e]) h') (hl : ∀ b x, (b, x) ∈ l → ∃ cs, x = .cells false cs)
    (hh : HR σ (hOf n l) w) (ha : LR σ args args') (hu : Up σ n) : Calls Tryz.prog f args'.toArray w fun e' w' => (∃ v_ : Value, e' = .returned (.tuple #[v_, .int .i64 e])) ∧ Below w.heap.size w w' := by
  refine (c σ w args' hh ha hu).2.mono ?_
  rintro e' w' ⟨v', σ', rfl, hv, _, _, _, hf⟩
  refine ⟨?_, hf.below0 hl⟩
  cases hv with
  | tup h1 h2 =>
    rename_i ds
    obtain ⟨l⟩ := ds
    match l, h1, h2 with
    | [v0, v1], _, h2 =>
      have := h2 1 (.int .i64 e) v1 rfl rfl
      cases this
      exact ⟨v0, rfl⟩
theorem mem_calls (a0 : Int) (l : List (Int × Int)) (A : Option Addr) (c : Nat) (w : World) (hc : l.length ≤ c)
    (hcell : 0 < l.length → ∃ ad, A = some ad ∧ ∀ j p, l[j]? = some p → w.cell? (ad.add (j * 2)) = some (.int .i64 p.1) ∧ w.cell? (ad.add (j * 2 + 1)) = some (.int .i64 p.2)) :
    Calls Tryz.prog 29 #[.int .i64 a0, .slice A l.length c] w fun e w' => (∃ v_ : Value, e = .returned (.tuple #[v_, .int .i64 (memE a0 l)])) ∧ Below w.heap.size w w' := by
  by_cases hl : 0 < l.length
  · obtain ⟨ad, rfl, hcs⟩ := hcell hl
    obtain ⟨L, e1, e2, hh⟩ := hr_row (ad.off + c * 2) (w := w) (ad := ad) (cs := cell2 l) (vals := l.flatMap fun c => [.int .i64 c.1, .int .i64 c.2]) (by rw [flat2_len]; omega)
      (by
        intro i v hv
        obtain ⟨p, h1, h2⟩ := flat2_get hv
        obtain ⟨h3, h4⟩ := hcs _ p h1
        rcases h2 with ⟨q, rfl⟩ | ⟨q, rfl⟩
        · rw [show i = i / 2 * 2 by omega]; exact h3
        · rw [show i = i / 2 * 2 + 1 by omega]; exact h4) (fun σ => cell2_lr σ l)
    subst e1
    obtain ⟨k, v, h', c1⟩ := con29 (cap := none) a0 l l.length rfl
    refine con_calls (args' := [.int .i64 a0, .slice (some ⟨L.blk, L.base, none⟩) l.length c]) c1 (by intro b x h; simp at h; exact ⟨_, h.2⟩) hh (.cons (.int _ _) (.cons (.sl (L := L) rfl hc (by intro k hk; cases hk) (by omega) e2 (.inr rfl)) (.nil _))) (one0_up L (cell2 l))
  · obtain rfl : l = [] := by cases l with | nil => rfl | cons a r => simp at hl
    obtain ⟨k, v, h', c1⟩ := con29_nil a0
    refine con_calls (σ := fun _ => none) (args' := [.int .i64 a0, .slice A 0 c]) c1 (by intro b x h; cases h) (HR.none 0 w) (.cons (.int _ _) (.cons (.esl A c) (.nil _))) (fun _ _ => rfl)
end Go.Ab
set_option maxRecDepth 100000
namespace Go.Ab
open Go.Proofs
def zeroI (op : Int) : Int := if op = 2 then 1 else if op = 3 then 9223372036854775807 else if op = 4 then -9223372036854775808 else if op = 5 then -1 else 0
def redA (l : List (Int × Int)) : List AV := l.flatMap fun c => [.int .i64 c.1, .int .i64 c.2]
theorem r30_1_0_no (cap : Option Nat) (a0 b0 : Int) (L1 : PureA cxM (CO.call (Opd.k (AV.fn 70 [] [])) [Opd.k (iV a0)]) (AV.bool false)) :
    Tri Tryz.prog 47 1 (cc30) (putArgs [.sl 0 0 1 cap 2] 0 .leaf) (hOf 1 [(0, kF [.int .i64 a0, .int .i64 b0])]) (Fl.ret) (ofL [(2, AV.pnil), (3, iV 140)]) (hOf 3 [(0, kF [iV a0, iV b0]), (1, kT [AV.snil, AV.snil, iV 0]), (2, kT [iV a0, iV b0])]) :=
  Tri.of mixedT cxM_ok 60 200 (ans := [.n, .n, .p (some 20) (.bool false), .n]) (ks := [2, 3]) (vs := [AV.pnil, iV 140]) (p := (PureA cxM (CO.call (Opd.k (AV.fn 70 [] [])) [Opd.k (iV a0)]) (AV.bool false)) ∧ (True)) (by kernel_rfl) ⟨L1, trivial⟩
theorem r30_1_ok (cap : Option Nat) (a0 b0 : Int) (L1 : ReadsV (hOf 5 [(0, kF [iV a0, iV b0]), (1, kT [AV.sl 4 0 1 none 1, AV.snil, iV 0]), (2, kT [iV a0, iV b0]), (3, kT [iV a0]), (4, kT [iV a0])]) (CO.load 1 false (Opd.k (AV.ptr 1 1))) AV.snil)
    (L2 : PureA cxM (CO.call (Opd.k (AV.fn 71 [] [])) [Opd.k (iV a0)]) (iV (zeroI a0)))
    (L3 : PureA cxM (CO.call (Opd.k (AV.fn 70 [] [])) [Opd.k (iV a0)]) (AV.bool true)) :
    Tri Tryz.prog 47 1 (cc30) (putArgs [.sl 0 0 1 cap 2] 0 .leaf) (hOf 1 [(0, kF [.int .i64 a0, .int .i64 b0])]) (Fl.ret) (ofL [(2, AV.ptr 1 0), (3, iV 0)]) (hOf 7 [(0, kF [iV a0, iV b0]), (1, kT [AV.sl 4 0 1 none 1, AV.sl 6 0 1 none 1, iV 0]), (2, kT [iV a0, iV b0]), (3, kT [iV a0]), (4, kT [iV a0]), (5, kT [iV (zeroI a0)]), (6, kT [iV (zeroI a0)])]) :=
  Tri.of mixedT cxM_ok 60 200 (ans := [.n, .n, .p (some 20) (.bool true), .n, .p (some 40) (.int .i64 (zeroI a0)), .n]) (ks := [2, 3]) (vs := [AV.ptr 1 0, iV 0]) (p := (ReadsV (hOf 5 [(0, kF [iV a0, iV b0]), (1, kT [AV.sl 4 0 1 none 1, AV.snil, iV 0]), (2, kT [iV a0, iV b0]), (3, kT [iV a0]), (4, kT [iV a0])]) (CO.load 1 false (Opd.k (AV.ptr 1 1))) AV.snil) ∧ (ReadsV (hOf 5 [(0, kF [iV a0, iV b0]), (1, kT [AV.sl 4 0 1 none 1, AV.snil, iV 0]), (2, kT [iV a0, iV b0]), (3, kT [iV a0]), (4, kT [iV a0])]) (CO.load 1 false (Opd.k (AV.ptr 1 1))) AV.snil) ∧ (PureA cxM (CO.call (Opd.k (AV.fn 71 [] [])) [Opd.k (iV a0)]) (iV (zeroI a0))) ∧ (PureA cxM (CO.call (Opd.k (AV.fn 70 [] [])) [Opd.k (iV a0)]) (AV.bool true)) ∧ (True)) (by kernel_rfl) ⟨L1, L1, L2, L3, trivial⟩
theorem r30_2_0_no (cap : Option Nat) (a0 b0 : Int) (a1 b1 : Int) (L1 : PureA cxM (CO.call (Opd.k (AV.fn 70 [] [])) [Opd.k (iV a0)]) (AV.bool false)) :
    Tri Tryz.prog 47 1 (cc30) (putArgs [.sl 0 0 2 cap 2] 0 .leaf) (hOf 1 [(0, kF [.int .i64 a0, .int .i64 b0, .int .i64 a1, .int .i64 b1])]) (Fl.ret) (ofL [(2, AV.pnil), (3, iV 140)]) (hOf 3 [(0, kF [iV a0, iV b0, iV a1, iV b1]), (1, kT [AV.snil, AV.snil, iV 0]), (2, kT [iV a0, iV b0])]) :=
  Tri.of mixedT cxM_ok 60 200 (ans := [.n, .n, .p (some 20) (.bool false), .n]) (ks := [2, 3]) (vs := [AV.pnil, iV 140]) (p := (PureA cxM (CO.call (Opd.k (AV.fn 70 [] [])) [Opd.k (iV a0)]) (AV.bool false)) ∧ (True)) (by kernel_rfl) ⟨L1, trivial⟩
theorem r30_2_1_no (cap : Option Nat) (a0 b0 : Int) (a1 b1 : Int) (L1 : PureA cxM (CO.call (Opd.k (AV.fn 70 [] [])) [Opd.k (iV a1)]) (AV.bool false))
    (L2 : ReadsV (hOf 5 [(0, kF [iV a0, iV b0, iV a1, iV b1]), (1, kT [AV.sl 4 0 1 none 1, AV.snil, iV 0]), (2, kT [iV a0, iV b0]), (3, kT [iV a0]), (4, kT [iV a0])]) (CO.load 1 false (Opd.k (AV.ptr 1 1))) AV.snil)
    (L3 : PureA cxM (CO.call (Opd.k (AV.fn 71 [] [])) [Opd.k (iV a0)]) (iV (zeroI a0)))
    (L4 : PureA cxM (CO.call (Opd.k (AV.fn 70 [] [])) [Opd.k (iV a0)]) (AV.bool true)) :
    Tri Tryz.prog 47 1 (cc30) (putArgs [.sl 0 0 2 cap 2] 0 .leaf) (hOf 1 [(0, kF [.int .i64 a0, .int .i64 b0, .int .i64 a1, .int .i64 b1])]) (Fl.ret) (ofL [(2, AV.pnil), (3, iV 140)]) (hOf 8 [(0, kF [iV a0, iV b0, iV a1, iV b1]), (1, kT [AV.sl 4 0 1 none 1, AV.sl 6 0 1 none 1, iV 0]), (2, kT [iV a0, iV b0]), (3, kT [iV a0]), (4, kT [iV a0]), (5, kT [iV (zeroI a0)]), (6, kT [iV (zeroI a0)]), (7, kT [iV a1, iV b1])]) :=
  Tri.of mixedT cxM_ok 60 200 (ans := [.n, .n, .p (some 20) (.bool true), .n, .p (some 40) (.int .i64 (zeroI a0)), .n, .p (some 20) (.bool false), .n]) (ks := [2, 3]) (vs := [AV.pnil, iV 140]) (p := (PureA cxM (CO.call (Opd.k (AV.fn 70 [] [])) [Opd.k (iV a1)]) (AV.bool false)) ∧ (ReadsV (hOf 5 [(0, kF [iV a0, iV b0, iV a1, iV b1]), (1, kT [AV.sl 4 0 1 none 1, AV.snil, iV 0]), (2, kT [iV a0, iV b0]), (3, kT [iV a0]), (4, kT [iV a0])]) (CO.load 1 false (Opd.k (AV.ptr 1 1))) AV.snil) ∧ (ReadsV (hOf 5 [(0, kF [iV a0, iV b0, iV a1, iV b1]), (1, kT [AV.sl 4 0 1 none 1, AV.snil, iV 0]), (2, kT [iV a0, iV b0]), (3, kT [iV a0]), (4, kT [iV a0])]) (CO.load 1 false (Opd.k (AV.ptr 1 1))) AV.snil) ∧ (PureA cxM (CO.call (Opd.k (AV.fn 71 [] [])) [Opd.k (iV a0)]) (iV (zeroI a0))) ∧ (PureA cxM (CO.call (Opd.k (AV.fn 70 [] [])) [Opd.k (iV a0)]) (AV.bool true)) ∧ (True)) (by kernel_rfl) ⟨L1, L2, L2, L3, L4, trivial⟩
theorem r30_2_ok (cap : Option Nat) (a0 b0 : Int) (a1 b1 : Int) (L1 : ReadsV (hOf 10 [(0, kF [iV a0, iV b0, iV a1, iV b1]), (1, kT [AV.sl 9 0 2 none 1, AV.sl 6 0 1 none 1, iV 0]), (2, kT [iV a0, iV b0]), (3, kT [iV a0]), (5, kT [iV (zeroI a0)]), (6, kT [iV (zeroI a0)]), (7, kT [iV a1, iV b1]), (8, kT [iV a1]), (9, kT [iV a0, iV a1])]) (CO.load 1 false (Opd.k (AV.ptr 1 1))) (AV.sl 6 0 1 none 1))
    (L2 : PureA cxM (CO.call (Opd.k (AV.fn 71 [] [])) [Opd.k (iV a1)]) (iV (zeroI a1)))
    (L3 : PureA cxM (CO.call (Opd.k (AV.fn 70 [] [])) [Opd.k (iV a1)]) (AV.bool true))
    (L4 : ReadsV (hOf 5 [(0, kF [iV a0, iV b0, iV a1, iV b1]), (1, kT [AV.sl 4 0 1 none 1, AV.snil, iV 0]), (2, kT [iV a0, iV b0]), (3, kT [iV a0]), (4, kT [iV a0])]) (CO.load 1 false (Opd.k (AV.ptr 1 1))) AV.snil)
    (L5 : PureA cxM (CO.call (Opd.k (AV.fn 71 [] [])) [Opd.k (iV a0)]) (iV (zeroI a0)))
    (L6 : PureA cxM (CO.call (Opd.k (AV.fn 70 [] [])) [Opd.k (iV a0)]) (AV.bool true)) :
    Tri Tryz.prog 47 1 (cc30) (putArgs [.sl 0 0 2 cap 2] 0 .leaf) (hOf 1 [(0, kF [.int .i64 a0, .int .i64 b0, .int .i64 a1, .int .i64 b1])]) (Fl.ret) (ofL [(2, AV.ptr 1 0), (3, iV 0)]) (hOf 12 [(0, kF [iV a0, iV b0, iV a1, iV b1]), (1, kT [AV.sl 9 0 2 none 1, AV.sl 11 0 2 none 1, iV 0]), (2, kT [iV a0, iV b0]), (3, kT [iV a0]), (5, kT [iV (zeroI a0)]), (7, kT [iV a1, iV b1]), (8, kT [iV a1]), (9, kT [iV a0, iV a1]), (10, kT [iV (zeroI a1)]), (11, kT [iV (zeroI a0), iV (zeroI a1)])]) :=
  Tri.of mixedT cxM_ok 60 200 (ans := [.n, .n, .p (some 20) (.bool true), .n, .p (some 40) (.int .i64 (zeroI a0)), .n, .p (some 20) (.bool true), .n, .p (some 40) (.int .i64 (zeroI a1)), .n]) (ks := [2, 3]) (vs := [AV.ptr 1 0, iV 0]) (p := (ReadsV (hOf 10 [(0, kF [iV a0, iV b0, iV a1, iV b1]), (1, kT [AV.sl 9 0 2 none 1, AV.sl 6 0 1 none 1, iV 0]), (2, kT [iV a0, iV b0]), (3, kT [iV a0]), (5, kT [iV (zeroI a0)]), (6, kT [iV (zeroI a0)]), (7, kT [iV a1, iV b1]), (8, kT [iV a1]), (9, kT [iV a0, iV a1])]) (CO.load 1 false (Opd.k (AV.ptr 1 1))) (AV.sl 6 0 1 none 1)) ∧ (ReadsV (hOf 10 [(0, kF [iV a0, iV b0, iV a1, iV b1]), (1, kT [AV.sl 9 0 2 none 1, AV.sl 6 0 1 none 1, iV 0]), (2, kT [iV a0, iV b0]), (3, kT [iV a0]), (5, kT [iV (zeroI a0)]), (6, kT [iV (zeroI a0)]), (7, kT [iV a1, iV b1]), (8, kT [iV a1]), (9, kT [iV a0, iV a1])]) (CO.load 1 false (Opd.k (AV.ptr 1 1))) (AV.sl 6 0 1 none 1)) ∧ (PureA cxM (CO.call (Opd.k (AV.fn 71 [] [])) [Opd.k (iV a1)]) (iV (zeroI a1))) ∧ (PureA cxM (CO.call (Opd.k (AV.fn 70 [] [])) [Opd.k (iV a1)]) (AV.bool true)) ∧ (ReadsV (hOf 5 [(0, kF [iV a0, iV b0, iV a1, iV b1]), (1, kT [AV.sl 4 0 1 none 1, AV.snil, iV 0]), (2, kT [iV a0, iV b0]), (3, kT [iV a0]), (4, kT [iV a0])]) (CO.load 1 false (Opd.k (AV.ptr 1 1))) AV.snil) ∧ (ReadsV (hOf 5 [(0, kF [iV a0, iV b0, iV a1, iV b1]), (1, kT [AV.sl 4 0 1 none 1, AV.snil, iV 0]), (2, kT [iV a0, iV b0]), (3, kT [iV a0]), (4, kT [iV a0])]) (CO.load 1 false (Opd.k (AV.ptr 1 1))) AV.snil) ∧ (PureA cxM (CO.call (Opd.k (AV.fn 71 [] [])) [Opd.k (iV a0)]) (iV (zeroI a0))) ∧ (PureA cxM (CO.call (Opd.k (AV.fn 70 [] [])) [Opd.k (iV a0)]) (AV.bool true)) ∧ (True)) (by kernel_rfl) ⟨L1, L1, L2, L3, L4, L4, L5, L6, trivial⟩
theorem r30_3_0_no (cap : Option Nat) (a0 b0 : Int) (a1 b1 : Int) (a2 b2 : Int) (L1 : PureA cxM (CO.call (Opd.k (AV.fn 70 [] [])) [Opd.k (iV a0)]) (AV.bool false)) :
    Tri Tryz.prog 47 1 (cc30) (putArgs [.sl 0 0 3 cap 2] 0 .leaf) (hOf 1 [(0, kF [.int .i64 a0, .int .i64 b0, .int .i64 a1, .int .i64 b1, .int .i64 a2, .int .i64 b2])]) (Fl.ret) (ofL [(2, AV.pnil), (3, iV 140)]) (hOf 3 [(0, kF [iV a0, iV b0, iV a1, iV b1, iV a2, iV b2]), (1, kT [AV.snil, AV.snil, iV 0]), (2, kT [iV a0, iV b0])]) :=
  Tri.of mixedT cxM_ok 60 200 (ans := [.n, .n, .p (some 20) (.bool false), .n]) (ks := [2, 3]) (vs := [AV.pnil, iV 140]) (p := (PureA cxM (CO.call (Opd.k (AV.fn 70 [] [])) [Opd.k (iV a0)]) (AV.bool false)) ∧ (True)) (by kernel_rfl) ⟨L1, trivial⟩
theorem r30_3_1_no (cap : Option Nat) (a0 b0 : Int) (a1 b1 : Int) (a2 b2 : Int) (L1 : PureA cxM (CO.call (Opd.k (AV.fn 70 [] [])) [Opd.k (iV a1)]) (AV.bool false))
    (L2 : ReadsV (hOf 5 [(0, kF [iV a0, iV b0, iV a1, iV b1, iV a2, iV b2]), (1, kT [AV.sl 4 0 1 none 1, AV.snil, iV 0]), (2, kT [iV a0, iV b0]), (3, kT [iV a0]), (4, kT [iV a0])]) (CO.load 1 false (Opd.k (AV.ptr 1 1))) AV.snil)
    (L3 : PureA cxM (CO.call (Opd.k (AV.fn 71 [] [])) [Opd.k (iV a0)]) (iV (zeroI a0)))
    (L4 : PureA cxM (CO.call (Opd.k (AV.fn 70 [] [])) [Opd.k (iV a0)]) (AV.bool true)) :
    Tri Tryz.prog 47 1 (cc30) (putArgs [.sl 0 0 3 cap 2] 0 .leaf) (hOf 1 [(0, kF [.int .i64 a0, .int .i64 b0, .int .i64 a1, .int .i64 b1, .int .i64 a2, .int .i64 b2])]) (Fl.ret) (ofL [(2, AV.pnil), (3, iV 140)]) (hOf 8 [(0, kF [iV a0, iV b0, iV a1, iV b1, iV a2, iV b2]), (1, kT [AV.sl 4 0 1 none 1, AV.sl 6 0 1 none 1, iV 0]), (2, kT [iV a0, iV b0]), (3, kT [iV a0]), (4, kT [iV a0]), (5, kT [iV (zeroI a0)]), (6, kT [iV (zeroI a0)]), (7, kT [iV a1, iV b1])]) :=
  Tri.of mixedT cxM_ok 60 200 (ans := [.n, .n, .p (some 20) (.bool true), .n, .p (some 40) (.int .i64 (zeroI a0)), .n, .p (some 20) (.bool false), .n]) (ks := [2, 3]) (vs := [AV.pnil, iV 140]) (p := (PureA cxM (CO.call (Opd.k (AV.fn 70 [] [])) [Opd.k (iV a1)]) (AV.bool false)) ∧ (ReadsV (hOf 5 [(0, kF [iV a0, iV b0, iV a1, iV b1, iV a2, iV b2]), (1, kT [AV.sl 4 0 1 none 1, AV.snil, iV 0]), (2, kT [iV a0, iV b0]), (3, kT [iV a0]), (4, kT [iV a0])]) (CO.load 1 false (Opd.k (AV.ptr 1 1))) AV.snil) ∧ (ReadsV (hOf 5 [(0, kF [iV a0, iV b0, iV a1, iV b1, iV a2, iV b2]), (1, kT [AV.sl 4 0 1 none 1, AV.snil, iV 0]), (2, kT [iV a0, iV b0]), (3, kT [iV a0]), (4, kT [iV a0])]) (CO.load 1 false (Opd.k (AV.ptr 1 1))) AV.snil) ∧ (PureA cxM (CO.call (Opd.k (AV.fn 71 [] [])) [Opd.k (iV a0)]) (iV (zeroI a0))) ∧ (PureA cxM (CO.call (Opd.k (AV.fn 70 [] [])) [Opd.k (iV a0)]) (AV.bool true)) ∧ (True)) (by kernel_rfl) ⟨L1, L2, L2, L3, L4, trivial⟩
theorem r30_3_2_no (cap : Option Nat) (a0 b0 : Int) (a1 b1 : Int) (a2 b2 : Int) (L1 : PureA cxM (CO.call (Opd.k (AV.fn 70 [] [])) [Opd.k (iV a2)]) (AV.bool false))
    (L2 : ReadsV (hOf 10 [(0, kF [iV a0, iV b0, iV a1, iV b1, iV a2, iV b2]), (1, kT [AV.sl 9 0 2 none 1, AV.sl 6 0 1 none 1, iV 0]), (2, kT [iV a0, iV b0]), (3, kT [iV a0]), (5, kT [iV (zeroI a0)]), (6, kT [iV (zeroI a0)]), (7, kT [iV a1, iV b1]), (8, kT [iV a1]), (9, kT [iV a0, iV a1])]) (CO.load 1 false (Opd.k (AV.ptr 1 1))) (AV.sl 6 0 1 none 1))
    (L3 : PureA cxM (CO.call (Opd.k (AV.fn 71 [] [])) [Opd.k (iV a1)]) (iV (zeroI a1)))
    (L4 : PureA cxM (CO.call (Opd.k (AV.fn 70 [] [])) [Opd.k (iV a1)]) (AV.bool true))
    (L5 : ReadsV (hOf 5 [(0, kF [iV a0, iV b0, iV a1, iV b1, iV a2, iV b2]), (1, kT [AV.sl 4 0 1 none 1, AV.snil, iV 0]), (2, kT [iV a0, iV b0]), (3, kT [iV a0]), (4, kT [iV a0])]) (CO.load 1 false (Opd.k (AV.ptr 1 1))) AV.snil)
    (L6 : PureA cxM (CO.call (Opd.k (AV.fn 71 [] [])) [Opd.k (iV a0)]) (iV (zeroI a0)))
    (L7 : PureA cxM (CO.call (Opd.k (AV.fn 70 [] [])) [Opd.k (iV a0)]) (AV.bool true)) :
    Tri Tryz.prog 47 1 (cc30) (putArgs [.sl 0 0 3 cap 2] 0 .leaf) (hOf 1 [(0, kF [.int .i64 a0, .int .i64 b0, .int .i64 a1, .int .i64 b1, .int .i64 a2, .int .i64 b2])]) (Fl.ret) (ofL [(2, AV.pnil), (3, iV 140)]) (hOf 13 [(0, kF [iV a0, iV b0, iV a1, iV b1, iV a2, iV b2]), (1, kT [AV.sl 9 0 2 none 1, AV.sl 11 0 2 none 1, iV 0]), (2, kT [iV a0, iV b0]), (3, kT [iV a0]), (5, kT [iV (zeroI a0)]), (7, kT [iV a1, iV b1]), (8, kT [iV a1]), (9, kT [iV a0, iV a1]), (10, kT [iV (zeroI a1)]), (11, kT [iV (zeroI a0), iV (zeroI a1)]), (12, kT [iV a2, iV b2])]) :=
  Tri.of mixedT cxM_ok 60 200 (ans := [.n, .n, .p (some 20) (.bool true), .n, .p (some 40) (.int .i64 (zeroI a0)), .n, .p (some 20) (.bool true), .n, .p (some 40) (.int .i64 (zeroI a1)), .n, .p (some 20) (.bool false), .n]) (ks := [2, 3]) (vs := [AV.pnil, iV 140]) (p := (PureA cxM (CO.call (Opd.k (AV.fn 70 [] [])) [Opd.k (iV a2)]) (AV.bool false)) ∧ (ReadsV (hOf 10 [(0, kF [iV a0, iV b0, iV a1, iV b1, iV a2, iV b2]), (1, kT [AV.sl 9 0 2 none 1, AV.sl 6 0 1 none 1, iV 0]), (2, kT [iV a0, iV b0]), (3, kT [iV a0]), (5, kT [iV (zeroI a0)]), (6, kT [iV (zeroI a0)]), (7, kT [iV a1, iV b1]), (8, kT [iV a1]), (9, kT [iV a0, iV a1])]) (CO.load 1 false (Opd.k (AV.ptr 1 1))) (AV.sl 6 0 1 none 1)) ∧ (ReadsV (hOf 10 [(0, kF [iV a0, iV b0, iV a1, iV b1, iV a2, iV b2]), (1, kT [AV.sl 9 0 2 none 1, AV.sl 6 0 1 none 1, iV 0]), (2, kT [iV a0, iV b0]), (3, kT [iV a0]), (5, kT [iV (zeroI a0)]), (6, kT [iV (zeroI a0)]), (7, kT [iV a1, iV b1]), (8, kT [iV a1]), (9, kT [iV a0, iV a1])]) (CO.load 1 false (Opd.k (AV.ptr 1 1))) (AV.sl 6 0 1 none 1)) ∧ (PureA cxM (CO.call (Opd.k (AV.fn 71 [] [])) [Opd.k (iV a1)]) (iV (zeroI a1))) ∧ (PureA cxM (CO.call (Opd.k (AV.fn 70 [] [])) [Opd.k (iV a1)]) (AV.bool true)) ∧ (ReadsV (hOf 5 [(0, kF [iV a0, iV b0, iV a1, iV b1, iV a2, iV b2]), (1, kT [AV.sl 4 0 1 none 1, AV.snil, iV 0]), (2, kT [iV a0, iV b0]), (3, kT [iV a0]), (4, kT [iV a0])]) (CO.load 1 false (Opd.k (AV.ptr 1 1))) AV.snil) ∧ (ReadsV (hOf 5 [(0, kF [iV a0, iV b0, iV a1, iV b1, iV a2, iV b2]), (1, kT [AV.sl 4 0 1 none 1, AV.snil, iV 0]), (2, kT [iV a0, iV b0]), (3, kT [iV a0]), (4, kT [iV a0])]) (CO.load 1 false (Opd.k (AV.ptr 1 1))) AV.snil) ∧ (PureA cxM (CO.call (Opd.k (AV.fn 71 [] [])) [Opd.k (iV a0)]) (iV (zeroI a0))) ∧ (PureA cxM (CO.call (Opd.k (AV.fn 70 [] [])) [Opd.k (iV a0)]) (AV.bool true)) ∧ (True)) (by kernel_rfl) ⟨L1, L2, L2, L3, L4, L5, L5, L6, L7, trivial⟩
theorem r30_3_ok (cap : Option Nat) (a0 b0 : Int) (a1 b1 : Int) (a2 b2 : Int) (L1 : ReadsV (hOfO 15 [(0, some (kF [iV a0, iV b0, iV a1, iV b1, iV a2, iV b2])), (1, some (kT [AV.sl 14 0 3 none 1, AV.sl 11 0 2 none 1, iV 0])), (2, some (kT [iV a0, iV b0])), (3, some (kT [iV a0])), (5, some (kT [iV (zeroI a0)])), (7, some (kT [iV a1, iV b1])), (8, some (kT [iV a1])), (9, none), (10, some (kT [iV (zeroI a1)])), (11, some (kT [iV (zeroI a0), iV (zeroI a1)])), (12, some (kT [iV a2, iV b2])), (13, some (kT [iV a2])), (14, some (kT [iV a0, iV a1, iV a2]))]) (CO.load 1 false (Opd.k (AV.ptr 1 1))) (AV.sl 11 0 2 none 1))
    (L2 : PureA cxM (CO.call (Opd.k (AV.fn 71 [] [])) [Opd.k (iV a2)]) (iV (zeroI a2)))
    (L3 : PureA cxM (CO.call (Opd.k (AV.fn 70 [] [])) [Opd.k (iV a2)]) (AV.bool true))
    (L4 : ReadsV (hOf 10 [(0, kF [iV a0, iV b0, iV a1, iV b1, iV a2, iV b2]), (1, kT [AV.sl 9 0 2 none 1, AV.sl 6 0 1 none 1, iV 0]), (2, kT [iV a0, iV b0]), (3, kT [iV a0]), (5, kT [iV (zeroI a0)]), (6, kT [iV (zeroI a0)]), (7, kT [iV a1, iV b1]), (8, kT [iV a1]), (9, kT [iV a0, iV a1])]) (CO.load 1 false (Opd.k (AV.ptr 1 1))) (AV.sl 6 0 1 none 1))
    (L5 : PureA cxM (CO.call (Opd.k (AV.fn 71 [] [])) [Opd.k (iV a1)]) (iV (zeroI a1)))
    (L6 : PureA cxM (CO.call (Opd.k (AV.fn 70 [] [])) [Opd.k (iV a1)]) (AV.bool true))
    (L7 : ReadsV (hOf 5 [(0, kF [iV a0, iV b0, iV a1, iV b1, iV a2, iV b2]), (1, kT [AV.sl 4 0 1 none 1, AV.snil, iV 0]), (2, kT [iV a0, iV b0]), (3, kT [iV a0]), (4, kT [iV a0])]) (CO.load 1 false (Opd.k (AV.ptr 1 1))) AV.snil)
    (L8 : PureA cxM (CO.call (Opd.k (AV.fn 71 [] [])) [Opd.k (iV a0)]) (iV (zeroI a0)))
    (L9 : PureA cxM (CO.call (Opd.k (AV.fn 70 [] [])) [Opd.k (iV a0)]) (AV.bool true)) :
    Tri Tryz.prog 47 1 (cc30) (putArgs [.sl 0 0 3 cap 2] 0 .leaf) (hOf 1 [(0, kF [.int .i64 a0, .int .i64 b0, .int .i64 a1, .int .i64 b1, .int .i64 a2, .int .i64 b2])]) (Fl.ret) (ofL [(2, AV.ptr 1 0), (3, iV 0)]) (hOfO 17 [(0, some (kF [iV a0, iV b0, iV a1, iV b1, iV a2, iV b2])), (1, some (kT [AV.sl 14 0 3 none 1, AV.sl 16 0 3 none 1, iV 0])), (2, some (kT [iV a0, iV b0])), (3, some (kT [iV a0])), (5, some (kT [iV (zeroI a0)])), (7, some (kT [iV a1, iV b1])), (8, some (kT [iV a1])), (9, none), (10, some (kT [iV (zeroI a1)])), (11, none), (12, some (kT [iV a2, iV b2])), (13, some (kT [iV a2])), (14, some (kT [iV a0, iV a1, iV a2])), (15, some (kT [iV (zeroI a2)])), (16, some (kT [iV (zeroI a0), iV (zeroI a1), iV (zeroI a2)]))]) :=
  Tri.of mixedT cxM_ok 60 200 (ans := [.n, .n, .p (some 20) (.bool true), .n, .p (some 40) (.int .i64 (zeroI a0)), .n, .p (some 20) (.bool true), .n, .p (some 40) (.int .i64 (zeroI a1)), .n, .p (some 20) (.bool true), .n, .p (some 40) (.int .i64 (zeroI a2)), .n]) (ks := [2, 3]) (vs := [AV.ptr 1 0, iV 0]) (p := (ReadsV (hOfO 15 [(0, some (kF [iV a0, iV b0, iV a1, iV b1, iV a2, iV b2])), (1, some (kT [AV.sl 14 0 3 none 1, AV.sl 11 0 2 none 1, iV 0])), (2, some (kT [iV a0, iV b0])), (3, some (kT [iV a0])), (5, some (kT [iV (zeroI a0)])), (7, some (kT [iV a1, iV b1])), (8, some (kT [iV a1])), (9, none), (10, some (kT [iV (zeroI a1)])), (11, some (kT [iV (zeroI a0), iV (zeroI a1)])), (12, some (kT [iV a2, iV b2])), (13, some (kT [iV a2])), (14, some (kT [iV a0, iV a1, iV a2]))]) (CO.load 1 false (Opd.k (AV.ptr 1 1))) (AV.sl 11 0 2 none 1)) ∧ (ReadsV (hOfO 15 [(0, some (kF [iV a0, iV b0, iV a1, iV b1, iV a2, iV b2])), (1, some (kT [AV.sl 14 0 3 none 1, AV.sl 11 0 2 none 1, iV 0])), (2, some (kT [iV a0, iV b0])), (3, some (kT [iV a0])), (5, some (kT [iV (zeroI a0)])), (7, some (kT [iV a1, iV b1])), (8, some (kT [iV a1])), (9, none), (10, some (kT [iV (zeroI a1)])), (11, some (kT [iV (zeroI a0), iV (zeroI a1)])), (12, some (kT [iV a2, iV b2])), (13, some (kT [iV a2])), (14, some (kT [iV a0, iV a1, iV a2]))]) (CO.load 1 false (Opd.k (AV.ptr 1 1))) (AV.sl 11 0 2 none 1)) ∧ (PureA cxM (CO.call (Opd.k (AV.fn 71 [] [])) [Opd.k (iV a2)]) (iV (zeroI a2))) ∧ (PureA cxM (CO.call (Opd.k (AV.fn 70 [] [])) [Opd.k (iV a2)]) (AV.bool true)) ∧ (ReadsV (hOf 10 [(0, kF [iV a0, iV b0, iV a1, iV b1, iV a2, iV b2]), (1, kT [AV.sl 9 0 2 none 1, AV.sl 6 0 1 none 1, iV 0]), (2, kT [iV a0, iV b0]), (3, kT [iV a0]), (5, kT [iV (zeroI a0)]), (6, kT [iV (zeroI a0)]), (7, kT [iV a1, iV b1]), (8, kT [iV a1]), (9, kT [iV a0, iV a1])]) (CO.load 1 false (Opd.k (AV.ptr 1 1))) (AV.sl 6 0 1 none 1)) ∧ (ReadsV (hOf 10 [(0, kF [iV a0, iV b0, iV a1, iV b1, iV a2, iV b2]), (1, kT [AV.sl 9 0 2 none 1, AV.sl 6 0 1 none 1, iV 0]), (2, kT [iV a0, iV b0]), (3, kT [iV a0]), (5, kT [iV (zeroI a0)]), (6, kT [iV (zeroI a0)]), (7, kT [iV a1, iV b1]), (8, kT [iV a1]), (9, kT [iV a0, iV a1])]) (CO.load 1 false (Opd.k (AV.ptr 1 1))) (AV.sl 6 0 1 none 1)) ∧ (PureA cxM (CO.call (Opd.k (AV.fn 71 [] [])) [Opd.k (iV a1)]) (iV (zeroI a1))) ∧ (PureA cxM (CO.call (Opd.k (AV.fn 70 [] [])) [Opd.k (iV a1)]) (AV.bool true)) ∧ (ReadsV (hOf 5 [(0, kF [iV a0, iV b0, iV a1, iV b1, iV a2, iV b2]), (1, kT [AV.sl 4 0 1 none 1, AV.snil, iV 0]), (2, kT [iV a0, iV b0]), (3, kT [iV a0]), (4, kT [iV a0])]) (CO.load 1 false (Opd.k (AV.ptr 1 1))) AV.snil) ∧ (ReadsV (hOf 5 [(0, kF [iV a0, iV b0, iV a1, iV b1, iV a2, iV b2]), (1, kT [AV.sl 4 0 1 none 1, AV.snil, iV 0]), (2, kT [iV a0, iV b0]), (3, kT [iV a0]), (4, kT [iV a0])]) (CO.load 1 false (Opd.k (AV.ptr 1 1))) AV.snil) ∧ (PureA cxM (CO.call (Opd.k (AV.fn 71 [] [])) [Opd.k (iV a0)]) (iV (zeroI a0))) ∧ (PureA cxM (CO.call (Opd.k (AV.fn 70 [] [])) [Opd.k (iV a0)]) (AV.bool true)) ∧ (True)) (by kernel_rfl) ⟨L1, L1, L2, L3, L4, L4, L5, L6, L7, L7, L8, L9, trivial⟩
theorem r30_4_0_no (cap : Option Nat) (a0 b0 : Int) (a1 b1 : Int) (a2 b2 : Int) (a3 b3 : Int) (L1 : PureA cxM (CO.call (Opd.k (AV.fn 70 [] [])) [Opd.k (iV a0)]) (AV.bool false)) :
    Tri Tryz.prog 47 1 (cc30) (putArgs [.sl 0 0 4 cap 2] 0 .leaf) (hOf 1 [(0, kF [.int .i64 a0, .int .i64 b0, .int .i64 a1, .int .i64 b1, .int .i64 a2, .int .i64 b2, .int .i64 a3, .int .i64 b3])]) (Fl.ret) (ofL [(2, AV.pnil), (3, iV 140)]) (hOf 3 [(0, kF [iV a0, iV b0, iV a1, iV b1, iV a2, iV b2, iV a3, iV b3]), (1, kT [AV.snil, AV.snil, iV 0]), (2, kT [iV a0, iV b0])]) :=
  Tri.of mixedT cxM_ok 60 200 (ans := [.n, .n, .p (some 20) (.bool false), .n]) (ks := [2, 3]) (vs := [AV.pnil, iV 140]) (p := (PureA cxM (CO.call (Opd.k (AV.fn 70 [] [])) [Opd.k (iV a0)]) (AV.bool false)) ∧ (True)) (by kernel_rfl) ⟨L1, trivial⟩
theorem r30_4_1_no (cap : Option Nat) (a0 b0 : Int) (a1 b1 : Int) (a2 b2 : Int) (a3 b3 : Int) (L1 : PureA cxM (CO.call (Opd.k (AV.fn 70 [] [])) [Opd.k (iV a1)]) (AV.bool false))
    (L2 : ReadsV (hOf 5 [(0, kF [iV a0, iV b0, iV a1, iV b1, iV a2, iV b2, iV a3, iV b3]), (1, kT [AV.sl 4 0 1 none 1, AV.snil, iV 0]), (2, kT [iV a0, iV b0]), (3, kT [iV a0]), (4, kT [iV a0])]) (CO.load 1 false (Opd.k (AV.ptr 1 1))) AV.snil)
    (L3 : PureA cxM (CO.call (Opd.k (AV.fn 71 [] [])) [Opd.k (iV a0)]) (iV (zeroI a0)))
    (L4 : PureA cxM (CO.call (Opd.k (AV.fn 70 [] [])) [Opd.k (iV a0)]) (AV.bool true)) :
    Tri Tryz.prog 47 1 (cc30) (putArgs [.sl 0 0 4 cap 2] 0 .leaf) (hOf 1 [(0, kF [.int .i64 a0, .int .i64 b0, .int .i64 a1, .int .i64 b1, .int .i64 a2, .int .i64 b2, .int .i64 a3, .int .i64 b3])]) (Fl.ret) (ofL [(2, AV.pnil), (3, iV 140)]) (hOf 8 [(0, kF [iV a0, iV b0, iV a1, iV b1, iV a2, iV b2, iV a3, iV b3]), (1, kT [AV.sl 4 0 1 none 1, AV.sl 6 0 1 none 1, iV 0]), (2, kT [iV a0, iV b0]), (3, kT [iV a0]), (4, kT [iV a0]), (5, kT [iV (zeroI a0)]), (6, kT [iV (zeroI a0)]), (7, kT [iV a1, iV b1])]) :=
  Tri.of mixedT cxM_ok 60 200 (ans := [.n, .n, .p (some 20) (.bool true), .n, .p (some 40) (.int .i64 (zeroI a0)), .n, .p (some 20) (.bool false), .n]) (ks := [2, 3]) (vs := [AV.pnil, iV 140]) (p := (PureA cxM (CO.call (Opd.k (AV.fn 70 [] [])) [Opd.k (iV a1)]) (AV.bool false)) ∧ (ReadsV (hOf 5 [(0, kF [iV a0, iV b0, iV a1, iV b1, iV a2, iV b2, iV a3, iV b3]), (1, kT [AV.sl 4 0 1 none 1, AV.snil, iV 0]), (2, kT [iV a0, iV b0]), (3, kT [iV a0]), (4, kT [iV a0])]) (CO.load 1 false (Opd.k (AV.ptr 1 1))) AV.snil) ∧ (ReadsV (hOf 5 [(0, kF [iV a0, iV b0, iV a1, iV b1, iV a2, iV b2, iV a3, iV b3]), (1, kT [AV.sl 4 0 1 none 1, AV.snil, iV 0]), (2, kT [iV a0, iV b0]), (3, kT [iV a0]), (4, kT [iV a0])]) (CO.load 1 false (Opd.k (AV.ptr 1 1))) AV.snil) ∧ (PureA cxM (CO.call (Opd.k (AV.fn 71 [] [])) [Opd.k (iV a0)]) (iV (zeroI a0))) ∧ (PureA cxM (CO.call (Opd.k (AV.fn 70 [] [])) [Opd.k (iV a0)]) (AV.bool true)) ∧ (True)) (by kernel_rfl) ⟨L1, L2, L2, L3, L4, trivial⟩
theorem r30_4_2_no (cap : Option Nat) (a0 b0 : Int) (a1 b1 : Int) (a2 b2 : Int) (a3 b3 : Int) (L1 : PureA cxM (CO.call (Opd.k (AV.fn 70 [] [])) [Opd.k (iV a2)]) (AV.bool false))
    (L2 : ReadsV (hOf 10 [(0, kF [iV a0, iV b0, iV a1, iV b1, iV a2, iV b2, iV a3, iV b3]), (1, kT [AV.sl 9 0 2 none 1, AV.sl 6 0 1 none 1, iV 0]), (2, kT [iV a0, iV b0]), (3, kT [iV a0]), (5, kT [iV (zeroI a0)]), (6, kT [iV (zeroI a0)]), (7, kT [iV a1, iV b1]), (8, kT [iV a1]), (9, kT [iV a0, iV a1])]) (CO.load 1 false (Opd.k (AV.ptr 1 1))) (AV.sl 6 0 1 none 1))
    (L3 : PureA cxM (CO.call (Opd.k (AV.fn 71 [] [])) [Opd.k (iV a1)]) (iV (zeroI a1)))
    (L4 : PureA cxM (CO.call (Opd.k (AV.fn 70 [] [])) [Opd.k (iV a1)]) (AV.bool true))
    (L5 : ReadsV (hOf 5 [(0, kF [iV a0, iV b0, iV a1, iV b1, iV a2, iV b2, iV a3, iV b3]), (1, kT [AV.sl 4 0 1 none 1, AV.snil, iV 0]), (2, kT [iV a0, iV b0]), (3, kT [iV a0]), (4, kT [iV a0])]) (CO.load 1 false (Opd.k (AV.ptr 1 1))) AV.snil)
    (L6 : PureA cxM (CO.call (Opd.k (AV.fn 71 [] [])) [Opd.k (iV a0)]) (iV (zeroI a0)))
    (L7 : PureA cxM (CO.call (Opd.k (AV.fn 70 [] [])) [Opd.k (iV a0)]) (AV.bool true)) :
    Tri Tryz.prog 47 1 (cc30) (putArgs [.sl 0 0 4 cap 2] 0 .leaf) (hOf 1 [(0, kF [.int .i64 a0, .int .i64 b0, .int .i64 a1, .int .i64 b1, .int .i64 a2, .int .i64 b2, .int .i64 a3, .int .i64 b3])]) (Fl.ret) (ofL [(2, AV.pnil), (3, iV 140)]) (hOf 13 [(0, kF [iV a0, iV b0, iV a1, iV b1, iV a2, iV b2, iV a3, iV b3]), (1, kT [AV.sl 9 0 2 none 1, AV.sl 11 0 2 none 1, iV 0]), (2, kT [iV a0, iV b0]), (3, kT [iV a0]), (5, kT [iV (zeroI a0)]), (7, kT [iV a1, iV b1]), (8, kT [iV a1]), (9, kT [iV a0, iV a1]), (10, kT [iV (zeroI a1)]), (11, kT [iV (zeroI a0), iV (zeroI a1)]), (12, kT [iV a2, iV b2])]) :=
  Tri.of mixedT cxM_ok 60 200 (ans := [.n, .n, .p (some 20) (.bool true), .n, .p (some 40) (.int .i64 (zeroI a0)), .n, .p (some 20) (.bool true), .n, .p (some 40) (.int .i64 (zeroI a1)), .n, .p (some 20) (.bool false), .n]) (ks := [2, 3]) (vs := [AV.pnil, iV 140]) (p := (PureA cxM (CO.call (Opd.k (AV.fn 70 [] [])) [Opd.k (iV a2)]) (AV.bool false)) ∧ (ReadsV (hOf 10 [(0, kF [iV a0, iV b0, iV a1, iV b1, iV a2, iV b2, iV a3, iV b3]), (1, kT [AV.sl 9 0 2 none 1, AV.sl 6 0 1 none 1, iV 0]), (2, kT [iV a0, iV b0]), (3, kT [iV a0]), (5, kT [iV (zeroI a0)]), (6, kT [iV (zeroI a0)]), (7, kT [iV a1, iV b1]), (8, kT [iV a1]), (9, kT [iV a0, iV a1])]) (CO.load 1 false (Opd.k (AV.ptr 1 1))) (AV.sl 6 0 1 none 1)) ∧ (ReadsV (hOf 10 [(0, kF [iV a0, iV b0, iV a1, iV b1, iV a2, iV b2, iV a3, iV b3]), (1, kT [AV.sl 9 0 2 none 1, AV.sl 6 0 1 none 1, iV 0]), (2, kT [iV a0, iV b0]), (3, kT [iV a0]), (5, kT [iV (zeroI a0)]), (6, kT [iV (zeroI a0)]), (7, kT [iV a1, iV b1]), (8, kT [iV a1]), (9, kT [iV a0, iV a1])]) (CO.load 1 false (Opd.k (AV.ptr 1 1))) (AV.sl 6 0 1 none 1)) ∧ (PureA cxM (CO.call (Opd.k (AV.fn 71 [] [])) [Opd.k (iV a1)]) (iV (zeroI a1))) ∧ (PureA cxM (CO.call (Opd.k (AV.fn 70 [] [])) [Opd.k (iV a1)]) (AV.bool true)) ∧ (ReadsV (hOf 5 [(0, kF [iV a0, iV b0, iV a1, iV b1, iV a2, iV b2, iV a3, iV b3]), (1, kT [AV.sl 4 0 1 none 1, AV.snil, iV 0]), (2, kT [iV a0, iV b0]), (3, kT [iV a0]), (4, kT [iV a0])]) (CO.load 1 false (Opd.k (AV.ptr 1 1))) AV.snil) ∧ (ReadsV (hOf 5 [(0, kF [iV a0, iV b0, iV a1, iV b1, iV a2, iV b2, iV a3, iV b3]), (1, kT [AV.sl 4 0 1 none 1, AV.snil, iV 0]), (2, kT [iV a0, iV b0]), (3, kT [iV a0]), (4, kT [iV a0])]) (CO.load 1 false (Opd.k (AV.ptr 1 1))) AV.snil) ∧ (PureA cxM (CO.call (Opd.k (AV.fn 71 [] [])) [Opd.k (iV a0)]) (iV (zeroI a0))) ∧ (PureA cxM (CO.call (Opd.k (AV.fn 70 [] [])) [Opd.k (iV a0)]) (AV.bool true)) ∧ (True)) (by kernel_rfl) ⟨L1, L2, L2, L3, L4, L5, L5, L6, L7, trivial⟩
theorem r30_4_3_no (cap : Option Nat) (a0 b0 : Int) (a1 b1 : Int) (a2 b2 : Int) (a3 b3 : Int) (L1 : PureA cxM (CO.call (Opd.k (AV.fn 70 [] [])) [Opd.k (iV a3)]) (AV.bool false))
    (L2 : ReadsV (hOfO 15 [(0, some (kF [iV a0, iV b0, iV a1, iV b1, iV a2, iV b2, iV a3, iV b3])), (1, some (kT [AV.sl 14 0 3 none 1, AV.sl 11 0 2 none 1, iV 0])), (2, some (kT [iV a0, iV b0])), (3, some (kT [iV a0])), (5, some (kT [iV (zeroI a0)])), (7, some (kT [iV a1, iV b1])), (8, some (kT [iV a1])), (9, none), (10, some (kT [iV (zeroI a1)])), (11, some (kT [iV (zeroI a0), iV (zeroI a1)])), (12, some (kT [iV a2, iV b2])), (13, some (kT [iV a2])), (14, some (kT [iV a0, iV a1, iV a2]))]) (CO.load 1 false (Opd.k (AV.ptr 1 1))) (AV.sl 11 0 2 none 1))
    (L3 : PureA cxM (CO.call (Opd.k (AV.fn 71 [] [])) [Opd.k (iV a2)]) (iV (zeroI a2)))
    (L4 : PureA cxM (CO.call (Opd.k (AV.fn 70 [] [])) [Opd.k (iV a2)]) (AV.bool true))
    (L5 : ReadsV (hOf 10 [(0, kF [iV a0, iV b0, iV a1, iV b1, iV a2, iV b2, iV a3, iV b3]), (1, kT [AV.sl 9 0 2 none 1, AV.sl 6 0 1 none 1, iV 0]), (2, kT [iV a0, iV b0]), (3, kT [iV a0]), (5, kT [iV (zeroI a0)]), (6, kT [iV (zeroI a0)]), (7, kT [iV a1, iV b1]), (8, kT [iV a1]), (9, kT [iV a0, iV a1])]) (CO.load 1 false (Opd.k (AV.ptr 1 1))) (AV.sl 6 0 1 none 1))
    (L6 : PureA cxM (CO.call (Opd.k (AV.fn 71 [] [])) [Opd.k (iV a1)]) (iV (zeroI a1)))
    (L7 : PureA cxM (CO.call (Opd.k (AV.fn 70 [] [])) [Opd.k (iV a1)]) (AV.bool true))
    (L8 : ReadsV (hOf 5 [(0, kF [iV a0, iV b0, iV a1, iV b1, iV a2, iV b2, iV a3, iV b3]), (1, kT [AV.sl 4 0 1 none 1, AV.snil, iV 0]), (2, kT [iV a0, iV b0]), (3, kT [iV a0]), (4, kT [iV a0])]) (CO.load 1 false (Opd.k (AV.ptr 1 1))) AV.snil)
    (L9 : PureA cxM (CO.call (Opd.k (AV.fn 71 [] [])) [Opd.k (iV a0)]) (iV (zeroI a0)))
    (L10 : PureA cxM (CO.call (Opd.k (AV.fn 70 [] [])) [Opd.k (iV a0)]) (AV.bool true)) :
    Tri Tryz.prog 47 1 (cc30) (putArgs [.sl 0 0 4 cap 2] 0 .leaf) (hOf 1 [(0, kF [.int .i64 a0, .int .i64 b0, .int .i64 a1, .int .i64 b1, .int .i64 a2, .int .i64 b2, .int .i64 a3, .int .i64 b3])]) (Fl.ret) (ofL [(2, AV.pnil), (3, iV 140)]) (hOfO 18 [(0, some (kF [iV a0, iV b0, iV a1, iV b1, iV a2, iV b2, iV a3, iV b3])), (1, some (kT [AV.sl 14 0 3 none 1, AV.sl 16 0 3 none 1, iV 0])), (2, some (kT [iV a0, iV b0])), (3, some (kT [iV a0])), (5, some (kT [iV (zeroI a0)])), (7, some (kT [iV a1, iV b1])), (8, some (kT [iV a1])), (10, some (kT [iV (zeroI a1)])), (11, none), (12, some (kT [iV a2, iV b2])), (13, some (kT [iV a2])), (14, some (kT [iV a0, iV a1, iV a2])), (15, some (kT [iV (zeroI a2)])), (16, some (kT [iV (zeroI a0), iV (zeroI a1), iV (zeroI a2)])), (17, some (kT [iV a3, iV b3]))]) :=
  Tri.of mixedT cxM_ok 60 200 (ans := [.n, .n, .p (some 20) (.bool true), .n, .p (some 40) (.int .i64 (zeroI a0)), .n, .p (some 20) (.bool true), .n, .p (some 40) (.int .i64 (zeroI a1)), .n, .p (some 20) (.bool true), .n, .p (some 40) (.int .i64 (zeroI a2)), .n, .p (some 20) (.bool false), .n]) (ks := [2, 3]) (vs := [AV.pnil, iV 140]) (p := (PureA cxM (CO.call (Opd.k (AV.fn 70 [] [])) [Opd.k (iV a3)]) (AV.bool false)) ∧ (ReadsV (hOfO 15 [(0, some (kF [iV a0, iV b0, iV a1, iV b1, iV a2, iV b2, iV a3, iV b3])), (1, some (kT [AV.sl 14 0 3 none 1, AV.sl 11 0 2 none 1, iV 0])), (2, some (kT [iV a0, iV b0])), (3, some (kT [iV a0])), (5, some (kT [iV (zeroI a0)])), (7, some (kT [iV a1, iV b1])), (8, some (kT [iV a1])), (9, none), (10, some (kT [iV (zeroI a1)])), (11, some (kT [iV (zeroI a0), iV (zeroI a1)])), (12, some (kT [iV a2, iV b2])), (13, some (kT [iV a2])), (14, some (kT [iV a0, iV a1, iV a2]))]) (CO.load 1 false (Opd.k (AV.ptr 1 1))) (AV.sl 11 0 2 none 1)) ∧ (ReadsV (hOfO 15 [(0, some (kF [iV a0, iV b0, iV a1, iV b1, iV a2, iV b2, iV a3, iV b3])), (1, some (kT [AV.sl 14 0 3 none 1, AV.sl 11 0 2 none 1, iV 0])), (2, some (kT [iV a0, iV b0])), (3, some (kT [iV a0])), (5, some (kT [iV (zeroI a0)])), (7, some (kT [iV a1, iV b1])), (8, some (kT [iV a1])), (9, none), (10, some (kT [iV (zeroI a1)])), (11, some (kT [iV (zeroI a0), iV (zeroI a1)])), (12, some (kT [iV a2, iV b2])), (13, some (kT [iV a2])), (14, some (kT [iV a0, iV a1, iV a2]))]) (CO.load 1 false (Opd.k (AV.ptr 1 1))) (AV.sl 11 0 2 none 1)) ∧ (PureA cxM (CO.call (Opd.k (AV.fn 71 [] [])) [Opd.k (iV a2)]) (iV (zeroI a2))) ∧ (PureA cxM (CO.call (Opd.k (AV.fn 70 [] [])) [Opd.k (iV a2)]) (AV.bool true)) ∧ (ReadsV (hOf 10 [(0, kF [iV a0, iV b0, iV a1, iV b1, iV a2, iV b2, iV a3, iV b3]), (1, kT [AV.sl 9 0 2 none 1, AV.sl 6 0 1 none 1, iV 0]), (2, kT [iV a0, iV b0]), (3, kT [iV a0]), (5, kT [iV (zeroI a0)]), (6, kT [iV (zeroI a0)]), (7, kT [iV a1, iV b1]), (8, kT [iV a1]), (9, kT [iV a0, iV a1])]) (CO.load 1 false (Opd.k (AV.ptr 1 1))) (AV.sl 6 0 1 none 1)) ∧ (ReadsV (hOf 10 [(0, kF [iV a0, iV b0, iV a1, iV b1, iV a2, iV b2, iV a3, iV b3]), (1, kT [AV.sl 9 0 2 none 1, AV.sl 6 0 1 none 1, iV 0]), (2, kT [iV a0, iV b0]), (3, kT [iV a0]), (5, kT [iV (zeroI a0)]), (6, kT [iV (zeroI a0)]), (7, kT [iV a1, iV b1]), (8, kT [iV a1]), (9, kT [iV a0, iV a1])]) (CO.load 1 false (Opd.k (AV.ptr 1 1))) (AV.sl 6 0 1 none 1)) ∧ (PureA cxM (CO.call (Opd.k (AV.fn 71 [] [])) [Opd.k (iV a1)]) (iV (zeroI a1))) ∧ (PureA cxM (CO.call (Opd.k (AV.fn 70 [] [])) [Opd.k (iV a1)]) (AV.bool true)) ∧ (ReadsV (hOf 5 [(0, kF [iV a0, iV b0, iV a1, iV b1, iV a2, iV b2, iV a3, iV b3]), (1, kT [AV.sl 4 0 1 none 1, AV.snil, iV 0]), (2, kT [iV a0, iV b0]), (3, kT [iV a0]), (4, kT [iV a0])]) (CO.load 1 false (Opd.k (AV.ptr 1 1))) AV.snil) ∧ (ReadsV (hOf 5 [(0, kF [iV a0, iV b0, iV a1, iV b1, iV a2, iV b2, iV a3, iV b3]), (1, kT [AV.sl 4 0 1 none 1, AV.snil, iV 0]), (2, kT [iV a0, iV b0]), (3, kT [iV a0]), (4, kT [iV a0])]) (CO.load 1 false (Opd.k (AV.ptr 1 1))) AV.snil) ∧ (PureA cxM (CO.call (Opd.k (AV.fn 71 [] [])) [Opd.k (iV a0)]) (iV (zeroI a0))) ∧ (PureA cxM (CO.call (Opd.k (AV.fn 70 [] [])) [Opd.k (iV a0)]) (AV.bool true)) ∧ (True)) (by kernel_rfl) ⟨L1, L2, L2, L3, L4, L5, L5, L6, L7, L8, L8, L9, L10, trivial⟩
theorem r30_4_ok (cap : Option Nat) (a0 b0 : Int) (a1 b1 : Int) (a2 b2 : Int) (a3 b3 : Int) (L1 : ReadsV (hOfO 20 [(0, some (kF [iV a0, iV b0, iV a1, iV b1, iV a2, iV b2, iV a3, iV b3])), (1, some (kT [AV.sl 19 0 4 none 1, AV.sl 16 0 3 none 1, iV 0])), (2, some (kT [iV a0, iV b0])), (3, some (kT [iV a0])), (5, some (kT [iV (zeroI a0)])), (7, some (kT [iV a1, iV b1])), (8, some (kT [iV a1])), (10, some (kT [iV (zeroI a1)])), (12, some (kT [iV a2, iV b2])), (13, some (kT [iV a2])), (14, none), (15, some (kT [iV (zeroI a2)])), (16, some (kT [iV (zeroI a0), iV (zeroI a1), iV (zeroI a2)])), (17, some (kT [iV a3, iV b3])), (18, some (kT [iV a3])), (19, some (kT [iV a0, iV a1, iV a2, iV a3]))]) (CO.load 1 false (Opd.k (AV.ptr 1 1))) (AV.sl 16 0 3 none 1))
    (L2 : PureA cxM (CO.call (Opd.k (AV.fn 71 [] [])) [Opd.k (iV a3)]) (iV (zeroI a3)))
    (L3 : PureA cxM (CO.call (Opd.k (AV.fn 70 [] [])) [Opd.k (iV a3)]) (AV.bool true))
    (L4 : ReadsV (hOfO 15 [(0, some (kF [iV a0, iV b0, iV a1, iV b1, iV a2, iV b2, iV a3, iV b3])), (1, some (kT [AV.sl 14 0 3 none 1, AV.sl 11 0 2 none 1, iV 0])), (2, some (kT [iV a0, iV b0])), (3, some (kT [iV a0])), (5, some (kT [iV (zeroI a0)])), (7, some (kT [iV a1, iV b1])), (8, some (kT [iV a1])), (9, none), (10, some (kT [iV (zeroI a1)])), (11, some (kT [iV (zeroI a0), iV (zeroI a1)])), (12, some (kT [iV a2, iV b2])), (13, some (kT [iV a2])), (14, some (kT [iV a0, iV a1, iV a2]))]) (CO.load 1 false (Opd.k (AV.ptr 1 1))) (AV.sl 11 0 2 none 1))
    (L5 : PureA cxM (CO.call (Opd.k (AV.fn 71 [] [])) [Opd.k (iV a2)]) (iV (zeroI a2)))
    (L6 : PureA cxM (CO.call (Opd.k (AV.fn 70 [] [])) [Opd.k (iV a2)]) (AV.bool true))
    (L7 : ReadsV (hOf 10 [(0, kF [iV a0, iV b0, iV a1, iV b1, iV a2, iV b2, iV a3, iV b3]), (1, kT [AV.sl 9 0 2 none 1, AV.sl 6 0 1 none 1, iV 0]), (2, kT [iV a0, iV b0]), (3, kT [iV a0]), (5, kT [iV (zeroI a0)]), (6, kT [iV (zeroI a0)]), (7, kT [iV a1, iV b1]), (8, kT [iV a1]), (9, kT [iV a0, iV a1])]) (CO.load 1 false (Opd.k (AV.ptr 1 1))) (AV.sl 6 0 1 none 1))
    (L8 : PureA cxM (CO.call (Opd.k (AV.fn 71 [] [])) [Opd.k (iV a1)]) (iV (zeroI a1)))
    (L9 : PureA cxM (CO.call (Opd.k (AV.fn 70 [] [])) [Opd.k (iV a1)]) (AV.bool true))
    (L10 : ReadsV (hOf 5 [(0, kF [iV a0, iV b0, iV a1, iV b1, iV a2, iV b2, iV a3, iV b3]), (1, kT [AV.sl 4 0 1 none 1, AV.snil, iV 0]), (2, kT [iV a0, iV b0]), (3, kT [iV a0]), (4, kT [iV a0])]) (CO.load 1 false (Opd.k (AV.ptr 1 1))) AV.snil)
    (L11 : PureA cxM (CO.call (Opd.k (AV.fn 71 [] [])) [Opd.k (iV a0)]) (iV (zeroI a0)))
    (L12 : PureA cxM (CO.call (Opd.k (AV.fn 70 [] [])) [Opd.k (iV a0)]) (AV.bool true)) :
    Tri Tryz.prog 47 1 (cc30) (putArgs [.sl 0 0 4 cap 2] 0 .leaf) (hOf 1 [(0, kF [.int .i64 a0, .int .i64 b0, .int .i64 a1, .int .i64 b1, .int .i64 a2, .int .i64 b2, .int .i64 a3, .int .i64 b3])]) (Fl.ret) (ofL [(2, AV.ptr 1 0), (3, iV 0)]) (hOfO 22 [(0, some (kF [iV a0, iV b0, iV a1, iV b1, iV a2, iV b2, iV a3, iV b3])), (1, some (kT [AV.sl 19 0 4 none 1, AV.sl 21 0 4 none 1, iV 0])), (2, some (kT [iV a0, iV b0])), (3, some (kT [iV a0])), (5, some (kT [iV (zeroI a0)])), (7, some (kT [iV a1, iV b1])), (8, some (kT [iV a1])), (10, some (kT [iV (zeroI a1)])), (12, some (kT [iV a2, iV b2])), (13, some (kT [iV a2])), (14, none), (15, some (kT [iV (zeroI a2)])), (16, none), (17, some (kT [iV a3, iV b3])), (18, some (kT [iV a3])), (19, some (kT [iV a0, iV a1, iV a2, iV a3])), (20, some (kT [iV (zeroI a3)])), (21, some (kT [iV (zeroI a0), iV (zeroI a1), iV (zeroI a2), iV (zeroI a3)]))]) :=
  Tri.of mixedT cxM_ok 60 200 (ans := [.n, .n, .p (some 20) (.bool true), .n, .p (some 40) (.int .i64 (zeroI a0)), .n, .p (some 20) (.bool true), .n, .p (some 40) (.int .i64 (zeroI a1)), .n, .p (some 20) (.bool true), .n, .p (some 40) (.int .i64 (zeroI a2)), .n, .p (some 20) (.bool true), .n, .p (some 40) (.int .i64 (zeroI a3)), .n]) (ks := [2, 3]) (vs := [AV.ptr 1 0, iV 0]) (p := (ReadsV (hOfO 20 [(0, some (kF [iV a0, iV b0, iV a1, iV b1, iV a2, iV b2, iV a3, iV b3])), (1, some (kT [AV.sl 19 0 4 none 1, AV.sl 16 0 3 none 1, iV 0])), (2, some (kT [iV a0, iV b0])), (3, some (kT [iV a0])), (5, some (kT [iV (zeroI a0)])), (7, some (kT [iV a1, iV b1])), (8, some (kT [iV a1])), (10, some (kT [iV (zeroI a1)])), (12, some (kT [iV a2, iV b2])), (13, some (kT [iV a2])), (14, none), (15, some (kT [iV (zeroI a2)])), (16, some (kT [iV (zeroI a0), iV (zeroI a1), iV (zeroI a2)])), (17, some (kT [iV a3, iV b3])), (18, some (kT [iV a3])), (19, some (kT [iV a0, iV a1, iV a2, iV a3]))]) (CO.load 1 false (Opd.k (AV.ptr 1 1))) (AV.sl 16 0 3 none 1)) ∧ (ReadsV (hOfO 20 [(0, some (kF [iV a0, iV b0, iV a1, iV b1, iV a2, iV b2, iV a3, iV b3])), (1, some (kT [AV.sl 19 0 4 none 1, AV.sl 16 0 3 none 1, iV 0])), (2, some (kT [iV a0, iV b0])), (3, some (kT [iV a0])), (5, some (kT [iV (zeroI a0)])), (7, some (kT [iV a1, iV b1])), (8, some (kT [iV a1])), (10, some (kT [iV (zeroI a1)])), (12, some (kT [iV a2, iV b2])), (13, some (kT [iV a2])), (14, none), (15, some (kT [iV (zeroI a2)])), (16, some (kT [iV (zeroI a0), iV (zeroI a1), iV (zeroI a2)])), (17, some (kT [iV a3, iV b3])), (18, some (kT [iV a3])), (19, some (kT [iV a0, iV a1, iV a2, iV a3]))]) (CO.load 1 false (Opd.k (AV.ptr 1 1))) (AV.sl 16 0 3 none 1)) ∧ (PureA cxM (CO.call (Opd.k (AV.fn 71 [] [])) [Opd.k (iV a3)]) (iV (zeroI a3))) ∧ (PureA cxM (CO.call (Opd.k (AV.fn 70 [] [])) [Opd.k (iV a3)]) (AV.bool true)) ∧ (ReadsV (hOfO 15 [(0, some (kF [iV a0, iV b0, iV a1, iV b1, iV a2, iV b2, iV a3, iV b3])), (1, some (kT [AV.sl 14 0 3 none 1, AV.sl 11 0 2 none 1, iV 0])), (2, some (kT [iV a0, iV b0])), (3, some (kT [iV a0])), (5, some (kT [iV (zeroI a0)])), (7, some (kT [iV a1, iV b1])), (8, some (kT [iV a1])), (9, none), (10, some (kT [iV (zeroI a1)])), (11, some (kT [iV (zeroI a0), iV (zeroI a1)])), (12, some (kT [iV a2, iV b2])), (13, some (kT [iV a2])), (14, some (kT [iV a0, iV a1, iV a2]))]) (CO.load 1 false (Opd.k (AV.ptr 1 1))) (AV.sl 11 0 2 none 1)) ∧ (ReadsV (hOfO 15 [(0, some (kF [iV a0, iV b0, iV a1, iV b1, iV a2, iV b2, iV a3, iV b3])), (1, some (kT [AV.sl 14 0 3 none 1, AV.sl 11 0 2 none 1, iV 0])), (2, some (kT [iV a0, iV b0])), (3, some (kT [iV a0])), (5, some (kT [iV (zeroI a0)])), (7, some (kT [iV a1, iV b1])), (8, some (kT [iV a1])), (9, none), (10, some (kT [iV (zeroI a1)])), (11, some (kT [iV (zeroI a0), iV (zeroI a1)])), (12, some (kT [iV a2, iV b2])), (13, some (kT [iV a2])), (14, some (kT [iV a0, iV a1, iV a2]))]) (CO.load 1 false (Opd.k (AV.ptr 1 1))) (AV.sl 11 0 2 none 1)) ∧ (PureA cxM (CO.call (Opd.k (AV.fn 71 [] [])) [Opd.k (iV a2)]) (iV (zeroI a2))) ∧ (PureA cxM (CO.call (Opd.k (AV.fn 70 [] [])) [Opd.k (iV a2)]) (AV.bool true)) ∧ (ReadsV (hOf 10 [(0, kF [iV a0, iV b0, iV a1, iV b1, iV a2, iV b2, iV a3, iV b3]), (1, kT [AV.sl 9 0 2 none 1, AV.sl 6 0 1 none 1, iV 0]), (2, kT [iV a0, iV b0]), (3, kT [iV a0]), (5, kT [iV (zeroI a0)]), (6, kT [iV (zeroI a0)]), (7, kT [iV a1, iV b1]), (8, kT [iV a1]), (9, kT [iV a0, iV a1])]) (CO.load 1 false (Opd.k (AV.ptr 1 1))) (AV.sl 6 0 1 none 1)) ∧ (ReadsV (hOf 10 [(0, kF [iV a0, iV b0, iV a1, iV b1, iV a2, iV b2, iV a3, iV b3]), (1, kT [AV.sl 9 0 2 none 1, AV.sl 6 0 1 none 1, iV 0]), (2, kT [iV a0, iV b0]), (3, kT [iV a0]), (5, kT [iV (zeroI a0)]), (6, kT [iV (zeroI a0)]), (7, kT [iV a1, iV b1]), (8, kT [iV a1]), (9, kT [iV a0, iV a1])]) (CO.load 1 false (Opd.k (AV.ptr 1 1))) (AV.sl 6 0 1 none 1)) ∧ (PureA cxM (CO.call (Opd.k (AV.fn 71 [] [])) [Opd.k (iV a1)]) (iV (zeroI a1))) ∧ (PureA cxM (CO.call (Opd.k (AV.fn 70 [] [])) [Opd.k (iV a1)]) (AV.bool true)) ∧ (ReadsV (hOf 5 [(0, kF [iV a0, iV b0, iV a1, iV b1, iV a2, iV b2, iV a3, iV b3]), (1, kT [AV.sl 4 0 1 none 1, AV.snil, iV 0]), (2, kT [iV a0, iV b0]), (3, kT [iV a0]), (4, kT [iV a0])]) (CO.load 1 false (Opd.k (AV.ptr 1 1))) AV.snil) ∧ (ReadsV (hOf 5 [(0, kF [iV a0, iV b0, iV a1, iV b1, iV a2, iV b2, iV a3, iV b3]), (1, kT [AV.sl 4 0 1 none 1, AV.snil, iV 0]), (2, kT [iV a0, iV b0]), (3, kT [iV a0]), (4, kT [iV a0])]) (CO.load 1 false (Opd.k (AV.ptr 1 1))) AV.snil) ∧ (PureA cxM (CO.call (Opd.k (AV.fn 71 [] [])) [Opd.k (iV a0)]) (iV (zeroI a0))) ∧ (PureA cxM (CO.call (Opd.k (AV.fn 70 [] [])) [Opd.k (iV a0)]) (AV.bool true)) ∧ (True)) (by kernel_rfl) ⟨L1, L1, L2, L3, L4, L4, L5, L6, L7, L7, L8, L9, L10, L10, L11, L12, trivial⟩
theorem r30_nil   :
    Tri Tryz.prog 47 0 (cc30) (putArgs [.esl] 0 .leaf) (hOf 0 []) (Fl.ret) (ofL [(2, AV.ptr 0 0), (3, iV 0)]) (hOf 1 [(0, kT [AV.snil, AV.snil, iV 0])]) :=
  Tri.of mixedT cxM_ok 60 200 (ans := [.n, .n]) (ks := [2, 3]) (vs := [AV.ptr 0 0, iV 0]) (p := True) (by kernel_rfl) trivial
theorem r30_0 (cap : Option Nat)  :
    Tri Tryz.prog 47 1 (cc30) (putArgs [.sl 0 0 0 cap 2] 0 .leaf) (hOf 1 [(0, kF [])]) (Fl.ret) (ofL [(2, AV.ptr 1 0), (3, iV 0)]) (hOf 2 [(0, kF []), (1, kT [AV.snil, AV.snil, iV 0])]) :=
  Tri.of mixedT cxM_ok 60 200 (ans := [.n, .n]) (ks := [2, 3]) (vs := [AV.ptr 1 0, iV 0]) (p := True) (by kernel_rfl) trivial
theorem r30_many (cap : Option Nat) (n : Nat) (cs : List AV) (L1 : decide (4 < Int.ofNat n) = true) :
    Tri Tryz.prog 47 1 (cc30) (putArgs [.sl 0 0 n cap 2] 0 .leaf) (hOf 1 [(0, kF cs)]) (Fl.ret) (ofL [(2, AV.pnil), (3, iV 171)]) (hOf 1 [(0, kF cs)]) :=
  Tri.of mixedT cxM_ok 60 200 (ans := [.t]) (ks := [2, 3]) (vs := [AV.pnil, iV 171]) (p := (decide (4 < Int.ofNat n) = true) ∧ (True)) (by kernel_rfl) ⟨L1, trivial⟩
end Go.Ab
/- red.New: its error, for any reductions. -/
namespace Go.Ab
open Go.Proofs Go.RowKit
def redG : List (Int × Int) → Int
  | [] => 0
  | r :: l => if r.1 < 1 ∨ 7 < r.1 then 140 else redG l
def redE (l : List (Int × Int)) : Int := if 4 < l.length then 171 else redG l
theorem ca70y {a : Int} (h1 : 1 ≤ a) (h2 : a ≤ 7) (h : H) : Ca cxM 70 [.int .i64 a] h (.bool true) h := by
  have := Ca.of (cx := cxM) (n := 50) (f := 70) (args := [.int .i64 a]) (h := h) (h' := h) (ans := [.t, .t, .t]) (v := .bool (decide (a ≤ 7))) (p := (decide (1 ≤ a) = true) ∧ (decide (1 ≤ a) = true) ∧ (decide (1 ≤ a) = true) ∧ True) (by kernel_rfl) ⟨dTr h1, dTr h1, dTr h1, trivial⟩
  rwa [dTr h2] at this
theorem ca70n {a : Int} (hn : a < 1 ∨ 7 < a) (h : H) : Ca cxM 70 [.int .i64 a] h (.bool false) h := by
  by_cases h1 : 1 ≤ a
  · have := Ca.of (cx := cxM) (n := 50) (f := 70) (args := [.int .i64 a]) (h := h) (h' := h) (ans := [.t, .t, .t]) (v := .bool (decide (a ≤ 7))) (p := (decide (1 ≤ a) = true) ∧ (decide (1 ≤ a) = true) ∧ (decide (1 ≤ a) = true) ∧ True) (by kernel_rfl) ⟨dTr h1, dTr h1, dTr h1, trivial⟩
    rwa [dFa (by omega)] at this
  · exact Ca.of (cx := cxM) (n := 50) (f := 70) (args := [.int .i64 a]) (h := h) (h' := h) (ans := [.f, .f, .f]) (v := .bool false) (p := (decide (1 ≤ a) = false) ∧ (decide (1 ≤ a) = false) ∧ (decide (1 ≤ a) = false) ∧ True) (by kernel_rfl) ⟨dFa h1, dFa h1, dFa h1, trivial⟩
theorem ca71 (a : Int) (h : H) : Ca cxM 71 [.int .i64 a] h (.int .i64 (zeroI a)) h := by
  unfold zeroI
  by_cases h2 : a = 2
  · rw [if_pos h2]
    exact Ca.of (cx := cxM) (n := 50) (f := 71) (args := [.int .i64 a]) (h := h) (h' := h) (ans := [.t]) (v := .int .i64 1) (p := (decide (a = 2) = true) ∧ True) (by kernel_rfl) ⟨dTr h2, trivial⟩
  · skip
    by_cases h3 : a = 3
    · rw [if_neg h2, if_pos h3]
      exact Ca.of (cx := cxM) (n := 50) (f := 71) (args := [.int .i64 a]) (h := h) (h' := h) (ans := [.f, .t]) (v := .int .i64 9223372036854775807) (p := (decide (a = 3) = true) ∧ (decide (a = 2) = false) ∧ True) (by kernel_rfl) ⟨dTr h3, dFa h2, trivial⟩
    · skip
      by_cases h4 : a = 4
      · rw [if_neg h2, if_neg h3, if_pos h4]
        exact Ca.of (cx := cxM) (n := 50) (f := 71) (args := [.int .i64 a]) (h := h) (h' := h) (ans := [.f, .f, .t]) (v := .int .i64 (-9223372036854775808)) (p := (decide (a = 4) = true) ∧ (decide (a = 3) = false) ∧ (decide (a = 2) = false) ∧ True) (by kernel_rfl) ⟨dTr h4, dFa h3, dFa h2, trivial⟩
      · skip
        by_cases h5 : a = 5
        · rw [if_neg h2, if_neg h3, if_neg h4, if_pos h5]
          exact Ca.of (cx := cxM) (n := 50) (f := 71) (args := [.int .i64 a]) (h := h) (h' := h) (ans := [.f, .f, .f, .t]) (v := .int .i64 (-1)) (p := (decide (a = 5) = true) ∧ (decide (a = 4) = false) ∧ (decide (a = 3) = false) ∧ (decide (a = 2) = false) ∧ True) (by kernel_rfl) ⟨dTr h5, dFa h4, dFa h3, dFa h2, trivial⟩
        · skip
          rw [if_neg h2, if_neg h3, if_neg h4, if_neg h5]
          exact Ca.of (cx := cxM) (n := 50) (f := 71) (args := [.int .i64 a]) (h := h) (h' := h) (ans := [.f, .f, .f, .f]) (v := .int .i64 0) (p := (decide (a = 5) = false) ∧ (decide (a = 4) = false) ∧ (decide (a = 3) = false) ∧ (decide (a = 2) = false) ∧ True) (by kernel_rfl) ⟨dFa h5, dFa h4, dFa h3, dFa h2, trivial⟩
theorem gy (a : Int) (h1 : ¬ (a < 1 ∨ 7 < a)) : PureA cxM (CO.call (Opd.k (AV.fn 70 [] [])) [Opd.k (AV.int IntKind.i64 a)]) (AV.bool true) := ⟨fun h => ⟨.inr (.inr ⟨70, [.int .i64 a], h, rfl, ca70y (by omega) (by omega) h⟩)⟩⟩
theorem gn (a : Int) (h1 : a < 1 ∨ 7 < a) : PureA cxM (CO.call (Opd.k (AV.fn 70 [] [])) [Opd.k (AV.int IntKind.i64 a)]) (AV.bool false) := ⟨fun h => ⟨.inr (.inr ⟨70, [.int .i64 a], h, rfl, ca70n h1 h⟩)⟩⟩
theorem gz (a : Int) : PureA cxM (CO.call (Opd.k (AV.fn 71 [] [])) [Opd.k (AV.int IntKind.i64 a)]) (AV.int IntKind.i64 (zeroI a)) := ⟨fun h => ⟨.inr (.inr ⟨71, [.int .i64 a], h, rfl, ca71 a h⟩)⟩⟩
theorem comp30 : comp Tryz.prog Tryz.f30 = some cf30 := by kernel_rfl
theorem con30 {cap : Option Nat} (l : List (Int × Int)) (n : Nat) (hn : n = l.length) : ∃ k v h', Con Tryz.prog k 30 [.sl 0 0 n cap 2] (hOf 1 [(0, .cells false (cell2 l))]) (.tup [v, .int .i64 (redE l)]) h' := by
  by_cases h4 : 4 < l.length
  · rw [show redE l = 171 by simp [redE, h4]]
    exact ⟨1, .pnil, _, (r30_many cap n (cell2 l) (dTr (by simp; omega))).con (fl := .ret) Tryz.func30 comp30 rfl (.inr rfl) rfl⟩
  · have e : redE l = redG l := by unfold redE; rw [if_neg h4]
    rw [e]
    subst hn
    match l, h4 with
    | [], _ => exact ⟨1, _, _, (r30_0 cap).con (fl := .ret) Tryz.func30 comp30 rfl (.inr rfl) rfl⟩
    | [(a0, b0)], _ =>
      by_cases q0 : a0 < 1 ∨ 7 < a0
      · rw [show redG [(a0, b0)] = 140 by simp only [redG]; simp only [if_pos q0]]
        exact ⟨1, .pnil, _, (r30_1_0_no cap a0 b0 (gn _ q0)).con (fl := .ret) Tryz.func30 comp30 rfl (.inr rfl) rfl⟩
      rw [show redG [(a0, b0)] = 0 by simp only [redG]; simp only [if_neg q0]]
      exact ⟨1, .ptr 1 0, _, (r30_1_ok cap a0 b0 ⟨_, rfl⟩ (gz _) (gy _ q0)).con (fl := .ret) Tryz.func30 comp30 rfl (.inr rfl) rfl⟩
    | [(a0, b0), (a1, b1)], _ =>
      by_cases q0 : a0 < 1 ∨ 7 < a0
      · rw [show redG [(a0, b0), (a1, b1)] = 140 by simp only [redG]; simp only [if_pos q0]]
        exact ⟨1, .pnil, _, (r30_2_0_no cap a0 b0 a1 b1 (gn _ q0)).con (fl := .ret) Tryz.func30 comp30 rfl (.inr rfl) rfl⟩
      by_cases q1 : a1 < 1 ∨ 7 < a1
      · rw [show redG [(a0, b0), (a1, b1)] = 140 by simp only [redG]; simp only [if_neg q0, if_pos q1]]
        exact ⟨1, .pnil, _, (r30_2_1_no cap a0 b0 a1 b1 (gn _ q1) ⟨_, rfl⟩ (gz _) (gy _ q0)).con (fl := .ret) Tryz.func30 comp30 rfl (.inr rfl) rfl⟩
      rw [show redG [(a0, b0), (a1, b1)] = 0 by simp only [redG]; simp only [if_neg q0, if_neg q1]]
      exact ⟨1, .ptr 1 0, _, (r30_2_ok cap a0 b0 a1 b1 ⟨_, rfl⟩ (gz _) (gy _ q1) ⟨_, rfl⟩ (gz _) (gy _ q0)).con (fl := .ret) Tryz.func30 comp30 rfl (.inr rfl) rfl⟩
    | [(a0, b0), (a1, b1), (a2, b2)], _ =>
      by_cases q0 : a0 < 1 ∨ 7 < a0
      · rw [show redG [(a0, b0), (a1, b1), (a2, b2)] = 140 by simp only [redG]; simp only [if_pos q0]]
        exact ⟨1, .pnil, _, (r30_3_0_no cap a0 b0 a1 b1 a2 b2 (gn _ q0)).con (fl := .ret) Tryz.func30 comp30 rfl (.inr rfl) rfl⟩
      by_cases q1 : a1 < 1 ∨ 7 < a1
      · rw [show redG [(a0, b0), (a1, b1), (a2, b2)] = 140 by simp only [redG]; simp only [if_neg q0, if_pos q1]]
        exact ⟨1, .pnil, _, (r30_3_1_no cap a0 b0 a1 b1 a2 b2 (gn _ q1) ⟨_, rfl⟩ (gz _) (gy _ q0)).con (fl := .ret) Tryz.func30 comp30 rfl (.inr rfl) rfl⟩
      by_cases q2 : a2 < 1 ∨ 7 < a2
      · rw [show redG [(a0, b0), (a1, b1), (a2, b2)] = 140 by simp only [redG]; simp only [if_neg q0, if_neg q1, if_pos q2]]
        exact ⟨1, .pnil, _, (r30_3_2_no cap a0 b0 a1 b1 a2 b2 (gn _ q2) ⟨_, rfl⟩ (gz _) (gy _ q1) ⟨_, rfl⟩ (gz _) (gy _ q0)).con (fl := .ret) Tryz.func30 comp30 rfl (.inr rfl) rfl⟩
      rw [show redG [(a0, b0), (a1, b1), (a2, b2)] = 0 by simp only [redG]; simp only [if_neg q0, if_neg q1, if_neg q2]]
      exact ⟨1, .ptr 1 0, _, (r30_3_ok cap a0 b0 a1 b1 a2 b2 ⟨_, rfl⟩ (gz _) (gy _ q2) ⟨_, rfl⟩ (gz _) (gy _ q1) ⟨_, rfl⟩ (gz _) (gy _ q0)).con (fl := .ret) Tryz.func30 comp30 rfl (.inr rfl) rfl⟩
    | [(a0, b0), (a1, b1), (a2, b2), (a3, b3)], _ =>
      by_cases q0 : a0 < 1 ∨ 7 < a0
      · rw [show redG [(a0, b0), (a1, b1), (a2, b2), (a3, b3)] = 140 by simp only [redG]; simp only [if_pos q0]]
        exact ⟨1, .pnil, _, (r30_4_0_no cap a0 b0 a1 b1 a2 b2 a3 b3 (gn _ q0)).con (fl := .ret) Tryz.func30 comp30 rfl (.inr rfl) rfl⟩
      by_cases q1 : a1 < 1 ∨ 7 < a1
      · rw [show redG [(a0, b0), (a1, b1), (a2, b2), (a3, b3)] = 140 by simp only [redG]; simp only [if_neg q0, if_pos q1]]
        exact ⟨1, .pnil, _, (r30_4_1_no cap a0 b0 a1 b1 a2 b2 a3 b3 (gn _ q1) ⟨_, rfl⟩ (gz _) (gy _ q0)).con (fl := .ret) Tryz.func30 comp30 rfl (.inr rfl) rfl⟩
      by_cases q2 : a2 < 1 ∨ 7 < a2
      · rw [show redG [(a0, b0), (a1, b1), (a2, b2), (a3, b3)] = 140 by simp only [redG]; simp only [if_neg q0, if_neg q1, if_pos q2]]
        exact ⟨1, .pnil, _, (r30_4_2_no cap a0 b0 a1 b1 a2 b2 a3 b3 (gn _ q2) ⟨_, rfl⟩ (gz _) (gy _ q1) ⟨_, rfl⟩ (gz _) (gy _ q0)).con (fl := .ret) Tryz.func30 comp30 rfl (.inr rfl) rfl⟩
      by_cases q3 : a3 < 1 ∨ 7 < a3
      · rw [show redG [(a0, b0), (a1, b1), (a2, b2), (a3, b3)] = 140 by simp only [redG]; simp only [if_neg q0, if_neg q1, if_neg q2, if_pos q3]]
        exact ⟨1, .pnil, _, (r30_4_3_no cap a0 b0 a1 b1 a2 b2 a3 b3 (gn _ q3) ⟨_, rfl⟩ (gz _) (gy _ q2) ⟨_, rfl⟩ (gz _) (gy _ q1) ⟨_, rfl⟩ (gz _) (gy _ q0)).con (fl := .ret) Tryz.func30 comp30 rfl (.inr rfl) rfl⟩
      rw [show redG [(a0, b0), (a1, b1), (a2, b2), (a3, b3)] = 0 by simp only [redG]; simp only [if_neg q0, if_neg q1, if_neg q2, if_neg q3]]
      exact ⟨1, .ptr 1 0, _, (r30_4_ok cap a0 b0 a1 b1 a2 b2 a3 b3 ⟨_, rfl⟩ (gz _) (gy _ q3) ⟨_, rfl⟩ (gz _) (gy _ q2) ⟨_, rfl⟩ (gz _) (gy _ q1) ⟨_, rfl⟩ (gz _) (gy _ q0)).con (fl := .ret) Tryz.func30 comp30 rfl (.inr rfl) rfl⟩
    | _ :: _ :: _ :: _ :: _ :: _, h4 => exact absurd (by simp) h4
theorem con30_nil : ∃ k v h', Con Tryz.prog k 30 [.esl] (hOf 0 []) (.tup [v, .int .i64 (redE [])]) h' :=
  ⟨0, _, _, r30_nil.con (fl := .ret) Tryz.func30 comp30 rfl (.inr rfl) rfl⟩
theorem red_calls (l : List (Int × Int)) (A : Option Addr) (c : Nat) (w : World) (hc : l.length ≤ c)
    (hcell : 0 < l.length → ∃ ad, A = some ad ∧ ∀ j p, l[j]? = some p → w.cell? (ad.add (j * 2)) = some (.int .i64 p.1) ∧ w.cell? (ad.add (j * 2 + 1)) = some (.int .i64 p.2)) :
    Calls Tryz.prog 30 #[.slice A l.length c] w fun e w' => (∃ v_ : Value, e = .returned (.tuple #[v_, .int .i64 (redE l)])) ∧ Below w.heap.size w w' := by
  by_cases hl : 0 < l.length
  · obtain ⟨ad, rfl, hcs⟩ := hcell hl
    obtain ⟨L, e1, e2, hh⟩ := hr_row (ad.off + c * 2) (w := w) (ad := ad) (cs := cell2 l) (vals := l.flatMap fun c => [.int .i64 c.1, .int .i64 c.2]) (by rw [flat2_len]; omega)
      (by
        intro i v hv
        obtain ⟨p, h1, h2⟩ := flat2_get hv
        obtain ⟨h3, h4⟩ := hcs _ p h1
        rcases h2 with ⟨q, rfl⟩ | ⟨q, rfl⟩
        · rw [show i = i / 2 * 2 by omega]; exact h3
        · rw [show i = i / 2 * 2 + 1 by omega]; exact h4) (fun σ => cell2_lr σ l)
    subst e1
    obtain ⟨k, v, h', c1⟩ := con30 (cap := none) l l.length rfl
    refine con_calls (args' := [.slice (some ⟨L.blk, L.base, none⟩) l.length c]) c1 (by intro b x h; simp at h; exact ⟨_, h.2⟩) hh (.cons (.sl (L := L) rfl hc (by intro k hk; cases hk) (by omega) e2 (.inr rfl)) (.nil _)) (one0_up L (cell2 l))
  · obtain rfl : l = [] := by cases l with | nil => rfl | cons a r => simp at hl
    obtain ⟨k, v, h', c1⟩ := con30_nil
    refine con_calls (σ := fun _ => none) (args' := [.slice A 0 c]) c1 (by intro b x h; cases h) (HR.none 0 w) (.cons (.esl A c) (.nil _)) (fun _ _ => rfl)
end Go.Ab
set_option maxRecDepth 100000
namespace Go.Ab
open Go.Proofs
def sh36 (kd lo hi step items stages : Int) : Bk := kT [.int .i64 kd, .int .i64 lo, .int .i64 hi, .int .i64 step, .int .i64 items, .int .i64 stages]
def st36 (o : AV) (cur : Int) : TS := ofL [(1, .ptr 0 0), (4, o), (5, .int .i64 cur)]
def hp36 (S : Bk) (B : Option Bk) : H := hOfO 2 [(0, some S), (1, B)]
def hq36 (S : Bk) (a b : Int) (X : List AV) : H := hOfO 4 [(0, some S), (1, none), (2, some (kT [.int .i64 a, .int .i64 b])), (3, some (kT X))]
def it36 (o : AV) (it : Int) : TS := ofL [(1, .ptr 0 0), (4, o), (7, .int .i64 it)]
def in36 (o : AV) (it k : Int) : TS := ofL [(1, .ptr 0 0), (4, o), (7, .int .i64 it), (8, .int .i64 k)]
theorem f36_up_end (o : AV) (B : Option Bk) (i : Nat) (lo hi step cur : Int) (X : List AV) (L1 : decide (cur < hi) = false)
    (L2 : decide (step < 0) = false)
    (L3 : decide (0 < step) = true) :
    Tri Tryz.prog 134 0 (lb36_2) (st36 o cur) (hp36 (sh36 1 lo hi step 0 0) B) (Fl.exit 0) (ofL [(4, o)]) (hOfO 2 [(0, some (kT [iV 1, iV lo, iV hi, iV step, iV 0, iV 0])), (1, B)]) :=
  Tri.of mixedT cxM_ok 60 200 (ans := [.t, .t, .t, .t, .t, .f, .f, .f, .f, .f, .f, .f, .f, .f, .f, .f, .n]) (ks := [4]) (vs := [o]) (p := (decide (cur < hi) = false) ∧ (decide (step < 0) = false) ∧ (decide (cur < hi) = false) ∧ (decide (step < 0) = false) ∧ (decide (step < 0) = false) ∧ (decide (step < 0) = false) ∧ (decide (step < 0) = false) ∧ (decide (cur < hi) = false) ∧ (decide (cur < hi) = false) ∧ (decide (cur < hi) = false) ∧ (decide (cur < hi) = false) ∧ (decide (0 < step) = true) ∧ (decide (0 < step) = true) ∧ (decide (0 < step) = true) ∧ (decide (0 < step) = true) ∧ (decide (0 < step) = true) ∧ (True)) (by kernel_rfl) ⟨L1, L2, L1, L2, L2, L2, L2, L1, L1, L1, L1, L3, L3, L3, L3, L3, trivial⟩
theorem f36_dn_end (o : AV) (B : Option Bk) (i : Nat) (lo hi step cur : Int) (X : List AV) (L1 : decide (hi < cur) = false)
    (L2 : decide (step < 0) = true)
    (L3 : decide (0 < step) = false) :
    Tri Tryz.prog 134 0 (lb36_2) (st36 o cur) (hp36 (sh36 1 lo hi step 0 0) B) (Fl.exit 0) (ofL [(4, o)]) (hOfO 2 [(0, some (kT [iV 1, iV lo, iV hi, iV step, iV 0, iV 0])), (1, B)]) :=
  Tri.of mixedT cxM_ok 60 200 (ans := [.f, .f, .f, .f, .f, .n, .n, .n, .n, .t, .t, .t, .t, .n, .t, .n, .f]) (ks := [4]) (vs := [o]) (p := (decide (hi < cur) = false) ∧ (decide (step < 0) = true) ∧ (decide (step < 0) = true) ∧ (decide (step < 0) = true) ∧ (decide (step < 0) = true) ∧ (decide (step < 0) = true) ∧ (decide (0 < step) = false) ∧ (decide (0 < step) = false) ∧ (decide (0 < step) = false) ∧ (decide (0 < step) = false) ∧ (decide (0 < step) = false) ∧ (True)) (by kernel_rfl) ⟨L1, L2, L2, L2, L2, L2, L3, L3, L3, L3, L3, trivial⟩
theorem f36_up_many (o : AV) (B : Option Bk) (i : Nat) (lo hi step cur : Int) (X : List AV) (L1 : decide (200 < Int.ofNat (i + 1)) = true)
    (L2 : GivesA cxM (hOfO 3 [(0, some (kT [iV 1, iV lo, iV hi, iV step, iV 0, iV 0])), (1, B), (2, some (kT [iV cur, iV 0]))]) (CO.append 2 16 (Opd.k o) (Opd.k (AV.sl 2 0 1 none 2))) (AV.sl 3 0 (i + 1) none 2) (hOf 4 [(0, kT [iV 1, iV lo, iV hi, iV step, iV 0, iV 0]), (2, kT [iV cur, iV 0]), (3, kT X)]))
    (L3 : decide (cur < hi) = true)
    (L4 : decide (0 < step) = true) :
    Tri Tryz.prog 134 0 (lb36_2) (st36 o cur) (hp36 (sh36 1 lo hi step 0 0) B) (Fl.ret) (ofL [(2, AV.snil), (3, iV 151)]) (hOf 4 [(0, kT [iV 1, iV lo, iV hi, iV step, iV 0, iV 0]), (2, kT [iV cur, iV 0]), (3, kT X)]) :=
  Tri.of mixedT cxM_ok 60 200 (ans := [.t, .t, .t, .t, .t, .t, .t, .t, .t, .t, .t, .n, .v (some 51) (.sl 3 0 (i + 1) none 2) (hq36 (sh36 1 lo hi step 0 0) cur 0 X), .t]) (ks := [2, 3]) (vs := [AV.snil, iV 151]) (p := (decide (200 < Int.ofNat (i + 1)) = true) ∧ (GivesA cxM (hOfO 3 [(0, some (kT [iV 1, iV lo, iV hi, iV step, iV 0, iV 0])), (1, B), (2, some (kT [iV cur, iV 0]))]) (CO.append 2 16 (Opd.k o) (Opd.k (AV.sl 2 0 1 none 2))) (AV.sl 3 0 (i + 1) none 2) (hOf 4 [(0, kT [iV 1, iV lo, iV hi, iV step, iV 0, iV 0]), (2, kT [iV cur, iV 0]), (3, kT X)])) ∧ (decide (cur < hi) = true) ∧ (decide (cur < hi) = true) ∧ (decide (cur < hi) = true) ∧ (decide (cur < hi) = true) ∧ (decide (cur < hi) = true) ∧ (decide (cur < hi) = true) ∧ (decide (0 < step) = true) ∧ (decide (0 < step) = true) ∧ (decide (0 < step) = true) ∧ (decide (0 < step) = true) ∧ (decide (0 < step) = true) ∧ (True)) (by kernel_rfl) ⟨L1, L2, L3, L3, L3, L3, L3, L3, L4, L4, L4, L4, L4, trivial⟩
theorem f36_dn_many (o : AV) (B : Option Bk) (i : Nat) (lo hi step cur : Int) (X : List AV) (L1 : decide (200 < Int.ofNat (i + 1)) = true)
    (L2 : GivesA cxM (hOfO 3 [(0, some (kT [iV 1, iV lo, iV hi, iV step, iV 0, iV 0])), (1, B), (2, some (kT [iV cur, iV 0]))]) (CO.append 2 16 (Opd.k o) (Opd.k (AV.sl 2 0 1 none 2))) (AV.sl 3 0 (i + 1) none 2) (hOf 4 [(0, kT [iV 1, iV lo, iV hi, iV step, iV 0, iV 0]), (2, kT [iV cur, iV 0]), (3, kT X)]))
    (L3 : decide (hi < cur) = true)
    (L4 : decide (step < 0) = true)
    (L5 : decide (0 < step) = false) :
    Tri Tryz.prog 134 0 (lb36_2) (st36 o cur) (hp36 (sh36 1 lo hi step 0 0) B) (Fl.ret) (ofL [(2, AV.snil), (3, iV 151)]) (hOf 4 [(0, kT [iV 1, iV lo, iV hi, iV step, iV 0, iV 0]), (2, kT [iV cur, iV 0]), (3, kT X)]) :=
  Tri.of mixedT cxM_ok 60 200 (ans := [.f, .f, .f, .f, .f, .n, .n, .n, .n, .t, .t, .t, .t, .n, .t, .n, .t, .v (some 51) (.sl 3 0 (i + 1) none 2) (hq36 (sh36 1 lo hi step 0 0) cur 0 X), .t]) (ks := [2, 3]) (vs := [AV.snil, iV 151]) (p := (decide (200 < Int.ofNat (i + 1)) = true) ∧ (GivesA cxM (hOfO 3 [(0, some (kT [iV 1, iV lo, iV hi, iV step, iV 0, iV 0])), (1, B), (2, some (kT [iV cur, iV 0]))]) (CO.append 2 16 (Opd.k o) (Opd.k (AV.sl 2 0 1 none 2))) (AV.sl 3 0 (i + 1) none 2) (hOf 4 [(0, kT [iV 1, iV lo, iV hi, iV step, iV 0, iV 0]), (2, kT [iV cur, iV 0]), (3, kT X)])) ∧ (decide (hi < cur) = true) ∧ (decide (step < 0) = true) ∧ (decide (step < 0) = true) ∧ (decide (step < 0) = true) ∧ (decide (step < 0) = true) ∧ (decide (step < 0) = true) ∧ (decide (0 < step) = false) ∧ (decide (0 < step) = false) ∧ (decide (0 < step) = false) ∧ (decide (0 < step) = false) ∧ (decide (0 < step) = false) ∧ (True)) (by kernel_rfl) ⟨L1, L2, L3, L4, L4, L4, L4, L4, L5, L5, L5, L5, L5, trivial⟩
theorem f36_up_over (o : AV) (B : Option Bk) (i : Nat) (lo hi step cur : Int) (X : List AV) (L1 : decide (IntKind.i64.wrap (cur + step) < cur) = true)
    (L2 : decide (0 < step) = true)
    (L3 : decide (200 < Int.ofNat (i + 1)) = false)
    (L4 : GivesA cxM (hOfO 3 [(0, some (kT [iV 1, iV lo, iV hi, iV step, iV 0, iV 0])), (1, B), (2, some (kT [iV cur, iV 0]))]) (CO.append 2 16 (Opd.k o) (Opd.k (AV.sl 2 0 1 none 2))) (AV.sl 3 0 (i + 1) none 2) (hOf 4 [(0, kT [iV 1, iV lo, iV hi, iV step, iV 0, iV 0]), (2, kT [iV cur, iV 0]), (3, kT X)]))
    (L5 : decide (cur < hi) = true) :
    Tri Tryz.prog 134 0 (lb36_2) (st36 o cur) (hp36 (sh36 1 lo hi step 0 0) B) (Fl.exit 0) (ofL [(4, AV.sl 3 0 (i + 1) none 2)]) (hOf 4 [(0, kT [iV 1, iV lo, iV hi, iV step, iV 0, iV 0]), (2, kT [iV cur, iV 0]), (3, kT X)]) :=
  Tri.of mixedT cxM_ok 60 200 (ans := [.t, .t, .t, .t, .t, .t, .t, .t, .t, .t, .t, .n, .v (some 51) (.sl 3 0 (i + 1) none 2) (hq36 (sh36 1 lo hi step 0 0) cur 0 X), .f, .t, .t, .t, .t, .t, .t, .t, .t, .t, .t, .n]) (ks := [4]) (vs := [AV.sl 3 0 (i + 1) none 2]) (p := (decide (IntKind.i64.wrap (cur + step) < cur) = true) ∧ (decide (IntKind.i64.wrap (cur + step) < cur) = true) ∧ (decide (IntKind.i64.wrap (cur + step) < cur) = true) ∧ (decide (IntKind.i64.wrap (cur + step) < cur) = true) ∧ (decide (IntKind.i64.wrap (cur + step) < cur) = true) ∧ (decide (IntKind.i64.wrap (cur + step) < cur) = true) ∧ (decide (0 < step) = true) ∧ (decide (0 < step) = true) ∧ (decide (0 < step) = true) ∧ (decide (0 < step) = true) ∧ (decide (200 < Int.ofNat (i + 1)) = false) ∧ (GivesA cxM (hOfO 3 [(0, some (kT [iV 1, iV lo, iV hi, iV step, iV 0, iV 0])), (1, B), (2, some (kT [iV cur, iV 0]))]) (CO.append 2 16 (Opd.k o) (Opd.k (AV.sl 2 0 1 none 2))) (AV.sl 3 0 (i + 1) none 2) (hOf 4 [(0, kT [iV 1, iV lo, iV hi, iV step, iV 0, iV 0]), (2, kT [iV cur, iV 0]), (3, kT X)])) ∧ (decide (cur < hi) = true) ∧ (decide (cur < hi) = true) ∧ (decide (cur < hi) = true) ∧ (decide (cur < hi) = true) ∧ (decide (cur < hi) = true) ∧ (decide (cur < hi) = true) ∧ (decide (0 < step) = true) ∧ (decide (0 < step) = true) ∧ (decide (0 < step) = true) ∧ (decide (0 < step) = true) ∧ (decide (0 < step) = true) ∧ (True)) (by kernel_rfl) ⟨L1, L1, L1, L1, L1, L1, L2, L2, L2, L2, L3, L4, L5, L5, L5, L5, L5, L5, L2, L2, L2, L2, L2, trivial⟩
theorem f36_dn_over (o : AV) (B : Option Bk) (i : Nat) (lo hi step cur : Int) (X : List AV) (L1 : decide (cur < IntKind.i64.wrap (cur + step)) = true)
    (L2 : decide (step < 0) = true)
    (L3 : decide (0 < step) = false)
    (L4 : decide (200 < Int.ofNat (i + 1)) = false)
    (L5 : GivesA cxM (hOfO 3 [(0, some (kT [iV 1, iV lo, iV hi, iV step, iV 0, iV 0])), (1, B), (2, some (kT [iV cur, iV 0]))]) (CO.append 2 16 (Opd.k o) (Opd.k (AV.sl 2 0 1 none 2))) (AV.sl 3 0 (i + 1) none 2) (hOf 4 [(0, kT [iV 1, iV lo, iV hi, iV step, iV 0, iV 0]), (2, kT [iV cur, iV 0]), (3, kT X)]))
    (L6 : decide (hi < cur) = true) :
    Tri Tryz.prog 134 0 (lb36_2) (st36 o cur) (hp36 (sh36 1 lo hi step 0 0) B) (Fl.exit 0) (ofL [(4, AV.sl 3 0 (i + 1) none 2)]) (hOf 4 [(0, kT [iV 1, iV lo, iV hi, iV step, iV 0, iV 0]), (2, kT [iV cur, iV 0]), (3, kT X)]) :=
  Tri.of mixedT cxM_ok 60 200 (ans := [.f, .f, .f, .f, .f, .n, .n, .n, .n, .t, .t, .t, .t, .n, .t, .n, .t, .v (some 51) (.sl 3 0 (i + 1) none 2) (hq36 (sh36 1 lo hi step 0 0) cur 0 X), .f, .f, .f, .f, .f, .n, .n, .n, .n, .t, .t, .t, .n, .t, .n, .t]) (ks := [4]) (vs := [AV.sl 3 0 (i + 1) none 2]) (p := (decide (cur < IntKind.i64.wrap (cur + step)) = true) ∧ (decide (step < 0) = true) ∧ (decide (step < 0) = true) ∧ (decide (step < 0) = true) ∧ (decide (step < 0) = true) ∧ (decide (0 < step) = false) ∧ (decide (0 < step) = false) ∧ (decide (0 < step) = false) ∧ (decide (0 < step) = false) ∧ (decide (200 < Int.ofNat (i + 1)) = false) ∧ (GivesA cxM (hOfO 3 [(0, some (kT [iV 1, iV lo, iV hi, iV step, iV 0, iV 0])), (1, B), (2, some (kT [iV cur, iV 0]))]) (CO.append 2 16 (Opd.k o) (Opd.k (AV.sl 2 0 1 none 2))) (AV.sl 3 0 (i + 1) none 2) (hOf 4 [(0, kT [iV 1, iV lo, iV hi, iV step, iV 0, iV 0]), (2, kT [iV cur, iV 0]), (3, kT X)])) ∧ (decide (hi < cur) = true) ∧ (decide (step < 0) = true) ∧ (decide (step < 0) = true) ∧ (decide (step < 0) = true) ∧ (decide (step < 0) = true) ∧ (decide (step < 0) = true) ∧ (decide (0 < step) = false) ∧ (decide (0 < step) = false) ∧ (decide (0 < step) = false) ∧ (decide (0 < step) = false) ∧ (decide (0 < step) = false) ∧ (True)) (by kernel_rfl) ⟨L1, L2, L2, L2, L2, L3, L3, L3, L3, L4, L5, L6, L2, L2, L2, L2, L2, L3, L3, L3, L3, L3, trivial⟩
theorem f36_up_next (o : AV) (B : Option Bk) (i : Nat) (lo hi step cur : Int) (X : List AV) (L1 : decide (IntKind.i64.wrap (cur + step) < cur) = false)
    (L2 : decide (step < 0) = false)
    (L3 : decide (0 < step) = true)
    (L4 : decide (200 < Int.ofNat (i + 1)) = false)
    (L5 : GivesA cxM (hOfO 3 [(0, some (kT [iV 1, iV lo, iV hi, iV step, iV 0, iV 0])), (1, B), (2, some (kT [iV cur, iV 0]))]) (CO.append 2 16 (Opd.k o) (Opd.k (AV.sl 2 0 1 none 2))) (AV.sl 3 0 (i + 1) none 2) (hOf 4 [(0, kT [iV 1, iV lo, iV hi, iV step, iV 0, iV 0]), (2, kT [iV cur, iV 0]), (3, kT X)]))
    (L6 : decide (cur < hi) = true) :
    Tri Tryz.prog 134 0 (lb36_2) (st36 o cur) (hp36 (sh36 1 lo hi step 0 0) B) (Fl.norm) (ofL [(1, AV.ptr 0 0), (4, AV.sl 3 0 (i + 1) none 2), (5, iV (IntKind.i64.wrap (cur + step)))]) (hOf 4 [(0, kT [iV 1, iV lo, iV hi, iV step, iV 0, iV 0]), (2, kT [iV cur, iV 0]), (3, kT X)]) :=
  Tri.of mixedT cxM_ok 60 200 (ans := [.t, .t, .t, .t, .t, .t, .t, .t, .t, .t, .t, .n, .v (some 51) (.sl 3 0 (i + 1) none 2) (hq36 (sh36 1 lo hi step 0 0) cur 0 X), .f, .t, .t, .t, .t, .f, .f, .f, .f, .f, .f, .f, .f, .f, .f, .n]) (ks := [1, 4, 5]) (vs := [AV.ptr 0 0, AV.sl 3 0 (i + 1) none 2, iV (IntKind.i64.wrap (cur + step))]) (p := (decide (IntKind.i64.wrap (cur + step) < cur) = false) ∧ (decide (step < 0) = false) ∧ (decide (IntKind.i64.wrap (cur + step) < cur) = false) ∧ (decide (step < 0) = false) ∧ (decide (step < 0) = false) ∧ (decide (step < 0) = false) ∧ (decide (IntKind.i64.wrap (cur + step) < cur) = false) ∧ (decide (IntKind.i64.wrap (cur + step) < cur) = false) ∧ (decide (IntKind.i64.wrap (cur + step) < cur) = false) ∧ (decide (IntKind.i64.wrap (cur + step) < cur) = false) ∧ (decide (0 < step) = true) ∧ (decide (0 < step) = true) ∧ (decide (0 < step) = true) ∧ (decide (0 < step) = true) ∧ (decide (200 < Int.ofNat (i + 1)) = false) ∧ (GivesA cxM (hOfO 3 [(0, some (kT [iV 1, iV lo, iV hi, iV step, iV 0, iV 0])), (1, B), (2, some (kT [iV cur, iV 0]))]) (CO.append 2 16 (Opd.k o) (Opd.k (AV.sl 2 0 1 none 2))) (AV.sl 3 0 (i + 1) none 2) (hOf 4 [(0, kT [iV 1, iV lo, iV hi, iV step, iV 0, iV 0]), (2, kT [iV cur, iV 0]), (3, kT X)])) ∧ (decide (cur < hi) = true) ∧ (decide (cur < hi) = true) ∧ (decide (cur < hi) = true) ∧ (decide (cur < hi) = true) ∧ (decide (cur < hi) = true) ∧ (decide (cur < hi) = true) ∧ (decide (0 < step) = true) ∧ (decide (0 < step) = true) ∧ (decide (0 < step) = true) ∧ (decide (0 < step) = true) ∧ (decide (0 < step) = true) ∧ (True)) (by kernel_rfl) ⟨L1, L2, L1, L2, L2, L2, L1, L1, L1, L1, L3, L3, L3, L3, L4, L5, L6, L6, L6, L6, L6, L6, L3, L3, L3, L3, L3, trivial⟩
theorem f36_dn_next (o : AV) (B : Option Bk) (i : Nat) (lo hi step cur : Int) (X : List AV) (L1 : decide (cur < IntKind.i64.wrap (cur + step)) = false)
    (L2 : decide (step < 0) = true)
    (L3 : decide (0 < step) = false)
    (L4 : decide (200 < Int.ofNat (i + 1)) = false)
    (L5 : GivesA cxM (hOfO 3 [(0, some (kT [iV 1, iV lo, iV hi, iV step, iV 0, iV 0])), (1, B), (2, some (kT [iV cur, iV 0]))]) (CO.append 2 16 (Opd.k o) (Opd.k (AV.sl 2 0 1 none 2))) (AV.sl 3 0 (i + 1) none 2) (hOf 4 [(0, kT [iV 1, iV lo, iV hi, iV step, iV 0, iV 0]), (2, kT [iV cur, iV 0]), (3, kT X)]))
    (L6 : decide (hi < cur) = true) :
    Tri Tryz.prog 134 0 (lb36_2) (st36 o cur) (hp36 (sh36 1 lo hi step 0 0) B) (Fl.norm) (ofL [(1, AV.ptr 0 0), (4, AV.sl 3 0 (i + 1) none 2), (5, iV (IntKind.i64.wrap (cur + step)))]) (hOf 4 [(0, kT [iV 1, iV lo, iV hi, iV step, iV 0, iV 0]), (2, kT [iV cur, iV 0]), (3, kT X)]) :=
  Tri.of mixedT cxM_ok 60 200 (ans := [.f, .f, .f, .f, .f, .n, .n, .n, .n, .t, .t, .t, .t, .n, .t, .n, .t, .v (some 51) (.sl 3 0 (i + 1) none 2) (hq36 (sh36 1 lo hi step 0 0) cur 0 X), .f, .f, .f, .f, .f, .n, .n, .n, .n, .t, .t, .t, .n, .t, .n, .f]) (ks := [1, 4, 5]) (vs := [AV.ptr 0 0, AV.sl 3 0 (i + 1) none 2, iV (IntKind.i64.wrap (cur + step))]) (p := (decide (cur < IntKind.i64.wrap (cur + step)) = false) ∧ (decide (step < 0) = true) ∧ (decide (step < 0) = true) ∧ (decide (step < 0) = true) ∧ (decide (step < 0) = true) ∧ (decide (0 < step) = false) ∧ (decide (0 < step) = false) ∧ (decide (0 < step) = false) ∧ (decide (0 < step) = false) ∧ (decide (200 < Int.ofNat (i + 1)) = false) ∧ (GivesA cxM (hOfO 3 [(0, some (kT [iV 1, iV lo, iV hi, iV step, iV 0, iV 0])), (1, B), (2, some (kT [iV cur, iV 0]))]) (CO.append 2 16 (Opd.k o) (Opd.k (AV.sl 2 0 1 none 2))) (AV.sl 3 0 (i + 1) none 2) (hOf 4 [(0, kT [iV 1, iV lo, iV hi, iV step, iV 0, iV 0]), (2, kT [iV cur, iV 0]), (3, kT X)])) ∧ (decide (hi < cur) = true) ∧ (decide (step < 0) = true) ∧ (decide (step < 0) = true) ∧ (decide (step < 0) = true) ∧ (decide (step < 0) = true) ∧ (decide (step < 0) = true) ∧ (decide (0 < step) = false) ∧ (decide (0 < step) = false) ∧ (decide (0 < step) = false) ∧ (decide (0 < step) = false) ∧ (decide (0 < step) = false) ∧ (True)) (by kernel_rfl) ⟨L1, L2, L2, L2, L2, L3, L3, L3, L3, L4, L5, L6, L2, L2, L2, L2, L2, L3, L3, L3, L3, L3, trivial⟩
theorem i36_end (o : AV) (B : Option Bk) (i : Nat) (items stages it k : Int) (X : List AV) (L1 : decide (k < stages) = false) :
    Tri Tryz.prog 134 0 (lb36_0) (in36 o it k) (hp36 (sh36 2 0 0 0 items stages) B) (Fl.exit 4) (ofL [(1, AV.ptr 0 0), (4, o), (7, iV it)]) (hOfO 2 [(0, some (kT [iV 2, iV 0, iV 0, iV 0, iV items, iV stages])), (1, B)]) :=
  Tri.of mixedT cxM_ok 60 200 (ans := [.f]) (ks := [1, 4, 7]) (vs := [AV.ptr 0 0, o, iV it]) (p := (decide (k < stages) = false) ∧ (True)) (by kernel_rfl) ⟨L1, trivial⟩
theorem i36_next (o : AV) (B : Option Bk) (i : Nat) (items stages it k : Int) (X : List AV) (L1 : GivesA cxM (hOfO 3 [(0, some (kT [iV 2, iV 0, iV 0, iV 0, iV items, iV stages])), (1, B), (2, some (kT [iV it, iV k]))]) (CO.append 2 16 (Opd.k o) (Opd.k (AV.sl 2 0 1 none 2))) (AV.sl 3 0 (i + 1) none 2) (hOf 4 [(0, kT [iV 2, iV 0, iV 0, iV 0, iV items, iV stages]), (2, kT [iV it, iV k]), (3, kT X)]))
    (L2 : decide (k < stages) = true) :
    Tri Tryz.prog 134 0 (lb36_0) (in36 o it k) (hp36 (sh36 2 0 0 0 items stages) B) (Fl.norm) (ofL [(1, AV.ptr 0 0), (4, AV.sl 3 0 (i + 1) none 2), (7, iV it), (8, iV (IntKind.i64.wrap (k + 1)))]) (hOf 4 [(0, kT [iV 2, iV 0, iV 0, iV 0, iV items, iV stages]), (2, kT [iV it, iV k]), (3, kT X)]) :=
  Tri.of mixedT cxM_ok 60 200 (ans := [.t, .v (some 129) (.sl 3 0 (i + 1) none 2) (hq36 (sh36 2 0 0 0 items stages) it k X)]) (ks := [1, 4, 7, 8]) (vs := [AV.ptr 0 0, AV.sl 3 0 (i + 1) none 2, iV it, iV (IntKind.i64.wrap (k + 1))]) (p := (GivesA cxM (hOfO 3 [(0, some (kT [iV 2, iV 0, iV 0, iV 0, iV items, iV stages])), (1, B), (2, some (kT [iV it, iV k]))]) (CO.append 2 16 (Opd.k o) (Opd.k (AV.sl 2 0 1 none 2))) (AV.sl 3 0 (i + 1) none 2) (hOf 4 [(0, kT [iV 2, iV 0, iV 0, iV 0, iV items, iV stages]), (2, kT [iV it, iV k]), (3, kT X)])) ∧ (decide (k < stages) = true) ∧ (True)) (by kernel_rfl) ⟨L1, L2, trivial⟩
theorem o36_end (o o2 : AV) (B B2 : Option Bk) (i : Nat) (items stages it : Int) (L1 : decide (it < items) = false) :
    Tri Tryz.prog 134 0 (lb36_1) (it36 o it) (hp36 (sh36 2 0 0 0 items stages) B) (Fl.exit 2) (ofL [(4, o)]) (hOfO 2 [(0, some (kT [iV 2, iV 0, iV 0, iV 0, iV items, iV stages])), (1, B)]) :=
  Tri.of mixedT cxM_ok 60 200 (ans := [.f]) (ks := [4]) (vs := [o]) (p := (decide (it < items) = false) ∧ (True)) (by kernel_rfl) ⟨L1, trivial⟩
theorem o36_many (o o2 : AV) (B B2 : Option Bk) (i : Nat) (items stages it : Int) (L1 : decide (200 < Int.ofNat i) = true)
    (L2 : PureA cxM (CO.lenL (Opd.k o2)) (iV (Int.ofNat i)))
    (L3 : TriS Tryz.prog 134 0 lb36_0.loop (ofL [(1, AV.ptr 0 0), (4, o), (7, iV it), (8, iV 0)]) (hOfO 2 [(0, some (kT [iV 2, iV 0, iV 0, iV 0, iV items, iV stages])), (1, B)]) (Fl.exit 4) (ofL [(1, AV.ptr 0 0), (4, o2), (7, iV it)]) (hOfO 2 [(0, some (kT [iV 2, iV 0, iV 0, iV 0, iV items, iV stages])), (1, B2)]))
    (L4 : decide (it < items) = true) :
    Tri Tryz.prog 134 0 (lb36_1) (it36 o it) (hp36 (sh36 2 0 0 0 items stages) B) (Fl.ret) (ofL [(2, AV.snil), (3, iV 151)]) (hOfO 2 [(0, some (kT [iV 2, iV 0, iV 0, iV 0, iV items, iV stages])), (1, B2)]) :=
  Tri.of mixedT cxM_ok 60 200 (ans := [.t, .l [1, 4, 7, 8] (.exit 4) [(1, .ptr 0 0), (4, o2), (7, .int .i64 it)] (hp36 (sh36 2 0 0 0 items stages) B2), .p (some 131) (.int .i64 (.ofNat i)), .t]) (ks := [2, 3]) (vs := [AV.snil, iV 151]) (p := (decide (200 < Int.ofNat i) = true) ∧ (PureA cxM (CO.lenL (Opd.k o2)) (iV (Int.ofNat i))) ∧ (TriS Tryz.prog 134 0 lb36_0.loop (ofL [(1, AV.ptr 0 0), (4, o), (7, iV it), (8, iV 0)]) (hOfO 2 [(0, some (kT [iV 2, iV 0, iV 0, iV 0, iV items, iV stages])), (1, B)]) (Fl.exit 4) (ofL [(1, AV.ptr 0 0), (4, o2), (7, iV it)]) (hOfO 2 [(0, some (kT [iV 2, iV 0, iV 0, iV 0, iV items, iV stages])), (1, B2)])) ∧ (decide (it < items) = true) ∧ (True)) (by kernel_rfl) ⟨L1, L2, L3, L4, trivial⟩
theorem o36_next (o o2 : AV) (B B2 : Option Bk) (i : Nat) (items stages it : Int) (L1 : decide (200 < Int.ofNat i) = false)
    (L2 : PureA cxM (CO.lenL (Opd.k o2)) (iV (Int.ofNat i)))
    (L3 : TriS Tryz.prog 134 0 lb36_0.loop (ofL [(1, AV.ptr 0 0), (4, o), (7, iV it), (8, iV 0)]) (hOfO 2 [(0, some (kT [iV 2, iV 0, iV 0, iV 0, iV items, iV stages])), (1, B)]) (Fl.exit 4) (ofL [(1, AV.ptr 0 0), (4, o2), (7, iV it)]) (hOfO 2 [(0, some (kT [iV 2, iV 0, iV 0, iV 0, iV items, iV stages])), (1, B2)]))
    (L4 : decide (it < items) = true) :
    Tri Tryz.prog 134 0 (lb36_1) (it36 o it) (hp36 (sh36 2 0 0 0 items stages) B) (Fl.norm) (ofL [(1, AV.ptr 0 0), (4, o2), (7, iV (IntKind.i64.wrap (it + 1)))]) (hOfO 2 [(0, some (kT [iV 2, iV 0, iV 0, iV 0, iV items, iV stages])), (1, B2)]) :=
  Tri.of mixedT cxM_ok 60 200 (ans := [.t, .l [1, 4, 7, 8] (.exit 4) [(1, .ptr 0 0), (4, o2), (7, .int .i64 it)] (hp36 (sh36 2 0 0 0 items stages) B2), .p (some 131) (.int .i64 (.ofNat i)), .f]) (ks := [1, 4, 7]) (vs := [AV.ptr 0 0, o2, iV (IntKind.i64.wrap (it + 1))]) (p := (decide (200 < Int.ofNat i) = false) ∧ (PureA cxM (CO.lenL (Opd.k o2)) (iV (Int.ofNat i))) ∧ (TriS Tryz.prog 134 0 lb36_0.loop (ofL [(1, AV.ptr 0 0), (4, o), (7, iV it), (8, iV 0)]) (hOfO 2 [(0, some (kT [iV 2, iV 0, iV 0, iV 0, iV items, iV stages])), (1, B)]) (Fl.exit 4) (ofL [(1, AV.ptr 0 0), (4, o2), (7, iV it)]) (hOfO 2 [(0, some (kT [iV 2, iV 0, iV 0, iV 0, iV items, iV stages])), (1, B2)])) ∧ (decide (it < items) = true) ∧ (True)) (by kernel_rfl) ⟨L1, L2, L3, L4, trivial⟩
theorem m36_f0 (lo hi : Int)  :
    Tri Tryz.prog 134 0 (cc36) (putArgs [.agg [.int .i64 1, .int .i64 lo, .int .i64 hi, .int .i64 0, .int .i64 0, .int .i64 0]] 0 .leaf) (hOf 0 []) (Fl.ret) (ofL [(2, AV.snil), (3, iV 150)]) (hOf 1 [(0, kT [iV 1, iV lo, iV hi, iV 0, iV 0, iV 0])]) :=
  Tri.of mixedT cxM_ok 60 200 (ans := [.n, .n, .n, .n, .n, .n, .n, .n, .n, .n]) (ks := [2, 3]) (vs := [AV.snil, iV 150]) (p := True) (by kernel_rfl) trivial
theorem m36_f_ok (o : AV) (h : H) (lo hi step : Int) (L1 : TriS Tryz.prog 134 0 lb36_2.loop (ofL [(1, AV.ptr 0 0), (4, AV.snil), (5, iV lo)]) (hOf 1 [(0, kT [iV 1, iV lo, iV hi, iV step, iV 0, iV 0])]) (Fl.exit 0) (ofL [(4, o)]) h)
    (L2 : decide (step = 0) = false) :
    Tri Tryz.prog 134 0 (cc36) (putArgs [.agg [.int .i64 1, .int .i64 lo, .int .i64 hi, .int .i64 step, .int .i64 0, .int .i64 0]] 0 .leaf) (hOf 0 []) (Fl.ret) (ofL [(2, o), (3, iV 0)]) (h) :=
  Tri.of mixedT cxM_ok 60 200 (ans := [.n, .n, .n, .n, .n, .n, .n, .n, .n, .f, .l [1, 4, 5] (.exit 0) [(4, o)] h]) (ks := [2, 3]) (vs := [o, iV 0]) (p := (TriS Tryz.prog 134 0 lb36_2.loop (ofL [(1, AV.ptr 0 0), (4, AV.snil), (5, iV lo)]) (hOf 1 [(0, kT [iV 1, iV lo, iV hi, iV step, iV 0, iV 0])]) (Fl.exit 0) (ofL [(4, o)]) h) ∧ (decide (step = 0) = false) ∧ (True)) (by kernel_rfl) ⟨L1, L2, trivial⟩
theorem m36_f_no (h : H) (lo hi step e : Int) (L1 : TriS Tryz.prog 134 0 lb36_2.loop (ofL [(1, AV.ptr 0 0), (4, AV.snil), (5, iV lo)]) (hOf 1 [(0, kT [iV 1, iV lo, iV hi, iV step, iV 0, iV 0])]) Fl.ret (ofL [(2, AV.snil), (3, iV e)]) h)
    (L2 : decide (step = 0) = false) :
    Tri Tryz.prog 134 0 (cc36) (putArgs [.agg [.int .i64 1, .int .i64 lo, .int .i64 hi, .int .i64 step, .int .i64 0, .int .i64 0]] 0 .leaf) (hOf 0 []) (Fl.ret) (ofL [(2, AV.snil), (3, iV e)]) (h) :=
  Tri.of mixedT cxM_ok 60 200 (ans := [.n, .n, .n, .n, .n, .n, .n, .n, .n, .f, .l [1, 4, 5] .ret [(2, .snil), (3, .int .i64 e)] h]) (ks := [2, 3]) (vs := [AV.snil, iV e]) (p := (TriS Tryz.prog 134 0 lb36_2.loop (ofL [(1, AV.ptr 0 0), (4, AV.snil), (5, iV lo)]) (hOf 1 [(0, kT [iV 1, iV lo, iV hi, iV step, iV 0, iV 0])]) Fl.ret (ofL [(2, AV.snil), (3, iV e)]) h) ∧ (decide (step = 0) = false) ∧ (True)) (by kernel_rfl) ⟨L1, L2, trivial⟩
theorem m36_p_ok (o : AV) (h : H) (items stages : Int) (L1 : TriS Tryz.prog 134 0 lb36_1.loop (ofL [(1, AV.ptr 0 0), (4, AV.snil), (7, iV 0)]) (hOf 1 [(0, kT [iV 2, iV 0, iV 0, iV 0, iV items, iV stages])]) (Fl.exit 2) (ofL [(4, o)]) h)
    (L2 : decide (stages ≤ 6) = true)
    (L3 : decide (1 ≤ stages) = true)
    (L4 : decide (0 ≤ items) = true) :
    Tri Tryz.prog 134 0 (cc36) (putArgs [.agg [.int .i64 2, .int .i64 0, .int .i64 0, .int .i64 0, .int .i64 items, .int .i64 stages]] 0 .leaf) (hOf 0 []) (Fl.ret) (ofL [(2, o), (3, iV 0)]) (h) :=
  Tri.of mixedT cxM_ok 60 200 (ans := [.n, .n, .n, .n, .n, .n, .n, .n, .n, .n, .n, .n, .n, .n, .n, .n, .n, .n, .n, .n, .n, .n, .n, .n, .n, .t, .t, .t, .t, .t, .t, .t, .t, .t, .l [1, 4, 7] (.exit 2) [(4, o)] h]) (ks := [2, 3]) (vs := [o, iV 0]) (p := (TriS Tryz.prog 134 0 lb36_1.loop (ofL [(1, AV.ptr 0 0), (4, AV.snil), (7, iV 0)]) (hOf 1 [(0, kT [iV 2, iV 0, iV 0, iV 0, iV items, iV stages])]) (Fl.exit 2) (ofL [(4, o)]) h) ∧ (decide (stages ≤ 6) = true) ∧ (decide (1 ≤ stages) = true) ∧ (decide (1 ≤ stages) = true) ∧ (decide (1 ≤ stages) = true) ∧ (decide (1 ≤ stages) = true) ∧ (decide (0 ≤ items) = true) ∧ (decide (0 ≤ items) = true) ∧ (decide (0 ≤ items) = true) ∧ (decide (0 ≤ items) = true) ∧ (True)) (by kernel_rfl) ⟨L1, L2, L3, L3, L3, L3, L4, L4, L4, L4, trivial⟩
theorem m36_p_no (h : H) (items stages e : Int) (L1 : TriS Tryz.prog 134 0 lb36_1.loop (ofL [(1, AV.ptr 0 0), (4, AV.snil), (7, iV 0)]) (hOf 1 [(0, kT [iV 2, iV 0, iV 0, iV 0, iV items, iV stages])]) Fl.ret (ofL [(2, AV.snil), (3, iV e)]) h)
    (L2 : decide (stages ≤ 6) = true)
    (L3 : decide (1 ≤ stages) = true)
    (L4 : decide (0 ≤ items) = true) :
    Tri Tryz.prog 134 0 (cc36) (putArgs [.agg [.int .i64 2, .int .i64 0, .int .i64 0, .int .i64 0, .int .i64 items, .int .i64 stages]] 0 .leaf) (hOf 0 []) (Fl.ret) (ofL [(2, AV.snil), (3, iV e)]) (h) :=
  Tri.of mixedT cxM_ok 60 200 (ans := [.n, .n, .n, .n, .n, .n, .n, .n, .n, .n, .n, .n, .n, .n, .n, .n, .n, .n, .n, .n, .n, .n, .n, .n, .n, .t, .t, .t, .t, .t, .t, .t, .t, .t, .l [1, 4, 7] .ret [(2, .snil), (3, .int .i64 e)] h]) (ks := [2, 3]) (vs := [AV.snil, iV e]) (p := (TriS Tryz.prog 134 0 lb36_1.loop (ofL [(1, AV.ptr 0 0), (4, AV.snil), (7, iV 0)]) (hOf 1 [(0, kT [iV 2, iV 0, iV 0, iV 0, iV items, iV stages])]) Fl.ret (ofL [(2, AV.snil), (3, iV e)]) h) ∧ (decide (stages ≤ 6) = true) ∧ (decide (1 ≤ stages) = true) ∧ (decide (1 ≤ stages) = true) ∧ (decide (1 ≤ stages) = true) ∧ (decide (1 ≤ stages) = true) ∧ (decide (0 ≤ items) = true) ∧ (decide (0 ≤ items) = true) ∧ (decide (0 ≤ items) = true) ∧ (decide (0 ≤ items) = true) ∧ (True)) (by kernel_rfl) ⟨L1, L2, L3, L3, L3, L3, L4, L4, L4, L4, trivial⟩
theorem m36_x0_0 (kd lo hi step items stages : Int) (L1 : decide (kd = 2) = false)
    (L2 : decide (kd = 1) = false) :
    Tri Tryz.prog 134 0 (cc36) (putArgs [.agg [.int .i64 kd, .int .i64 lo, .int .i64 hi, .int .i64 step, .int .i64 items, .int .i64 stages]] 0 .leaf) (hOf 0 []) (Fl.ret) (ofL [(2, AV.snil), (3, iV 152)]) (hOf 1 [(0, kT [iV kd, iV lo, iV hi, iV step, iV items, iV stages])]) :=
  Tri.of mixedT cxM_ok 60 200 (ans := [.f, .f, .f, .f, .n, .n, .n, .n, .n, .f, .f, .f, .f, .n, .n, .n, .n, .n, .n, .n, .n, .n, .n, .n, .n, .n, .n, .n, .n, .n, .n, .n, .n, .n]) (ks := [2, 3]) (vs := [AV.snil, iV 152]) (p := (decide (kd = 2) = false) ∧ (decide (kd = 2) = false) ∧ (decide (kd = 2) = false) ∧ (decide (kd = 2) = false) ∧ (decide (kd = 1) = false) ∧ (decide (kd = 1) = false) ∧ (decide (kd = 1) = false) ∧ (decide (kd = 1) = false) ∧ (True)) (by kernel_rfl) ⟨L1, L1, L1, L1, L2, L2, L2, L2, trivial⟩
theorem m36_x0_1 (kd lo hi step items stages : Int) (L1 : decide (lo = 0) = false)
    (L2 : decide (kd = 2) = true)
    (L3 : decide (kd = 1) = false) :
    Tri Tryz.prog 134 0 (cc36) (putArgs [.agg [.int .i64 kd, .int .i64 lo, .int .i64 hi, .int .i64 step, .int .i64 items, .int .i64 stages]] 0 .leaf) (hOf 0 []) (Fl.ret) (ofL [(2, AV.snil), (3, iV 152)]) (hOf 1 [(0, kT [iV kd, iV lo, iV hi, iV step, iV items, iV stages])]) :=
  Tri.of mixedT cxM_ok 60 200 (ans := [.f, .f, .f, .f, .n, .n, .n, .n, .n, .t, .t, .t, .t, .f, .f, .f, .f, .n, .n, .n, .n, .n, .n, .n, .n, .n, .n, .n, .n, .n, .n, .n, .n, .n]) (ks := [2, 3]) (vs := [AV.snil, iV 152]) (p := (decide (lo = 0) = false) ∧ (decide (lo = 0) = false) ∧ (decide (lo = 0) = false) ∧ (decide (lo = 0) = false) ∧ (decide (kd = 2) = true) ∧ (decide (kd = 2) = true) ∧ (decide (kd = 2) = true) ∧ (decide (kd = 2) = true) ∧ (decide (kd = 1) = false) ∧ (decide (kd = 1) = false) ∧ (decide (kd = 1) = false) ∧ (decide (kd = 1) = false) ∧ (True)) (by kernel_rfl) ⟨L1, L1, L1, L1, L2, L2, L2, L2, L3, L3, L3, L3, trivial⟩
theorem m36_x0_2 (kd lo hi step items stages : Int) (L1 : decide (hi = 0) = false)
    (L2 : decide (lo = 0) = true)
    (L3 : decide (kd = 2) = true)
    (L4 : decide (kd = 1) = false) :
    Tri Tryz.prog 134 0 (cc36) (putArgs [.agg [.int .i64 kd, .int .i64 lo, .int .i64 hi, .int .i64 step, .int .i64 items, .int .i64 stages]] 0 .leaf) (hOf 0 []) (Fl.ret) (ofL [(2, AV.snil), (3, iV 152)]) (hOf 1 [(0, kT [iV kd, iV lo, iV hi, iV step, iV items, iV stages])]) :=
  Tri.of mixedT cxM_ok 60 200 (ans := [.f, .f, .f, .f, .n, .n, .n, .n, .n, .t, .t, .t, .t, .t, .t, .t, .t, .f, .f, .f, .f, .n, .n, .n, .n, .n, .n, .n, .n, .n, .n, .n, .n, .n]) (ks := [2, 3]) (vs := [AV.snil, iV 152]) (p := (decide (hi = 0) = false) ∧ (decide (hi = 0) = false) ∧ (decide (hi = 0) = false) ∧ (decide (hi = 0) = false) ∧ (decide (lo = 0) = true) ∧ (decide (lo = 0) = true) ∧ (decide (lo = 0) = true) ∧ (decide (lo = 0) = true) ∧ (decide (kd = 2) = true) ∧ (decide (kd = 2) = true) ∧ (decide (kd = 2) = true) ∧ (decide (kd = 2) = true) ∧ (decide (kd = 1) = false) ∧ (decide (kd = 1) = false) ∧ (decide (kd = 1) = false) ∧ (decide (kd = 1) = false) ∧ (True)) (by kernel_rfl) ⟨L1, L1, L1, L1, L2, L2, L2, L2, L3, L3, L3, L3, L4, L4, L4, L4, trivial⟩
theorem m36_x0_3 (kd lo hi step items stages : Int) (L1 : decide (step = 0) = false)
    (L2 : decide (hi = 0) = true)
    (L3 : decide (lo = 0) = true)
    (L4 : decide (kd = 2) = true)
    (L5 : decide (kd = 1) = false) :
    Tri Tryz.prog 134 0 (cc36) (putArgs [.agg [.int .i64 kd, .int .i64 lo, .int .i64 hi, .int .i64 step, .int .i64 items, .int .i64 stages]] 0 .leaf) (hOf 0 []) (Fl.ret) (ofL [(2, AV.snil), (3, iV 152)]) (hOf 1 [(0, kT [iV kd, iV lo, iV hi, iV step, iV items, iV stages])]) :=
  Tri.of mixedT cxM_ok 60 200 (ans := [.f, .f, .f, .f, .n, .n, .n, .n, .n, .t, .t, .t, .t, .t, .t, .t, .t, .t, .t, .t, .t, .f, .f, .f, .f, .n, .n, .n, .n, .n, .n, .n, .n, .n]) (ks := [2, 3]) (vs := [AV.snil, iV 152]) (p := (decide (step = 0) = false) ∧ (decide (step = 0) = false) ∧ (decide (step = 0) = false) ∧ (decide (step = 0) = false) ∧ (decide (hi = 0) = true) ∧ (decide (hi = 0) = true) ∧ (decide (hi = 0) = true) ∧ (decide (hi = 0) = true) ∧ (decide (lo = 0) = true) ∧ (decide (lo = 0) = true) ∧ (decide (lo = 0) = true) ∧ (decide (lo = 0) = true) ∧ (decide (kd = 2) = true) ∧ (decide (kd = 2) = true) ∧ (decide (kd = 2) = true) ∧ (decide (kd = 2) = true) ∧ (decide (kd = 1) = false) ∧ (decide (kd = 1) = false) ∧ (decide (kd = 1) = false) ∧ (decide (kd = 1) = false) ∧ (True)) (by kernel_rfl) ⟨L1, L1, L1, L1, L2, L2, L2, L2, L3, L3, L3, L3, L4, L4, L4, L4, L5, L5, L5, L5, trivial⟩
theorem m36_x0_4 (kd lo hi step items stages : Int) (L1 : decide (0 ≤ items) = false)
    (L2 : decide (step = 0) = true)
    (L3 : decide (hi = 0) = true)
    (L4 : decide (lo = 0) = true)
    (L5 : decide (kd = 2) = true)
    (L6 : decide (kd = 1) = false) :
    Tri Tryz.prog 134 0 (cc36) (putArgs [.agg [.int .i64 kd, .int .i64 lo, .int .i64 hi, .int .i64 step, .int .i64 items, .int .i64 stages]] 0 .leaf) (hOf 0 []) (Fl.ret) (ofL [(2, AV.snil), (3, iV 152)]) (hOf 1 [(0, kT [iV kd, iV lo, iV hi, iV step, iV items, iV stages])]) :=
  Tri.of mixedT cxM_ok 60 200 (ans := [.f, .f, .f, .f, .n, .n, .n, .n, .n, .t, .t, .t, .t, .t, .t, .t, .t, .t, .t, .t, .t, .t, .t, .t, .t, .f, .f, .f, .f, .n, .n, .n, .n, .n]) (ks := [2, 3]) (vs := [AV.snil, iV 152]) (p := (decide (0 ≤ items) = false) ∧ (decide (0 ≤ items) = false) ∧ (decide (0 ≤ items) = false) ∧ (decide (0 ≤ items) = false) ∧ (decide (step = 0) = true) ∧ (decide (step = 0) = true) ∧ (decide (step = 0) = true) ∧ (decide (step = 0) = true) ∧ (decide (hi = 0) = true) ∧ (decide (hi = 0) = true) ∧ (decide (hi = 0) = true) ∧ (decide (hi = 0) = true) ∧ (decide (lo = 0) = true) ∧ (decide (lo = 0) = true) ∧ (decide (lo = 0) = true) ∧ (decide (lo = 0) = true) ∧ (decide (kd = 2) = true) ∧ (decide (kd = 2) = true) ∧ (decide (kd = 2) = true) ∧ (decide (kd = 2) = true) ∧ (decide (kd = 1) = false) ∧ (decide (kd = 1) = false) ∧ (decide (kd = 1) = false) ∧ (decide (kd = 1) = false) ∧ (True)) (by kernel_rfl) ⟨L1, L1, L1, L1, L2, L2, L2, L2, L3, L3, L3, L3, L4, L4, L4, L4, L5, L5, L5, L5, L6, L6, L6, L6, trivial⟩
theorem m36_x0_5 (kd lo hi step items stages : Int) (L1 : decide (1 ≤ stages) = false)
    (L2 : decide (0 ≤ items) = true)
    (L3 : decide (step = 0) = true)
    (L4 : decide (hi = 0) = true)
    (L5 : decide (lo = 0) = true)
    (L6 : decide (kd = 2) = true)
    (L7 : decide (kd = 1) = false) :
    Tri Tryz.prog 134 0 (cc36) (putArgs [.agg [.int .i64 kd, .int .i64 lo, .int .i64 hi, .int .i64 step, .int .i64 items, .int .i64 stages]] 0 .leaf) (hOf 0 []) (Fl.ret) (ofL [(2, AV.snil), (3, iV 152)]) (hOf 1 [(0, kT [iV kd, iV lo, iV hi, iV step, iV items, iV stages])]) :=
  Tri.of mixedT cxM_ok 60 200 (ans := [.f, .f, .f, .f, .n, .n, .n, .n, .n, .t, .t, .t, .t, .t, .t, .t, .t, .t, .t, .t, .t, .t, .t, .t, .t, .t, .t, .t, .t, .f, .f, .f, .f, .n]) (ks := [2, 3]) (vs := [AV.snil, iV 152]) (p := (decide (1 ≤ stages) = false) ∧ (decide (1 ≤ stages) = false) ∧ (decide (1 ≤ stages) = false) ∧ (decide (1 ≤ stages) = false) ∧ (decide (0 ≤ items) = true) ∧ (decide (0 ≤ items) = true) ∧ (decide (0 ≤ items) = true) ∧ (decide (0 ≤ items) = true) ∧ (decide (step = 0) = true) ∧ (decide (step = 0) = true) ∧ (decide (step = 0) = true) ∧ (decide (step = 0) = true) ∧ (decide (hi = 0) = true) ∧ (decide (hi = 0) = true) ∧ (decide (hi = 0) = true) ∧ (decide (hi = 0) = true) ∧ (decide (lo = 0) = true) ∧ (decide (lo = 0) = true) ∧ (decide (lo = 0) = true) ∧ (decide (lo = 0) = true) ∧ (decide (kd = 2) = true) ∧ (decide (kd = 2) = true) ∧ (decide (kd = 2) = true) ∧ (decide (kd = 2) = true) ∧ (decide (kd = 1) = false) ∧ (decide (kd = 1) = false) ∧ (decide (kd = 1) = false) ∧ (decide (kd = 1) = false) ∧ (True)) (by kernel_rfl) ⟨L1, L1, L1, L1, L2, L2, L2, L2, L3, L3, L3, L3, L4, L4, L4, L4, L5, L5, L5, L5, L6, L6, L6, L6, L7, L7, L7, L7, trivial⟩
theorem m36_x0_6 (kd lo hi step items stages : Int) (L1 : decide (stages ≤ 6) = false)
    (L2 : decide (1 ≤ stages) = true)
    (L3 : decide (0 ≤ items) = true)
    (L4 : decide (step = 0) = true)
    (L5 : decide (hi = 0) = true)
    (L6 : decide (lo = 0) = true)
    (L7 : decide (kd = 2) = true)
    (L8 : decide (kd = 1) = false) :
    Tri Tryz.prog 134 0 (cc36) (putArgs [.agg [.int .i64 kd, .int .i64 lo, .int .i64 hi, .int .i64 step, .int .i64 items, .int .i64 stages]] 0 .leaf) (hOf 0 []) (Fl.ret) (ofL [(2, AV.snil), (3, iV 152)]) (hOf 1 [(0, kT [iV kd, iV lo, iV hi, iV step, iV items, iV stages])]) :=
  Tri.of mixedT cxM_ok 60 200 (ans := [.f, .f, .f, .f, .n, .n, .n, .n, .n, .t, .t, .t, .t, .t, .t, .t, .t, .t, .t, .t, .t, .t, .t, .t, .t, .t, .t, .t, .t, .t, .t, .t, .t, .f]) (ks := [2, 3]) (vs := [AV.snil, iV 152]) (p := (decide (stages ≤ 6) = false) ∧ (decide (1 ≤ stages) = true) ∧ (decide (1 ≤ stages) = true) ∧ (decide (1 ≤ stages) = true) ∧ (decide (1 ≤ stages) = true) ∧ (decide (0 ≤ items) = true) ∧ (decide (0 ≤ items) = true) ∧ (decide (0 ≤ items) = true) ∧ (decide (0 ≤ items) = true) ∧ (decide (step = 0) = true) ∧ (decide (step = 0) = true) ∧ (decide (step = 0) = true) ∧ (decide (step = 0) = true) ∧ (decide (hi = 0) = true) ∧ (decide (hi = 0) = true) ∧ (decide (hi = 0) = true) ∧ (decide (hi = 0) = true) ∧ (decide (lo = 0) = true) ∧ (decide (lo = 0) = true) ∧ (decide (lo = 0) = true) ∧ (decide (lo = 0) = true) ∧ (decide (kd = 2) = true) ∧ (decide (kd = 2) = true) ∧ (decide (kd = 2) = true) ∧ (decide (kd = 2) = true) ∧ (decide (kd = 1) = false) ∧ (decide (kd = 1) = false) ∧ (decide (kd = 1) = false) ∧ (decide (kd = 1) = false) ∧ (True)) (by kernel_rfl) ⟨L1, L2, L2, L2, L2, L3, L3, L3, L3, L4, L4, L4, L4, L5, L5, L5, L5, L6, L6, L6, L6, L7, L7, L7, L7, L8, L8, L8, L8, trivial⟩
theorem m36_y1 (lo hi step items stages : Int) (L1 : decide (items = 0) = false) :
    Tri Tryz.prog 134 0 (cc36) (putArgs [.agg [.int .i64 1, .int .i64 lo, .int .i64 hi, .int .i64 step, .int .i64 items, .int .i64 stages]] 0 .leaf) (hOf 0 []) (Fl.ret) (ofL [(2, AV.snil), (3, iV 152)]) (hOf 1 [(0, kT [iV 1, iV lo, iV hi, iV step, iV items, iV stages])]) :=
  Tri.of mixedT cxM_ok 60 200 (ans := [.n, .n, .n, .n, .f, .f, .f, .f, .n, .n, .n, .n, .n, .n, .n, .n, .n, .n, .n, .n, .n, .n, .n, .n, .n, .n, .n, .n, .n, .n, .n, .n, .n, .n]) (ks := [2, 3]) (vs := [AV.snil, iV 152]) (p := (decide (items = 0) = false) ∧ (decide (items = 0) = false) ∧ (decide (items = 0) = false) ∧ (decide (items = 0) = false) ∧ (True)) (by kernel_rfl) ⟨L1, L1, L1, L1, trivial⟩
theorem m36_y2 (lo hi step items stages : Int) (L1 : decide (stages = 0) = false)
    (L2 : decide (items = 0) = true) :
    Tri Tryz.prog 134 0 (cc36) (putArgs [.agg [.int .i64 1, .int .i64 lo, .int .i64 hi, .int .i64 step, .int .i64 items, .int .i64 stages]] 0 .leaf) (hOf 0 []) (Fl.ret) (ofL [(2, AV.snil), (3, iV 152)]) (hOf 1 [(0, kT [iV 1, iV lo, iV hi, iV step, iV items, iV stages])]) :=
  Tri.of mixedT cxM_ok 60 200 (ans := [.n, .n, .n, .n, .t, .t, .t, .t, .f, .n, .n, .n, .n, .n, .n, .n, .n, .n, .n, .n, .n, .n, .n, .n, .n, .n, .n, .n, .n, .n, .n, .n, .n, .n]) (ks := [2, 3]) (vs := [AV.snil, iV 152]) (p := (decide (stages = 0) = false) ∧ (decide (items = 0) = true) ∧ (decide (items = 0) = true) ∧ (decide (items = 0) = true) ∧ (decide (items = 0) = true) ∧ (True)) (by kernel_rfl) ⟨L1, L2, L2, L2, L2, trivial⟩
end Go.Ab
/- outriderref15.Tasks: its error, for any shape. -/
namespace Go.Ab
open Go.Proofs Go.RowKit
theorem Tri.heap {P : Program} {N k : Nat} {c : CC} {ts0 ts1 : TS} {h0 h0' h1 : H} {f : Fl} (he : ∀ b, h0'.get b = h0.get b) (hn : h0'.next ≤ h0.next) (t : Tri P N k c ts0 h0 f ts1 h1) : Tri P N k c ts0 h0' f ts1 h1 := by
  have ho : ∀ b, Own h0' b ↔ Own h0 b := fun b => by unfold Own; rw [he b]
  intro cd hcd σ a w htr hhr hsz hds hup
  have hh : HR σ h0 w := ⟨hhr.bnd, fun b x L e s => hhr.blk b x L (by rw [he]; exact e) s, fun b b' L L' hne o g s s' => hhr.inj b b' L L' hne ((ho b).2 o) (by rw [he]; exact g) s s', fun b g => Nat.lt_of_lt_of_le (hhr.nx b (by rw [he]; exact g)) hn⟩
  refine wpL_mono (t cd hcd σ a w htr hh hsz hds (fun b hb => hup b (Nat.le_trans hn hb))) fun e a' w' hq => ?_
  obtain ⟨σ', q⟩ := hq
  refine ⟨σ', q.fr, q.tr, q.hr, q.sz, q.ds, q.up, q.fix, q.frm.os, q.frm.tape, q.frm.output, q.frm.size, fun c hc hn => q.frm.keep c hc (fun b L o s => hn b L ((ho b).2 o) s), fun b L o s => ?_, fun b L g s => ?_⟩
  · rcases q.frm.own b L o s with h | ⟨b0, L0, o0, s0, e0⟩
    · exact .inl h
    · exact .inr ⟨b0, L0, (ho b0).2 o0, s0, e0⟩
  · rcases q.frm.live b L g s with h | ⟨b0, L0, o0, s0, e0⟩
    · exact .inl h
    · exact .inr ⟨b0, L0, by rw [he]; exact o0, s0, e0⟩
def OutR (o : AV) (B : Option Bk) (i : Nat) (X : List AV) : Prop :=
  ltL 0 X = true ∧ X.length = i * 2 ∧ ((o = .snil ∧ B = none ∧ X = []) ∨ (o = .sl 1 0 i none 2 ∧ B = some (.cells true X)))
theorem OutR.nil : OutR .snil none 0 [] := ⟨rfl, rfl, .inl ⟨rfl, rfl, rfl⟩⟩
theorem OutR.len {o : AV} {B : Option Bk} {i : Nat} {X : List AV} (r : OutR o B i X) {cx : Cx} : PureA cx (CO.lenL (Opd.k o)) (AV.int IntKind.i64 (Int.ofNat i)) := by
  obtain ⟨_, hl, ⟨rfl, _, rfl⟩ | ⟨rfl, _⟩⟩ := r
  · have : i = 0 := by simp at hl; omega
    subst this; exact ⟨fun h => ⟨.inl rfl⟩⟩
  · exact ⟨fun h => ⟨.inl rfl⟩⟩
theorem maxRow_le {n : Nat} (h : n ≤ 1000000) : n ≤ maxRow := Nat.le_trans h (by decide)
theorem OutR.app {o : AV} {B : Option Bk} {i : Nat} {X : List AV} (r : OutR o B i X) (hi : i ≤ 1000) (S : Bk) (a b : Int) {cx : Cx} :
    GivesA cx (hOfO 3 [(0, some S), (1, B), (2, some (Bk.cells true [AV.int IntKind.i64 a, AV.int IntKind.i64 b]))]) (CO.append 2 16 (Opd.k o) (Opd.k (AV.sl 2 0 1 none 2))) (AV.sl 3 0 (i + 1) none 2) (hq36 S a b (X ++ [AV.int IntKind.i64 a, AV.int IntKind.i64 b])) ∧
    OutR (.sl 1 0 (i + 1) none 2) (some (.cells true (X ++ [AV.int IntKind.i64 a, AV.int IntKind.i64 b]))) (i + 1) (X ++ [AV.int IntKind.i64 a, AV.int IntKind.i64 b]) := by
  obtain ⟨hf, hl, hr⟩ := r
  have h1 : Nat.ble ((i + (0 + 1)) * 16) maxRow = true := ble_of (maxRow_le (by omega))
  have h2 : Nat.ble (i + (0 + 1)) maxRow = true := ble_of (maxRow_le (by omega))
  refine ⟨?_, by rw [ltL_app, hf]; rfl, by simp [hl]; omega, .inr ⟨rfl, rfl⟩⟩
  rcases hr with ⟨rfl, rfl, rfl⟩ | ⟨rfl, rfl⟩
  · have : i = 0 := by simp at hl; omega
    subst this; exact ⟨.inl (by kernel_rfl)⟩
  · have hrow : rowA 2 (hOfO 3 [(0, some S), (1, some (Bk.cells true X)), (2, some (Bk.cells true [AV.int IntKind.i64 a, AV.int IntKind.i64 b]))]) (.sl 1 0 i none 2) = some X := by
      have hc : (hOfO 3 [(0, some S), (1, some (Bk.cells true X)), (2, some (Bk.cells true [AV.int IntKind.i64 a, AV.int IntKind.i64 b]))]).cells 1 = some X := by kernel_rfl
      simp only [rowA, hc, Nat.beq_refl]
      rw [ble_of (by omega : 0 + i * 2 ≤ X.length)]
      simp [← hl]
    have hnew : rowA 2 (hOfO 3 [(0, some S), (1, some (Bk.cells true X)), (2, some (Bk.cells true [AV.int IntKind.i64 a, AV.int IntKind.i64 b]))]) (.sl 2 0 1 none 2) = some [AV.int IntKind.i64 a, AV.int IntKind.i64 b] := by kernel_rfl
    have hd : dropA (hOfO 3 [(0, some S), (1, some (Bk.cells true X)), (2, some (Bk.cells true [AV.int IntKind.i64 a, AV.int IntKind.i64 b]))]) 1 = some (hOfO 3 [(0, some S), (1, none), (2, some (Bk.cells true [AV.int IntKind.i64 a, AV.int IntKind.i64 b]))]) := by kernel_rfl
    have hk : cellsOk [AV.int IntKind.i64 a, AV.int IntKind.i64 b] = true := rfl
    refine ⟨.inl ?_⟩
    show ofP (appendA 2 16 _ (.sl 1 0 i none 2) (.sl 2 0 1 none 2)) = _
    unfold appendA
    rw [hrow, hnew]
    simp only [isStr, lenA]
    simp only [show i + (0 + 1) = i + 1 from rfl] at h1 h2
    simp only [h1, h2, hk, hd]
    exact congrArg (fun x => St.val (.sl 3 0 (i + 1) none 2) x) (by kernel_rfl)
theorem wrap_eq (n : Int) : IntKind.i64.wrap n = if 9223372036854775808 ≤ n % 18446744073709551616 then n % 18446744073709551616 - 18446744073709551616 else n % 18446744073709551616 := by
  simp [IntKind.wrap, IntKind.bits, IntKind.signed]
theorem wrapId {n : Int} (h : -9223372036854775808 ≤ n ∧ n ≤ 9223372036854775807) : IntKind.i64.wrap n = n := by
  rw [wrap_eq]; split <;> omega
theorem wrapHi {n : Int} (h : 9223372036854775807 < n ∧ n ≤ 18446744073709551615) : IntKind.i64.wrap n = n - 2 ^ 64 := by
  rw [wrap_eq]; split <;> omega
theorem wrapLo {n : Int} (h : -18446744073709551616 ≤ n ∧ n < -9223372036854775808) : IntKind.i64.wrap n = n + 2 ^ 64 := by
  rw [wrap_eq]; split <;> omega
def In64 (n : Int) : Prop := -9223372036854775808 ≤ n ∧ n ≤ 9223372036854775807
def Ends (kd : CC) (k : Nat) (ts0 : TS) (h0 : H) (ex : Nat) (e : Int) : Prop :=
  (e = 0 ∧ ∃ o h, Tri Tryz.prog 134 0 (.loop kd) ts0 h0 (.exit ex) (ofL [(4, o)]) h) ∨ (e ≠ 0 ∧ ∃ h, Tri Tryz.prog 134 0 (.loop kd) ts0 h0 .ret (ofL [(2, .snil), (3, .int .i64 e)]) h)
theorem loop36_up {lo hi step : Int} (hs : 0 < step) (hhi : In64 hi) (hst : In64 step) : ∀ (d i : Nat) (o : AV) (B : Option Bk) (X : List AV) (cur : Int), i + d = 200 → OutR o B i X → cur = lo + i * step → In64 cur →
    Ends lb36_2 0 (st36 o cur) (hp36 (sh36 1 lo hi step 0 0) B) 0 (if lo + 200 * step < hi then 151 else 0) := by
  have n1 : ¬ step < 0 := by omega
  intro d
  induction d with
  | zero =>
    intro i o B X cur hi200 hr hcur hc64
    obtain rfl : i = 200 := by omega
    obtain ⟨ga, hr2⟩ := hr.app (by omega) (sh36 1 lo hi step 0 0) cur 0 (cx := cxM)
    by_cases h1 : cur < hi
    · rw [if_pos (by omega)]
      exact .inr ⟨by decide, _, (f36_up_many o B 200 lo hi step cur _ (dTr (by decide)) ga (dTr h1) (dTr hs)).loopStop (by intro h; cases h)⟩
    · exact .inl ⟨by rw [if_neg (by omega)], _, _, (f36_up_end o B 200 lo hi step cur X (dFa h1) (dFa n1) (dTr hs)).loopStop (by intro h; cases h)⟩
  | succ d ih =>
    intro i o B X cur hi200 hr hcur hc64
    obtain ⟨ga, hr2⟩ := hr.app (by omega) (sh36 1 lo hi step 0 0) cur 0 (cx := cxM)
    have hmul : (i : Int) * step + step ≤ 200 * step := by
      have : ((i : Int) + 1) * step ≤ 200 * step := Int.mul_le_mul_of_nonneg_right (by omega) (by omega)
      rw [Int.add_mul, Int.one_mul] at this; exact this
    unfold In64 at *
    by_cases h1 : cur < hi
    · have hm : decide (200 < Int.ofNat (i + 1)) = false := dFa (by simp; omega)
      by_cases hov : 9223372036854775807 < cur + step
      · have hw : IntKind.i64.wrap (cur + step) < cur := by rw [wrapHi (by omega)]; omega
        exact .inl ⟨by rw [if_neg (by omega)], _, _, (f36_up_over o B i lo hi step cur _ (dTr hw) (dTr hs) hm ga (dTr h1)).loopStop (by intro h; cases h)⟩
      · have hw : IntKind.i64.wrap (cur + step) = cur + step := wrapId (by omega)
        have body := f36_up_next o B i lo hi step cur _ (dFa (by rw [hw]; omega)) (dFa n1) (dTr hs) hm ga (dTr h1)
        rw [hw] at body
        have body2 : Tri Tryz.prog 134 0 lb36_2 (st36 o cur) (hp36 (sh36 1 lo hi step 0 0) B) .norm (st36 (.sl 1 0 (i + 1) none 2) (cur + step)) (hp36 (sh36 1 lo hi step 0 0) (some (.cells true (X ++ [AV.int IntKind.i64 cur, AV.int IntKind.i64 0])))) :=
          body.ren trivial (RenOk.of (r := [0, 3]) (B2 := [(0, sh36 1 lo hi step 0 0), (1, .cells true (X ++ [AV.int IntKind.i64 cur, AV.int IntKind.i64 0]))]) rfl rfl rfl rfl ⟨rfl, rfl, rfl, trivial⟩ ⟨⟨rfl, _, rfl, RB.free rfl⟩, ⟨rfl, _, rfl, RB.free hr2.1⟩, trivial⟩)
        rcases ih (i + 1) _ _ _ (cur + step) (by omega) hr2 (by rw [hcur]; push_cast; rw [Int.add_mul]; omega) (by omega) with ⟨e, o2, h2, t⟩ | ⟨e, h2, t⟩
        · exact .inl ⟨e, o2, h2, body2.loopNext t⟩
        · exact .inr ⟨e, h2, body2.loopNext t⟩
    · exact .inl ⟨by rw [if_neg (by omega)], _, _, (f36_up_end o B i lo hi step cur X (dFa h1) (dFa n1) (dTr hs)).loopStop (by intro h; cases h)⟩
theorem loop36_dn {lo hi step : Int} (hs : step < 0) (hhi : In64 hi) (hst : In64 step) : ∀ (d i : Nat) (o : AV) (B : Option Bk) (X : List AV) (cur : Int), i + d = 200 → OutR o B i X → cur = lo + i * step → In64 cur →
    Ends lb36_2 0 (st36 o cur) (hp36 (sh36 1 lo hi step 0 0) B) 0 (if hi < lo + 200 * step then 151 else 0) := by
  have n1 : ¬ 0 < step := by omega
  intro d
  induction d with
  | zero =>
    intro i o B X cur hi200 hr hcur hc64
    obtain rfl : i = 200 := by omega
    obtain ⟨ga, hr2⟩ := hr.app (by omega) (sh36 1 lo hi step 0 0) cur 0 (cx := cxM)
    by_cases h1 : hi < cur
    · rw [if_pos (by omega)]
      exact .inr ⟨by decide, _, (f36_dn_many o B 200 lo hi step cur _ (dTr (by decide)) ga (dTr h1) (dTr hs) (dFa n1)).loopStop (by intro h; cases h)⟩
    · exact .inl ⟨by rw [if_neg (by omega)], _, _, (f36_dn_end o B 200 lo hi step cur X (dFa h1) (dTr hs) (dFa n1)).loopStop (by intro h; cases h)⟩
  | succ d ih =>
    intro i o B X cur hi200 hr hcur hc64
    obtain ⟨ga, hr2⟩ := hr.app (by omega) (sh36 1 lo hi step 0 0) cur 0 (cx := cxM)
    have hmul : 200 * step ≤ (i : Int) * step + step := by
      have : 200 * step ≤ ((i : Int) + 1) * step := Int.mul_le_mul_of_nonpos_right (by omega) (by omega)
      rw [Int.add_mul, Int.one_mul] at this; exact this
    unfold In64 at *
    by_cases h1 : hi < cur
    · have hm : decide (200 < Int.ofNat (i + 1)) = false := dFa (by simp; omega)
      by_cases hov : cur + step < -9223372036854775808
      · have hw : cur < IntKind.i64.wrap (cur + step) := by rw [wrapLo (by omega)]; omega
        exact .inl ⟨by rw [if_neg (by omega)], _, _, (f36_dn_over o B i lo hi step cur _ (dTr hw) (dTr hs) (dFa n1) hm ga (dTr h1)).loopStop (by intro h; cases h)⟩
      · have hw : IntKind.i64.wrap (cur + step) = cur + step := wrapId (by omega)
        have body := f36_dn_next o B i lo hi step cur _ (dFa (by rw [hw]; omega)) (dTr hs) (dFa n1) hm ga (dTr h1)
        rw [hw] at body
        have body2 : Tri Tryz.prog 134 0 lb36_2 (st36 o cur) (hp36 (sh36 1 lo hi step 0 0) B) .norm (st36 (.sl 1 0 (i + 1) none 2) (cur + step)) (hp36 (sh36 1 lo hi step 0 0) (some (.cells true (X ++ [AV.int IntKind.i64 cur, AV.int IntKind.i64 0])))) :=
          body.ren trivial (RenOk.of (r := [0, 3]) (B2 := [(0, sh36 1 lo hi step 0 0), (1, .cells true (X ++ [AV.int IntKind.i64 cur, AV.int IntKind.i64 0]))]) rfl rfl rfl rfl ⟨rfl, rfl, rfl, trivial⟩ ⟨⟨rfl, _, rfl, RB.free rfl⟩, ⟨rfl, _, rfl, RB.free hr2.1⟩, trivial⟩)
        rcases ih (i + 1) _ _ _ (cur + step) (by omega) hr2 (by rw [hcur]; push_cast; rw [Int.add_mul]; omega) (by omega) with ⟨e, o2, h2, t⟩ | ⟨e, h2, t⟩
        · exact .inl ⟨e, o2, h2, body2.loopNext t⟩
        · exact .inr ⟨e, h2, body2.loopNext t⟩
    · exact .inl ⟨by rw [if_neg (by omega)], _, _, (f36_dn_end o B i lo hi step cur X (dFa h1) (dTr hs) (dFa n1)).loopStop (by intro h; cases h)⟩
theorem inner36 {items stages it : Int} : ∀ (d i : Nat) (k : Int) (o : AV) (B : Option Bk) (X : List AV), k + d = stages → 0 ≤ k → stages ≤ 6 → i + d ≤ 900 → OutR o B i X →
    ∃ o2 B2 X2, OutR o2 B2 (i + d) X2 ∧ Tri Tryz.prog 134 0 (.loop lb36_0) (in36 o it k) (hp36 (sh36 2 0 0 0 items stages) B) (.exit 4) (ofL [(1, .ptr 0 0), (4, o2), (7, .int .i64 it)]) (hp36 (sh36 2 0 0 0 items stages) B2) := by
  intro d
  induction d with
  | zero =>
    intro i k o B X hk h0 h6 hi hr
    exact ⟨o, B, X, hr, (i36_end o B i items stages it k X (dFa (by omega))).loopStop (by intro h; cases h)⟩
  | succ d ih =>
    intro i k o B X hk h0 h6 hi hr
    obtain ⟨ga, hr2⟩ := hr.app (by omega) (sh36 2 0 0 0 items stages) it k (cx := cxM)
    have hw : IntKind.i64.wrap (k + 1) = k + 1 := wrapId (by omega)
    have body := i36_next o B i items stages it k _ ga (dTr (by omega))
    rw [hw] at body
    have body2 : Tri Tryz.prog 134 0 lb36_0 (in36 o it k) (hp36 (sh36 2 0 0 0 items stages) B) .norm (in36 (.sl 1 0 (i + 1) none 2) it (k + 1)) (hp36 (sh36 2 0 0 0 items stages) (some (.cells true (X ++ [AV.int IntKind.i64 it, AV.int IntKind.i64 k])))) :=
      body.ren trivial (RenOk.of (r := [0, 3]) (B2 := [(0, sh36 2 0 0 0 items stages), (1, .cells true (X ++ [AV.int IntKind.i64 it, AV.int IntKind.i64 k]))]) rfl rfl rfl rfl ⟨rfl, rfl, rfl, rfl, trivial⟩ ⟨⟨rfl, _, rfl, RB.free rfl⟩, ⟨rfl, _, rfl, RB.free hr2.1⟩, trivial⟩)
    obtain ⟨o2, B2, X2, r2, t⟩ := ih (i + 1) (k + 1) _ _ _ (by omega) (by omega) h6 (by omega) hr2
    exact ⟨o2, B2, X2, by rw [show i + (d + 1) = i + 1 + d by omega]; exact r2, body2.loopNext t⟩
theorem outer36 {items stages : Int} (h1 : 1 ≤ stages) (h6 : stages ≤ 6) : ∀ (d i : Nat) (it : Int) (o : AV) (B : Option Bk) (X : List AV), it + d = 201 → 0 ≤ it → it ≤ items ∨ it = 0 → 0 ≤ items → (i : Int) = it * stages → i ≤ 200 → OutR o B i X →
    Ends lb36_1 0 (it36 o it) (hp36 (sh36 2 0 0 0 items stages) B) 2 (if 200 < items * stages then 151 else 0) := by
  have hsx : stages = 1 ∨ stages = 2 ∨ stages = 3 ∨ stages = 4 ∨ stages = 5 ∨ stages = 6 := by omega
  intro d
  induction d with
  | zero =>
    intro i it o B X hd h0 hle hit hi h200 hr
    exfalso
    rcases hsx with rfl | rfl | rfl | rfl | rfl | rfl <;> omega
  | succ d ih =>
    intro i it o B X hd h0 hle hit hi h200 hr
    by_cases hc : it < items
    · obtain ⟨n, hn⟩ : ∃ n : Nat, stages = n := ⟨stages.toNat, by omega⟩
      obtain ⟨o2, B2, X2, r2, t⟩ := inner36 (items := items) (stages := stages) (it := it) n i 0 o B X (by omega) (by omega) h6 (by omega) hr
      by_cases hm : 200 < i + n
      · have e : 200 < items * stages := by
          rcases hsx with rfl | rfl | rfl | rfl | rfl | rfl <;> omega
        rw [if_pos e]
        exact .inr ⟨by decide, _, (o36_many o o2 B B2 (i + n) items stages it (dTr (by simp; omega)) r2.len ⟨t⟩ (dTr hc)).loopStop (by intro h; cases h)⟩
      · have body := o36_next o o2 B B2 (i + n) items stages it (dFa (by simp; omega)) r2.len ⟨t⟩ (dTr hc)
        rw [wrapId (by omega)] at body
        rcases ih (i + n) (it + 1) o2 B2 X2 (by omega) (by omega) (by omega) hit (by rw [Int.add_mul]; push_cast; omega) (by omega) r2 with ⟨e, o3, h3, t3⟩ | ⟨e, h3, t3⟩
        · exact .inl ⟨e, o3, h3, body.loopNext t3⟩
        · exact .inr ⟨e, h3, body.loopNext t3⟩
    · have e : ¬ 200 < items * stages := by
        rcases hsx with rfl | rfl | rfl | rfl | rfl | rfl <;> omega
      rw [if_neg e]
      exact .inl ⟨rfl, _, _, (o36_end o o B B i items stages it (dFa hc)).loopStop (by intro h; cases h)⟩
def taskForE (lo hi step : Int) : Int := if step = 0 then 150 else if 0 < step then (if lo + 200 * step < hi then 151 else 0) else (if hi < lo + 200 * step then 151 else 0)
def taskE (kd lo hi step items stages : Int) : Int :=
  if kd = 1 ∧ items = 0 ∧ stages = 0 then taskForE lo hi step
  else if kd = 2 ∧ lo = 0 ∧ hi = 0 ∧ step = 0 ∧ 0 ≤ items ∧ 1 ≤ stages ∧ stages ≤ 6 then (if 200 < items * stages then 151 else 0) else 152
theorem comp36 : comp Tryz.prog Tryz.f36 = some cf36 := by kernel_rfl
def shapeV (kd lo hi step items stages : Int) : AV := .agg [.int .i64 kd, .int .i64 lo, .int .i64 hi, .int .i64 step, .int .i64 items, .int .i64 stages]
theorem get1 (S : Bk) : ∀ b, (hOf 1 [(0, S)]).get b = (hp36 S none).get b := by
  intro b
  show (Tr.set Tr.leaf 0 (some S)).get b = (Tr.set (Tr.set Tr.leaf 1 none) 0 (some S)).get b
  simp only [Tr.get_set]
  split
  · rfl
  · split <;> rfl
theorem con36 (kd lo hi step items stages : Int) (hlo : In64 lo) (hhi : In64 hi) (hst : In64 step) : ∃ v h', Con Tryz.prog 0 36 [shapeV kd lo hi step items stages] (hOf 0 []) (.tup [v, .int .i64 (taskE kd lo hi step items stages)]) h' := by
  have fin : ∀ {v : AV} {e : Int} {h' : H}, Tri Tryz.prog 134 0 cc36 (putArgs [shapeV kd lo hi step items stages] 0 .leaf) (hOf 0 []) .ret (ofL [(2, v), (3, .int .i64 e)]) h' → Con Tryz.prog 0 36 [shapeV kd lo hi step items stages] (hOf 0 []) (.tup [v, .int .i64 e]) h' :=
    fun t => t.con (fl := .ret) Tryz.func36 comp36 rfl (.inr rfl) rfl
  by_cases k1 : kd = 1
  · subst k1
    by_cases k2 : items = 0
    · subst k2
      by_cases k3 : stages = 0
      · subst k3
        have e : taskE 1 lo hi step 0 0 = taskForE lo hi step := by unfold taskE; rw [if_pos (by simp)]
        rw [e]
        by_cases k4 : step = 0
        · subst k4
          exact ⟨_, _, fin (m36_f0 lo hi)⟩
        · have go : Ends lb36_2 0 (st36 .snil lo) (hp36 (sh36 1 lo hi step 0 0) none) 0 (taskForE lo hi step) := by
            unfold taskForE
            rw [if_neg k4]
            by_cases k5 : 0 < step
            · rw [if_pos k5]; exact loop36_up k5 hhi hst 200 0 .snil none [] lo rfl OutR.nil (by simp) hlo
            · rw [if_neg k5]; exact loop36_dn (by omega) hhi hst 200 0 .snil none [] lo rfl OutR.nil (by simp) hlo
          rcases go with ⟨e0, o, h, t⟩ | ⟨e0, h, t⟩
          · rw [e0]
            exact ⟨_, _, fin (m36_f_ok o h lo hi step ⟨t.heap (get1 _) (Nat.le_succ 1)⟩ (dFa k4))⟩
          · exact ⟨_, _, fin (m36_f_no h lo hi step _ ⟨t.heap (get1 _) (Nat.le_succ 1)⟩ (dFa k4))⟩
      · rw [show taskE 1 lo hi step 0 stages = 152 by unfold taskE; rw [if_neg (by omega), if_neg (by omega)]]
        exact ⟨_, _, fin (m36_y2 lo hi step 0 stages (dFa k3) (dTr rfl))⟩
    · rw [show taskE 1 lo hi step items stages = 152 by unfold taskE; rw [if_neg (by omega), if_neg (by omega)]]
      exact ⟨_, _, fin (m36_y1 lo hi step items stages (dFa k2))⟩
  · by_cases k2 : kd = 2
    · subst k2
      by_cases q0 : lo = 0
      · by_cases q1 : hi = 0
        · by_cases q2 : step = 0
          · by_cases q3 : 0 ≤ items
            · by_cases q4 : 1 ≤ stages
              · by_cases q5 : stages ≤ 6
                · subst q0 q1 q2
                  rw [show taskE 2 0 0 0 items stages = (if 200 < items * stages then 151 else 0) by unfold taskE; rw [if_neg (by omega), if_pos (by omega)]]
                  rcases outer36 (items := items) q4 q5 201 0 0 .snil none [] (by decide) (by omega) (.inr rfl) q3 (by simp) (by omega) OutR.nil with ⟨e0, o, h, t⟩ | ⟨e0, h, t⟩
                  · rw [e0]
                    exact ⟨_, _, fin (m36_p_ok o h items stages ⟨t.heap (get1 _) (Nat.le_succ 1)⟩ (dTr q5) (dTr q4) (dTr q3))⟩
                  · exact ⟨_, _, fin (m36_p_no h items stages _ ⟨t.heap (get1 _) (Nat.le_succ 1)⟩ (dTr q5) (dTr q4) (dTr q3))⟩
                · rw [show taskE 2 lo hi step items stages = 152 by unfold taskE; rw [if_neg (by omega), if_neg (by omega)]]
                  exact ⟨_, _, fin (m36_x0_6 2 lo hi step items stages (dFa q5) (dTr q4) (dTr q3) (dTr q2) (dTr q1) (dTr q0) (dTr rfl) (dFa k1))⟩
              · rw [show taskE 2 lo hi step items stages = 152 by unfold taskE; rw [if_neg (by omega), if_neg (by omega)]]
                exact ⟨_, _, fin (m36_x0_5 2 lo hi step items stages (dFa q4) (dTr q3) (dTr q2) (dTr q1) (dTr q0) (dTr rfl) (dFa k1))⟩
            · rw [show taskE 2 lo hi step items stages = 152 by unfold taskE; rw [if_neg (by omega), if_neg (by omega)]]
              exact ⟨_, _, fin (m36_x0_4 2 lo hi step items stages (dFa q3) (dTr q2) (dTr q1) (dTr q0) (dTr rfl) (dFa k1))⟩
          · rw [show taskE 2 lo hi step items stages = 152 by unfold taskE; rw [if_neg (by omega), if_neg (by omega)]]
            exact ⟨_, _, fin (m36_x0_3 2 lo hi step items stages (dFa q2) (dTr q1) (dTr q0) (dTr rfl) (dFa k1))⟩
        · rw [show taskE 2 lo hi step items stages = 152 by unfold taskE; rw [if_neg (by omega), if_neg (by omega)]]
          exact ⟨_, _, fin (m36_x0_2 2 lo hi step items stages (dFa q1) (dTr q0) (dTr rfl) (dFa k1))⟩
      · rw [show taskE 2 lo hi step items stages = 152 by unfold taskE; rw [if_neg (by omega), if_neg (by omega)]]
        exact ⟨_, _, fin (m36_x0_1 2 lo hi step items stages (dFa q0) (dTr rfl) (dFa k1))⟩
    · rw [show taskE kd lo hi step items stages = 152 by unfold taskE; rw [if_neg (by omega), if_neg (by omega)]]
      exact ⟨_, _, fin (m36_x0_0 kd lo hi step items stages (dFa k2) (dFa k1))⟩
theorem tasks_calls (kd lo hi step items stages : Int) (hlo : In64 lo) (hhi : In64 hi) (hst : In64 step) (w : World) :
    Calls Tryz.prog 36 #[.agg #[.int .i64 kd, .int .i64 lo, .int .i64 hi, .int .i64 step, .int .i64 items, .int .i64 stages]] w fun e w' => (∃ v_ : Value, e = .returned (.tuple #[v_, .int .i64 (taskE kd lo hi step items stages)])) ∧ Below w.heap.size w w' := by
  obtain ⟨v, h', c⟩ := con36 kd lo hi step items stages hlo hhi hst
  refine con_calls (σ := fun _ => none) (args' := [.agg #[.int .i64 kd, .int .i64 lo, .int .i64 hi, .int .i64 step, .int .i64 items, .int .i64 stages]]) c (by intro b x h; cases h) (HR.none 0 w) (.cons ?_ (.nil _)) (fun _ _ => rfl)
  exact VR.mk_agg (cs := [.int .i64 kd, .int .i64 lo, .int .i64 hi, .int .i64 step, .int .i64 items, .int .i64 stages]) (ds := [.int .i64 kd, .int .i64 lo, .int .i64 hi, .int .i64 step, .int .i64 items, .int .i64 stages]) (.cons (.int _ _) (.cons (.int _ _) (.cons (.int _ _) (.cons (.int _ _) (.cons (.int _ _) (.cons (.int _ _) (.nil _)))))))
end Go.Ab
