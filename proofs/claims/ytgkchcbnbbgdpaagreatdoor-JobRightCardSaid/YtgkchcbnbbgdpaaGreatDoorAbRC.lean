/- What the config's statement runs, made shorter. -/
import Derived.Test.YtgkchcbnbbgdpaaGreatDoorAbOra
namespace Go.Ab
def cc16 : CC :=
  (.seq (.reg [⟨(some 1), .box (.t 0), none, []⟩, ⟨(some 2), .mv (.k (.int .i64 0)), none, []⟩])
  (.seq (.seq (.reg [⟨(some 3), .fieldA 0 (.t 1), none, []⟩, ⟨(some 4), .load 1 false (.t 3), none, []⟩, ⟨(some 5), .call (.k (.fn 38 [] [])) [(.t 4), (.k (.int .i64 1)), (.k (.int .i64 8))], none, []⟩])
  (.cond (.t 5)
  (.seq (.reg [⟨(some 2), .mv (.k (.int .i64 162)), none, []⟩])
  .ret)
  .skip))
  (.seq (.seq (.reg [⟨(some 6), .fieldA 2 (.t 1), none, []⟩, ⟨(some 7), .load 1 false (.t 6), none, []⟩, ⟨(some 8), .call (.k (.fn 38 [] [])) [(.t 7), (.k (.int .i64 1)), (.k (.int .i64 3))], none, []⟩])
  (.cond (.t 8)
  (.seq (.reg [⟨(some 2), .mv (.k (.int .i64 160)), none, []⟩])
  .ret)
  .skip))
  (.seq (.seq (.reg [⟨(some 9), .fieldA 3 (.t 1), none, []⟩, ⟨(some 10), .load 1 false (.t 9), none, []⟩, ⟨(some 11), .call (.k (.fn 38 [] [])) [(.t 10), (.k (.int .i64 1)), (.k (.int .i64 200))], none, []⟩])
  (.cond (.t 11)
  (.seq (.reg [⟨(some 2), .mv (.k (.int .i64 161)), none, []⟩])
  .ret)
  .skip))
  (.seq (.seq (.reg [⟨(some 12), .fieldA 1 (.t 1), none, []⟩, ⟨(some 13), .load 1 false (.t 12), none, []⟩, ⟨(some 14), .call (.k (.fn 38 [] [])) [(.t 13), (.k (.int .i64 1)), (.k (.int .i64 32))], none, []⟩, ⟨(some 15), .mv (.t 14), none, []⟩, ⟨(some 16), .fieldA 4 (.t 1), some (15, false), []⟩, ⟨(some 17), .load 1 false (.t 16), some (15, false), []⟩, ⟨(some 18), .call (.k (.fn 38 [] [])) [(.t 17), (.k (.int .i64 1)), (.k (.int .i64 64))], some (15, false), []⟩, ⟨(some 19), .pick (.t 15) (.k (.bool true)) (.t 18), none, []⟩, ⟨(some 20), .mv (.t 19), none, []⟩, ⟨(some 21), .fieldA 5 (.t 1), some (20, false), []⟩, ⟨(some 22), .load 1 false (.t 21), some (20, false), []⟩, ⟨(some 23), .call (.k (.fn 38 [] [])) [(.t 22), (.k (.int .i64 1)), (.k (.int .i64 64))], some (20, false), []⟩, ⟨(some 24), .pick (.t 20) (.k (.bool true)) (.t 23), none, []⟩, ⟨(some 25), .mv (.t 24), none, []⟩, ⟨(some 26), .fieldA 6 (.t 1), some (25, false), []⟩, ⟨(some 27), .load 1 false (.t 26), some (25, false), []⟩, ⟨(some 28), .call (.k (.fn 38 [] [])) [(.t 27), (.k (.int .i64 1)), (.k (.int .i64 64))], some (25, false), []⟩, ⟨(some 29), .pick (.t 25) (.k (.bool true)) (.t 28), none, []⟩, ⟨(some 30), .mv (.t 29), none, []⟩, ⟨(some 31), .fieldA 7 (.t 1), some (30, false), []⟩, ⟨(some 32), .load 1 false (.t 31), some (30, false), []⟩, ⟨(some 33), .call (.k (.fn 38 [] [])) [(.t 32), (.k (.int .i64 1)), (.k (.int .i64 512))], some (30, false), []⟩, ⟨(some 34), .pick (.t 30) (.k (.bool true)) (.t 33), none, []⟩, ⟨(some 35), .mv (.t 34), none, []⟩, ⟨(some 36), .fieldA 8 (.t 1), some (35, false), []⟩, ⟨(some 37), .load 1 false (.t 36), some (35, false), []⟩, ⟨(some 38), .call (.k (.fn 38 [] [])) [(.t 37), (.k (.int .i64 1)), (.k (.int .i64 512))], some (35, false), []⟩, ⟨(some 39), .pick (.t 35) (.k (.bool true)) (.t 38), none, []⟩, ⟨(some 40), .mv (.t 39), none, []⟩, ⟨(some 41), .fieldA 9 (.t 1), some (40, false), []⟩, ⟨(some 42), .load 1 false (.t 41), some (40, false), []⟩, ⟨(some 43), .call (.k (.fn 38 [] [])) [(.t 42), (.k (.int .i64 0)), (.k (.int .i64 9))], some (40, false), []⟩, ⟨(some 44), .pick (.t 40) (.k (.bool true)) (.t 43), none, []⟩])
  (.cond (.t 44)
  (.seq (.reg [⟨(some 2), .mv (.k (.int .i64 172)), none, []⟩])
  .ret)
  .skip))
  (.seq (.reg [⟨(some 2), .mv (.k (.int .i64 0)), none, []⟩])
  .ret))))))
def cf16 : CFn := ⟨cc16, 45, [(2, none)]⟩

def cc38 : CC :=
  (.seq (.reg [⟨(some 6), .mv (.k (.bool false)), none, []⟩])
  (.seq (.reg [⟨(some 7), .mv (.t 0), none, []⟩, ⟨(some 8), .mv (.t 1), none, []⟩, ⟨(some 9), .bin .lss .plain (.t 7) (.t 8), none, []⟩, ⟨(some 10), .mv (.t 9), none, []⟩, ⟨(some 11), .mv (.t 0), some (10, false), []⟩, ⟨(some 12), .mv (.t 2), some (10, false), []⟩, ⟨(some 13), .bin .gtr .plain (.t 11) (.t 12), some (10, false), []⟩, ⟨(some 14), .pick (.t 10) (.k (.bool true)) (.t 13), none, []⟩, ⟨(some 6), .mv (.t 14), none, []⟩])
  .ret))
def cf38 : CFn := ⟨cc38, 15, [(6, none)]⟩

def cc15 : CC :=
  (.seq (.reg [⟨(some 1), .box (.t 0), none, []⟩, ⟨(some 2), .mv (.k (.int .i64 0)), none, []⟩])
  (.seq (.seq (.reg [⟨(some 5), .fieldA 0 (.t 1), none, []⟩, ⟨(some 6), .load 1 false (.t 5), none, []⟩, ⟨(some 7), .bin .lss .plain (.t 6) (.k (.int .i64 1)), none, []⟩, ⟨(some 8), .mv (.t 7), none, []⟩, ⟨(some 9), .fieldA 0 (.t 1), some (8, false), []⟩, ⟨(some 10), .load 1 false (.t 9), some (8, false), []⟩, ⟨(some 11), .bin .gtr .plain (.t 10) (.k (.int .i64 8)), some (8, false), []⟩, ⟨(some 12), .pick (.t 8) (.k (.bool true)) (.t 11), none, []⟩])
  (.cond (.t 12)
  (.seq (.reg [⟨(some 2), .mv (.k (.int .i64 162)), none, []⟩])
  .ret)
  .skip))
  (.seq (.seq (.reg [⟨(some 13), .fieldA 2 (.t 1), none, []⟩, ⟨(some 14), .load 1 false (.t 13), none, []⟩, ⟨(some 15), .bin .lss .plain (.t 14) (.k (.int .i64 1)), none, []⟩, ⟨(some 16), .mv (.t 15), none, []⟩, ⟨(some 17), .fieldA 2 (.t 1), some (16, false), []⟩, ⟨(some 18), .load 1 false (.t 17), some (16, false), []⟩, ⟨(some 19), .bin .gtr .plain (.t 18) (.k (.int .i64 3)), some (16, false), []⟩, ⟨(some 20), .pick (.t 16) (.k (.bool true)) (.t 19), none, []⟩])
  (.cond (.t 20)
  (.seq (.reg [⟨(some 2), .mv (.k (.int .i64 160)), none, []⟩])
  .ret)
  .skip))
  (.seq (.seq (.reg [⟨(some 21), .fieldA 3 (.t 1), none, []⟩, ⟨(some 22), .load 1 false (.t 21), none, []⟩, ⟨(some 23), .bin .lss .plain (.t 22) (.k (.int .i64 1)), none, []⟩, ⟨(some 24), .mv (.t 23), none, []⟩, ⟨(some 25), .fieldA 3 (.t 1), some (24, false), []⟩, ⟨(some 26), .load 1 false (.t 25), some (24, false), []⟩, ⟨(some 27), .bin .gtr .plain (.t 26) (.k (.int .i64 200)), some (24, false), []⟩, ⟨(some 28), .pick (.t 24) (.k (.bool true)) (.t 27), none, []⟩])
  (.cond (.t 28)
  (.seq (.reg [⟨(some 2), .mv (.k (.int .i64 161)), none, []⟩])
  .ret)
  .skip))
  (.seq (.seq (.reg [⟨(some 29), .fieldA 1 (.t 1), none, []⟩, ⟨(some 30), .load 1 false (.t 29), none, []⟩, ⟨(some 31), .build [(.int .i64 0), (.int .i64 0)] [(0, 1, (.t 30)), (1, 1, (.k (.int .i64 32)))], none, []⟩, ⟨(some 32), .fieldA 4 (.t 1), none, []⟩, ⟨(some 33), .load 1 false (.t 32), none, []⟩, ⟨(some 34), .build [(.int .i64 0), (.int .i64 0)] [(0, 1, (.t 33)), (1, 1, (.k (.int .i64 64)))], none, []⟩, ⟨(some 35), .fieldA 5 (.t 1), none, []⟩, ⟨(some 36), .load 1 false (.t 35), none, []⟩, ⟨(some 37), .build [(.int .i64 0), (.int .i64 0)] [(0, 1, (.t 36)), (1, 1, (.k (.int .i64 64)))], none, []⟩, ⟨(some 38), .fieldA 6 (.t 1), none, []⟩, ⟨(some 39), .load 1 false (.t 38), none, []⟩, ⟨(some 40), .build [(.int .i64 0), (.int .i64 0)] [(0, 1, (.t 39)), (1, 1, (.k (.int .i64 64)))], none, []⟩, ⟨(some 41), .fieldA 7 (.t 1), none, []⟩, ⟨(some 42), .load 1 false (.t 41), none, []⟩, ⟨(some 43), .build [(.int .i64 0), (.int .i64 0)] [(0, 1, (.t 42)), (1, 1, (.k (.int .i64 512)))], none, []⟩, ⟨(some 44), .fieldA 8 (.t 1), none, []⟩, ⟨(some 45), .load 1 false (.t 44), none, []⟩, ⟨(some 46), .build [(.int .i64 0), (.int .i64 0)] [(0, 1, (.t 45)), (1, 1, (.k (.int .i64 512)))], none, []⟩, ⟨(some 47), .bslice 6 2 [(.int .i64 0), (.int .i64 0), (.int .i64 0), (.int .i64 0), (.int .i64 0), (.int .i64 0), (.int .i64 0), (.int .i64 0), (.int .i64 0), (.int .i64 0), (.int .i64 0), (.int .i64 0)] [(0, 2, (.t 31)), (2, 2, (.t 34)), (4, 2, (.t 37)), (6, 2, (.t 40)), (8, 2, (.t 43)), (10, 2, (.t 46))], none, []⟩, ⟨(some 48), .lenL (.t 47), none, []⟩, ⟨(some 49), .mv (.k (.int .i64 0)), none, []⟩])
  (.block 0 (.loop (.seq (.reg [⟨(some 50), .bin .lss .plain (.t 49) (.t 48), none, []⟩])
  (.seq (.cond (.t 50)
  .skip
  (.exit 0))
  (.seq (.block 1 (.seq (.reg [⟨(some 51), .idxSl 2 (.t 47) (.t 49), none, []⟩, ⟨(some 52), .load 2 true (.t 51), none, []⟩, ⟨(some 4), .alloc [(.int .i64 0), (.int .i64 0)], none, []⟩, ⟨none, .store 2 (.t 4) (.t 52), none, []⟩])
  (.seq (.reg [⟨(some 53), .idxArr 2 1 (.t 4) (.k (.int .i64 0)), none, []⟩, ⟨(some 54), .load 1 false (.t 53), none, []⟩, ⟨(some 55), .bin .lss .plain (.t 54) (.k (.int .i64 1)), none, []⟩, ⟨(some 56), .mv (.t 55), none, []⟩, ⟨(some 57), .idxArr 2 1 (.t 4) (.k (.int .i64 0)), some (56, false), []⟩, ⟨(some 58), .load 1 false (.t 57), some (56, false), []⟩, ⟨(some 59), .idxArr 2 1 (.t 4) (.k (.int .i64 1)), some (56, false), []⟩, ⟨(some 60), .load 1 false (.t 59), some (56, false), []⟩, ⟨(some 61), .bin .gtr .plain (.t 58) (.t 60), some (56, false), []⟩, ⟨(some 62), .pick (.t 56) (.k (.bool true)) (.t 61), none, []⟩])
  (.cond (.t 62)
  (.seq (.reg [⟨(some 2), .mv (.k (.int .i64 172)), none, []⟩])
  .ret)
  .skip))))
  (.reg [⟨(some 63), .bin .add .plain (.t 49) (.k (.int .i64 1)), none, []⟩, ⟨(some 49), .mv (.t 63), none, []⟩])))))))
  (.seq (.seq (.reg [⟨(some 64), .fieldA 9 (.t 1), none, []⟩, ⟨(some 65), .load 1 false (.t 64), none, []⟩, ⟨(some 66), .bin .lss .plain (.t 65) (.k (.int .i64 0)), none, []⟩, ⟨(some 67), .mv (.t 66), none, []⟩, ⟨(some 68), .fieldA 9 (.t 1), some (67, false), []⟩, ⟨(some 69), .load 1 false (.t 68), some (67, false), []⟩, ⟨(some 70), .bin .gtr .plain (.t 69) (.k (.int .i64 9)), some (67, false), []⟩, ⟨(some 71), .pick (.t 67) (.k (.bool true)) (.t 70), none, []⟩])
  (.cond (.t 71)
  (.seq (.reg [⟨(some 2), .mv (.k (.int .i64 172)), none, []⟩])
  .ret)
  .skip))
  (.seq (.reg [⟨(some 2), .mv (.k (.int .i64 0)), none, []⟩])
  .ret)))))))
def cf15 : CFn := ⟨cc15, 72, [(2, none)]⟩

def cc4 : CC :=
  (.seq (.reg [⟨(some 1), .box (.t 0), none, []⟩, ⟨(some 2), .mv (.k (.bool false)), none, []⟩])
  (.seq (.draw [⟨(some 3), .load 11 true (.t 1), none, []⟩, ⟨(some 4), .call (.k (.fn 15 [] [])) [(.t 3)], none, []⟩, ⟨(some 5), .load 11 true (.t 1), none, [1]⟩, ⟨(some 6), .call (.k (.fn 16 [] [])) [(.t 5)], none, []⟩, ⟨(some 7), .bin .eql .plain (.t 4) (.t 6), none, []⟩, ⟨(some 8), .mv (.t 7), none, []⟩, ⟨(some 9), .call (.k (.fn 14 [] [])) [], some (8, true), []⟩, ⟨(some 10), .pick (.t 8) (.t 9) (.k (.bool false)), none, []⟩, ⟨(some 2), .mv (.t 10), none, []⟩] none)
  .ret))
def cf4 : CFn := ⟨cc4, 11, [(2, none)]⟩


def extAlive (args : List AV) (h : H) : Option (AV × H) :=
  match args with
  | [] => some (.bool true, h)
  | _ => none
def fnR (n : Nat) : Option CFn := match n with | 4 => some cf4 | 15 => some cf15 | 16 => some cf16 | 38 => some cf38 | _ => none
def exR (n : Nat) : Option (List AV → H → Option (AV × H)) := match n with | 14 => some extAlive | _ => none
def cxR : Cx := { fn := fnR, ext := exR }
def cfgA (c0 c1 c2 c3 c4 c5 c6 c7 c8 c9 : Int) (b : Bool) : AV := .agg [.int .i64 c0, .int .i64 c1, .int .i64 c2, .int .i64 c3, .int .i64 c4, .int .i64 c5, .int .i64 c6, .int .i64 c7, .int .i64 c8, .int .i64 c9, .bool b]
end Go.Ab
