/- Rules that step through code by themselves. -/
import Derived.Test.YtgkchcbnbbgdpaaGreatDoorAbRule
namespace Go.Ab
section
variable {cx : Cx}

/-- What comes behind the first half. -/
inductive Sq (cx : Cx) (b : CC) : Fl → S → Fl → S → Prop
  | go {s1 s' : S} {f : Fl} (h : Ex cx b s1 f s') : Sq cx b .norm s1 f s'
  | ret {s : S} : Sq cx b .ret s .ret s
  | exit {s : S} {i : Nat} : Sq cx b (.exit i) s (.exit i) s
theorem Ex.sq {a b : CC} {s s1 s' : S} {f1 f : Fl} (h1 : Ex cx a s f1 s1) (h2 : Sq cx b f1 s1 f s') : Ex cx (.seq a b) s f s' := by
  cases h2 with
  | go h => exact Ex.seq h1 h
  | ret => exact Ex.stop h1 (by intro h; cases h)
  | exit => exact Ex.stop h1 (by intro h; cases h)

inductive Bl (id : Nat) : Fl → S → Fl → S → Prop
  | norm {s : S} : Bl id .norm s .norm s
  | ret {s : S} : Bl id .ret s .ret s
  | hit {i : Nat} {s : S} (h : Nat.beq i id = true) : Bl id (.exit i) s .norm s
  | out {i : Nat} {s : S} (h : Nat.beq i id = false) : Bl id (.exit i) s (.exit i) s
theorem Ex.bl {id : Nat} {body : CC} {s s1 s' : S} {f1 f : Fl} (h1 : Ex cx body s f1 s1) (h2 : Bl id f1 s1 f s') : Ex cx (.block id body) s f s' := by
  cases h2 with
  | norm => exact Ex.block h1
  | ret => exact Ex.blockRet h1
  | hit h => rw [Nat.eq_of_beq_eq_true h] at h1; exact Ex.blockExit h1
  | out h => exact Ex.blockOut h1 h

inductive Lp (cx : Cx) (body : CC) : Fl → S → Fl → S → Prop
  | next {s1 s' : S} {f : Fl} (h : Ex cx (.loop body) s1 f s') : Lp cx body .norm s1 f s'
  | ret {s : S} : Lp cx body .ret s .ret s
  | exit {s : S} {i : Nat} : Lp cx body (.exit i) s (.exit i) s
theorem Ex.lp {body : CC} {s s1 s' : S} {f1 f : Fl} (h1 : Ex cx body s f1 s1) (h2 : Lp cx body f1 s1 f s') : Ex cx (.loop body) s f s' := by
  cases h2 with
  | next h => exact Ex.loopNext h1 h
  | ret => exact Ex.loopStop h1 (by intro h; cases h)
  | exit => exact Ex.loopStop h1 (by intro h; cases h)

theorem Rg.pickT {d : Option Nat} {c a b : Opd} {g : Option (Nat × Bool)} {win : List Nat} {rest : List CR} {s s' : S} (hg : guardOk s.ts ⟨d, .pick c a b, g, win⟩ = true) (hw : wantedA s.ts ⟨d, .pick c a b, g, win⟩ = true)
    (hb : evA s.ts c = .bool true) (h : Rg cx rest ⟨putT s.ts d (evA s.ts a), s.ds, s.h⟩ s') : Rg cx (⟨d, .pick c a b, g, win⟩ :: rest) s s' :=
  Rg.val hg hw (by simp only [opA, oPick, hb]) h
theorem Rg.pickF {d : Option Nat} {c a b : Opd} {g : Option (Nat × Bool)} {win : List Nat} {rest : List CR} {s s' : S} (hg : guardOk s.ts ⟨d, .pick c a b, g, win⟩ = true) (hw : wantedA s.ts ⟨d, .pick c a b, g, win⟩ = true)
    (hb : evA s.ts c = .bool false) (h : Rg cx rest ⟨putT s.ts d (evA s.ts b), s.ds, s.h⟩ s') : Rg cx (⟨d, .pick c a b, g, win⟩ :: rest) s s' :=
  Rg.val hg hw (by simp only [opA, oPick, hb]) h

theorem bT {p : Prop} [Decidable p] (h : p) : AV.bool (decide p) = AV.bool true := congrArg AV.bool (decide_eq_true h)
theorem bF {p : Prop} [Decidable p] (h : ¬ p) : AV.bool (decide p) = AV.bool false := congrArg AV.bool (decide_eq_false h)
theorem sT {p : Prop} [Decidable p] (h : p) : some (AV.bool (decide p)) = some (AV.bool true) := congrArg some (bT h)
theorem sF {p : Prop} [Decidable p] (h : ¬ p) : some (AV.bool (decide p)) = some (AV.bool false) := congrArg some (bF h)
theorem Rg.gUn {d : Option Nat} {op : CO} {g : Nat} {want b : Bool} {win : List Nat} {rest : List CR} {s s' : S} (hb : s.ts.get g = some (.bool b)) (hw : (b == want) = false) (h : Rg cx rest ⟨putT s.ts d undefA, s.ds, s.h⟩ s') : Rg cx (⟨d, op, some (g, want), win⟩ :: rest) s s' :=
  Rg.un (by simp only [guardOk, hb]) (by simp only [wantedA, hb, hw]) h
theorem Rg.gVal {d : Option Nat} {op : CO} {g : Nat} {want b : Bool} {win : List Nat} {rest : List CR} {s s' : S} {v : AV} {h1 : H} (hb : s.ts.get g = some (.bool b)) (hw : (b == want) = true) (ho : opA s.ts s.h op = .val v h1) (h : Rg cx rest ⟨putT s.ts d v, s.ds, h1⟩ s') : Rg cx (⟨d, op, some (g, want), win⟩ :: rest) s s' :=
  Rg.val (by simp only [guardOk, hb]) (by simp only [wantedA, hb, hw]) ho h
theorem Rg.gCall {d : Option Nat} {op : CO} {g : Nat} {want b : Bool} {win : List Nat} {rest : List CR} {s s' : S} {f : Nat} {l : List AV} {v : AV} {h1 h2 : H} (hb : s.ts.get g = some (.bool b)) (hw : (b == want) = true) (ho : opA s.ts s.h op = .call f l h1) (hc : Ca cx f l h1 v h2)
    (h : Rg cx rest ⟨putT s.ts d v, s.ds, h2⟩ s') : Rg cx (⟨d, op, some (g, want), win⟩ :: rest) s s' :=
  Rg.call (by simp only [guardOk, hb]) (by simp only [wantedA, hb, hw]) ho hc h
end
end Go.Ab
