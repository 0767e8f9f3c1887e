/- Each operation of the model does what its abstract one does. -/
import Derived.Test.YtgkchcbnbbgdpaaGreatDoorAbOps10
namespace Go.Ab

/-- A deferred call. -/
def DR (σ : Ren) (p : Nat × List AV) (d : Deferred) : Prop := ∃ cap : Array Value, d.target = .fn (.func p.1) cap ∧ LR σ p.2 (d.args.toList ++ cap.toList)

def OpOk (P : Program) (σ : Ren) (h : H) (w : World) (o : Oper) (a : Act) : St → Prop
  | .val v h' => (∀ b, h.next ≤ b → b < h'.next → σ b = none) → ∃ σ' v' w', (execOp a.eval o).run P w = .ok (.value v') w' ∧ VR σ' v v' ∧ HR σ' h' w' ∧ Ext σ σ' h h' w w'
  | .skip h' => (∀ b, h.next ≤ b → b < h'.next → σ b = none) → ∃ σ' w', (execOp a.eval o).run P w = .ok .skip w' ∧ HR σ' h' w' ∧ Ext σ σ' h h' w w'
  | .call f args h' => h' = h ∧ ∃ args', LR σ args args' ∧ (execOp a.eval o).run P w = (callFunc f args'.toArray).run P w
  | .defer f args h' => h' = h ∧ ∃ d, (execOp a.eval o).run P w = .ok (.defer d) w ∧ DR σ (f, args) d
  | .recov h' => h' = h ∧ (execOp a.eval o).run P w = .ok .recover w
  | .pan v h' => h' = h ∧ ∃ v', (execOp a.eval o).run P w = .halt (.panic v') w ∧ VR σ v v'
  | .no => True

section
variable {P : Program} {σ : Ren} {h : H} {w : World} {o : Oper} {a : Act}

theorem OpOk.ofMakes {s : Sem Value} {v : AV} {h' : H} (hm : Makes P σ h w s v h') (he : execOp a.eval o = (do pure (.value (← s)))) : OpOk P σ h w o a (.val v h') := by
  intro hf
  obtain ⟨σ', v', w', h1, h2, h3, h4⟩ := hm hf
  exact ⟨σ', v', w', by rw [he]; simp [h1], h2, h3, h4⟩

theorem OpOk.ofGives (r : HR σ h w) {s : Sem Value} {v : AV} (hm : Gives P σ w s v) (he : execOp a.eval o = (do pure (.value (← s)))) : OpOk P σ h w o a (.val v h) :=
  OpOk.ofMakes (hm.makes r) he

theorem OpOk.ofDoes {s : Sem Unit} {h' : H} (hm : Does P σ h w s h') (he : execOp a.eval o = (do s; pure .skip)) : OpOk P σ h w o a (.skip h') := by
  intro hf
  obtain ⟨σ', w', h1, h2, h3⟩ := hm hf
  exact ⟨σ', w', by rw [he]; simp [h1], h2, h3⟩

theorem OpOk.ofO {s : Sem Value} {x : Option AV} (hm : ∀ v, x = some v → OpOk P σ h w o a (.val v h)) : OpOk P σ h w o a (Ab.ofO h x) := by
  cases x with
  | none => trivial
  | some v => exact hm v rfl

theorem OpOk.ofO' {x : Option AV} (hm : ∀ v, x = some v → OpOk P σ h w o a (.val v h)) : OpOk P σ h w o a (Ab.ofO h x) := by
  cases x with
  | none => trivial
  | some v => exact hm v rfl

theorem args_map (a : Act) (args : Array Operand) : args.map a.eval = (args.toList.map a.eval).toArray := by
  apply Array.ext'; simp

/-- A call of a function value. -/
theorem call_ok {ts : TS} (htr : TR σ ts a.tmps) {c : Call} {f : Operand} (ho : o.op = .call c) (hcal : c.callee = .value f) : OpOk P σ h w o a (oCall ts h (opd f) (c.args.toList.map opd)) := by
  unfold oCall
  have hf := evA_ok htr f
  have hargs := evL_ok htr c.args.toList
  split
  · rename_i g fst cap e
    rw [e] at hf
    generalize hF : a.eval f = F at hf
    cases hf with
    | @fn _ _ _ fst' cap' h1 h2 h3 h4 =>
      refine ⟨rfl, fst'.toList ++ c.args.toList.map a.eval ++ cap'.toList, ?_, ?_⟩
      · exact LR.append (LR.append ⟨by simpa using h1, fun i v v' x y => h2 i v v' x (by simpa using y)⟩ hargs) ⟨by simpa using h3, fun i v v' x y => h4 i v v' x (by simpa using y)⟩
      · simp only [execOp, ho, resolve, hcal, hF, Deferred.ofValue, Sem.run_bind, Sem.run_pure, Result.andThen_ok, invoke]
        congr 2
        apply Array.ext'
        simp
  · trivial

theorem defer_ok {ts : TS} (htr : TR σ ts a.tmps) {c : Call} {f : Operand} (ho : o.op = .defer c) (hcal : c.callee = .value f) : OpOk P σ h w o a (oDefer ts h (opd f) (c.args.toList.map opd)) := by
  unfold oDefer
  have hf := evA_ok htr f
  have hargs := evL_ok htr c.args.toList
  split
  · rename_i g fst cap e
    rw [e] at hf
    generalize hF : a.eval f = F at hf
    cases hf with
    | @fn _ _ _ fst' cap' h1 h2 h3 h4 =>
      refine ⟨rfl, ⟨.fn (.func g) cap', fst' ++ c.args.map a.eval⟩, ?_, cap', rfl, ?_⟩
      · simp only [execOp, ho, resolve, hcal, hF, Deferred.ofValue, Sem.run_bind, Sem.run_pure, Result.andThen_ok]
      · have := LR.append (LR.append (σ := σ) (a := fst) (a' := fst'.toList) ⟨by simpa using h1, fun i v v' x y => h2 i v v' x (by simpa using y)⟩ hargs) (b := cap) (b' := cap'.toList) ⟨by simpa using h3, fun i v v' x y => h4 i v v' x (by simpa using y)⟩
        simpa [args_map] using this
  · trivial

theorem pick_ok {ts : TS} (htr : TR σ ts a.tmps) (r : HR σ h w) {c x y : Operand} (ho : o.op = .pick c x y) : OpOk P σ h w o a (oPick ts h (opd c) (opd x) (opd y)) := by
  unfold oPick
  have hc := evA_ok htr c
  have hx := evA_ok htr x
  have hy := evA_ok htr y
  split
  · rename_i t e
    rw [e] at hc
    generalize hC : a.eval c = C at hc
    cases hc
    refine OpOk.ofGives r (s := do pure (if ← asBool (a.eval c) then a.eval x else a.eval y)) ?_ (by simp [execOp, ho])
    rw [hC]
    cases t
    · exact ⟨_, by simp [asBool], hy⟩
    · exact ⟨_, by simp [asBool], hx⟩
  · trivial

theorem nilc_ok {ts : TS} (htr : TR σ ts a.tmps) (r : HR σ h w) {x : Operand} (ho : o.op = .nilCheck x) : OpOk P σ h w o a (Ab.ofO h (nilcA (evA ts (opd x)))) := by
  have hx := evA_ok htr x
  refine OpOk.ofO' fun v hv => fun _ => ?_
  refine ⟨σ, a.eval x, w, ?_, ?_, r, Ext.refl σ h w⟩
  · generalize hX : a.eval x = X at hx
    unfold nilcA at hv
    split at hv <;> first | (cases hv; done) | skip
    all_goals
      rename_i e
      rw [e] at hx
      cases hx
      simp [execOp, ho, hX]
  · unfold nilcA at hv
    split at hv <;> first | (cases hv; done) | skip
    all_goals
      rename_i e
      injection hv with hv
      rw [← hv, ← e]
      exact hx

theorem un_ok {ts : TS} (htr : TR σ ts a.tmps) (r : HR σ h w) {op : UnOp} {t : TypeId} {x : Operand} (ho : o.op = .unOp op t x) : OpOk P σ h w o a (Ab.ofO h (unA op (evA ts (opd x)))) := by
  have hx := evA_ok htr x
  refine OpOk.ofO' fun v hv => OpOk.ofGives r (s := Op.unary op (a.eval x)) ?_ (by simp [execOp, ho])
  generalize hX : a.eval x = X at hx
  unfold unA at hv
  split at hv
  · rename_i k n e
    rw [e] at hx
    cases hx
    split at hv
    · injection hv with hv; subst hv; exact ⟨_, rfl, .int _ _⟩
    · simp only [intBin, Option.some.injEq] at hv
      subst hv
      exact ⟨_, rfl, .int _ _⟩
    · cases hv
  · rename_i b e
    rw [e] at hx
    cases hx
    split at hv
    · injection hv with hv; subst hv; exact ⟨_, rfl, .bool _⟩
    · cases hv
  · cases hv

theorem conv_ok {ts : TS} (htr : TR σ ts a.tmps) (r : HR σ h w) {src dst : TypeId} {x : Operand} {d : TypeDesc} {k : IntKind} (ho : o.op = .convert src dst x) (hs : P.underlying src = some d) (hd : P.underlying dst = some (.int k)) : OpOk P σ h w o a (oConv ts h k (opd x)) := by
  unfold oConv
  have hx := evA_ok htr x
  split
  · rename_i q n e
    rw [e] at hx
    generalize hX : a.eval x = X at hx
    cases hx
    refine OpOk.ofGives r (s := convert src dst (a.eval x)) ?_ (by simp [execOp, ho])
    rw [hX]
    refine ⟨.int k (k.wrap n), ?_, .int _ _⟩
    simp only [convert, Sem.run_bind, run_underlying hs, run_underlying hd, Result.andThen_ok]
    cases d <;> rfl
  · trivial
end
end Go.Ab
