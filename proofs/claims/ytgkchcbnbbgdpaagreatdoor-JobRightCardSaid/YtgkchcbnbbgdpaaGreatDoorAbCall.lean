/- Calls do what their abstract ones do: the whole. -/
import Derived.Test.YtgkchcbnbbgdpaaGreatDoorAbExec
namespace Go.Ab

structure CxOk (P : Program) (cx : Cx) : Prop where
  fn : ∀ f cf, cx.fn f = some cf → ∃ fn, P.funcs[f]? = some fn ∧ comp P fn = some cf
  growE : ∀ f e, cx.ext f = some e → ∀ args h v h', e args h = some (v, h') → Grow h h'
  ext : ∀ f e, cx.ext f = some e → ∀ args h v h', e args h = some (v, h') → ∀ σ w args', HR σ h w → LR σ args args' → Fresh σ h.next h'.next → CallRet P σ h w f args'.toArray v h'

theorem comp_inv {P : Program} {fn : Func} {cf : CFn} (h : comp P fn = some cf) : ∃ c r, fn.body = some c ∧ compR P fn.results.toList = some r ∧ (fn.name == "runtime.NumGoroutine") = false ∧ cf.body = compC P fn.ntmps c ∧ cf.ntmps = fn.ntmps ∧ cf.results = r := by
  unfold comp at h
  split at h
  · rename_i c r h1 h2
    split at h
    · cases h
    · rename_i h3
      injection h with h; subst h
      exact ⟨c, r, h1, h2, by simpa using h3, rfl, rfl, rfl⟩
  · cases h

theorem callFunc_enter {P : Program} {f : Nat} {fn : Func} {c : Code} {w : World} {args : Array Value} (hf : P.funcs[f]? = some fn) (hb : fn.body = some c) (hn : (fn.name == "runtime.NumGoroutine") = false) :
    (callFunc f args).run P w = .ok (.enter f args) w := by
  have hn' : ¬ fn.name = "runtime.NumGoroutine" := by simpa using hn
  simp [callFunc, hf, hb, hn']

/-! Entering. -/
theorem putArgs_get : ∀ (l : List AV) (n : Nat) (ts : TS) (t : Nat), (putArgs l n ts).get t = if t < n then ts.get t else match l[t - n]? with | some v => some v | none => ts.get t
  | [], n, ts, t => by simp [putArgs]
  | v :: r, n, ts, t => by
    simp only [putArgs, putArgs_get r (n + 1), Tr.get_set]
    by_cases h : t < n
    · simp [h, Nat.lt_succ_of_lt h, Nat.ne_of_lt h]
    · by_cases e : t = n
      · subst e; simp
      · have h1 : ¬ t < n + 1 := by omega
        have h2 : t - n = (t - (n + 1)) + 1 := by omega
        simp [h, h1, e, h2]

theorem enter_tr {σ : Ren} {args : List AV} {args' : List Value} (hl : LR σ args args') (h : H) (n : Nat) : TR σ (startA args h).ts (args'.toArray ++ Array.replicate (n - args'.toArray.size) undef) := by
  intro t v hv
  simp only [startA, putArgs_get] at hv
  simp at hv
  have hn : Tr.get (Tr.leaf : Tr AV) t = none := rfl
  rw [hn] at hv
  cases e : args[t]? with
  | none => rw [e] at hv; cases hv
  | some u =>
    rw [e] at hv; injection hv with hv; subst hv
    obtain ⟨v', h1, h2⟩ := hl.get e
    refine ⟨v', ?_, h2⟩
    have hlt : t < args'.length := by
      rcases Nat.lt_or_ge t args'.length with q | q
      · exact q
      · rw [List.getElem?_eq_none q] at h1; cases h1
    rw [Array.getElem?_append_left (by simpa using hlt)]
    simpa using h1

theorem enter_pre {σ : Ren} {args : List AV} {args' : List Value} {h : H} {w : World} (r : HR σ h w) (hl : LR σ args args') {n : Nat} (hn : args.length ≤ n) :
    Pre n σ (startA args h) { tmps := args'.toArray ++ Array.replicate (n - args'.toArray.size) undef, defers := [] } w := by
  refine ⟨r, enter_tr hl h n, ?_, trivial⟩
  have := hl.1
  simp; omega

/-! Results. -/
theorem loadVar_of {P : Program} {σ : Ren} {h : H} {w : World} (r : HR σ h w) {t : TypeId} {s : Nat} {g : Bool} (hs : sizeT P t = some s) (hg : isAggT P t = some g) {b o : Nat} {v : AV} {x : Value} (hx : VR σ (.ptr b o) x) (hv : loadA s g h b o = some v) :
    Gives P σ w (do loadVar t (← asAddr x)) v := by
  obtain ⟨v', h1, h2⟩ := load_sim r hs hg hx hv
  refine ⟨v', ?_, h2⟩
  cases hx
  simpa [Instr.loadAt, Instr.sureAddr, asAddr] using h1

theorem getD_of {tmps : Array Value} {t : Nat} {v : Value} (h : tmps[t]? = some v) : tmps.getD t undef = v := by
  simp [Array.getD_eq_getD_getElem?, h]

def resF (tmps : Array Value) : ResultVar → Sem Value
  | .tmp t => pure (tmps.getD t undef)
  | .cell a t => do loadVar t (← asAddr (tmps.getD a undef))

theorem resA_ok {P : Program} {σ : Ren} {h : H} {w : World} (r : HR σ h w) {ts : TS} {tmps : Array Value} (htr : TR σ ts tmps) : ∀ (rs : List ResultVar) (cr : List (Nat × Option (Nat × Bool))) (l : List AV),
    compR P rs = some cr → resA ts h cr = some l → ∃ vs, (rs.mapM (resF tmps)).run P w = .ok vs w ∧ LR σ l vs
  | [], cr, l, hc, hl => by
    simp [compR] at hc; subst hc
    simp [resA] at hl; subst hl
    exact ⟨[], rfl, LR.nil σ⟩
  | .tmp t :: rs, cr, l, hc, hl => by
    simp only [compR] at hc
    cases e : compR P rs with
    | none => simp [e] at hc
    | some cr' =>
      simp only [e, Option.map_some, Option.some.injEq] at hc
      subst hc
      simp only [resA] at hl
      split at hl
      · rename_i l' e2
        injection hl with hl; subst hl
        obtain ⟨vs, h1, h2⟩ := resA_ok r htr rs cr' l' e e2
        refine ⟨tmps.getD t undef :: vs, ?_, LR.cons ?_ h2⟩
        · rw [List.mapM_cons]; simp only [Sem.run_bind, resF, Sem.run_pure, Result.andThen_ok]; rw [h1]; rfl
        · have := evA_ok (a := ⟨tmps, []⟩) htr (.tmp t)
          exact this
      · cases hl
  | .cell a t :: rs, cr, l, hc, hl => by
    simp only [compR] at hc
    split at hc
    · rename_i s g cr' e1 e2 e3
      injection hc with hc; subst hc
      simp only [resA] at hl
      split at hl
      · rename_i b o l' e4 e5
        split at hl
        · rename_i v e6
          injection hl with hl; subst hl
          obtain ⟨vs, h1, h2⟩ := resA_ok r htr rs cr' l' e3 e5
          have hx := evA_ok (a := ⟨tmps, []⟩) htr (.tmp a)
          change VR σ (evA ts (.t a)) (tmps.getD a undef) at hx
          rw [e4] at hx
          obtain ⟨v', k1, k2⟩ := loadVar_of r e1 e2 hx e6
          refine ⟨v' :: vs, ?_, LR.cons k2 h2⟩
          rw [List.mapM_cons, Sem.run_bind]
          change (resF tmps (.cell a t)).run P w = _ at k1
          rw [k1]
          simp only [Sem.run_bind, Sem.run_pure, Result.andThen_ok]
          rw [h1]; rfl
        · cases hl
      · cases hl
    · cases hc

theorem results_ok {P : Program} {σ : Ren} {h : H} {w : World} (r : HR σ h w) {ts : TS} {tmps : Array Value} (htr : TR σ ts tmps) {fn : Func} {cr : List (Nat × Option (Nat × Bool))} {l : List AV}
    (hc : compR P fn.results.toList = some cr) (hl : resA ts h cr = some l) : ∃ v', (results fn tmps).run P w = .ok v' w ∧ VR σ (tupA l) v' := by
  obtain ⟨vs, h1, h2⟩ := resA_ok r htr _ _ _ hc hl
  have hrun : (results fn tmps).run P w = .ok (if h : vs.toArray.size = 1 then vs.toArray[0] else .tuple vs.toArray) w := by
    change (do let vs ← fn.results.mapM (resF tmps); pure (if h : vs.size = 1 then vs[0] else .tuple vs) : Sem Value).run P w = _
    rw [Array.mapM_eq_mapM_toList]
    rw [Sem.run_bind]
    have : (List.toArray <$> fn.results.toList.mapM (resF tmps)).run P w = .ok vs.toArray w := by
      rw [map_eq_pure_bind, Sem.run_bind, h1]; rfl
    rw [this]
    rfl
  refine ⟨_, hrun, ?_⟩
  match l, vs, h2 with
  | [], [], _ => exact VR.mk_tup (LR.nil σ)
  | [a], [b], h2 => obtain ⟨v', r', e, k1, k2⟩ := h2.cons_inv; injection e with e1 e2; subst e1; exact k1
  | [], _ :: _, h2 => have := h2.1; simp at this
  | [_], [], h2 => have := h2.1; simp at this
  | [_], _ :: _ :: _, h2 => have := h2.1; simp at this
  | _ :: _ :: _, [], h2 => have := h2.1; simp at this
  | _ :: _ :: _, [_], h2 => have := h2.1; simp at this
  | a :: b :: r, a' :: b' :: r', h2 =>
    have : ¬ (a' :: b' :: r').toArray.size = 1 := by simp
    rw [dif_neg this]
    exact VR.mk_tup h2
end Go.Ab
