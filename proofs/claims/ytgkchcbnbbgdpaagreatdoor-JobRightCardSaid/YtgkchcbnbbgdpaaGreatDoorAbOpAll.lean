/- Each operation of the model does what its abstract one does: put together. -/
import Derived.Test.YtgkchcbnbbgdpaaGreatDoorAbOp
namespace Go.Ab
section
variable {P : Program} {σ : Ren} {h : H} {w : World} {o : Oper} {a : Act}

theorem bad_ok {ts : TS} : OpOk P σ h w o a (opA ts h bad) := trivial

theorem builtin_exec {c : Call} {b : Builtin} (ho : o.op = .call c) (hc : c.callee = .builtin b) : execOp a.eval o = builtin b c.argTypes o.type (c.args.map fun | .const _ => true | _ => false) (c.args.map a.eval) := by
  simp only [execOp, ho, resolve, hc]
  rfl

theorem min_ok {x y v : AV} {x' y' : Value} (hx : VR σ x x') (hy : VR σ y y') (hv : minA x y = some v) {ts : Array TypeId} {ty : TypeId} : Gives P σ w (Builtin.min_ ts ty #[x', y']) v := by
  unfold minA at hv
  split at hv
  · cases hx; cases hy
    split at hv
    · rename_i hk
      have hk := kindEq_iff hk
      subst hk
      injection hv with hv; subst hv
      exact ⟨_, rfl, .int _ _⟩
    · cases hv
  · cases hv

theorem max_ok {x y v : AV} {x' y' : Value} (hx : VR σ x x') (hy : VR σ y y') (hv : maxA x y = some v) {ts : Array TypeId} {ty : TypeId} : Gives P σ w (Builtin.max_ ts ty #[x', y']) v := by
  unfold maxA at hv
  split at hv
  · cases hx; cases hy
    split at hv
    · rename_i hk
      have hk := kindEq_iff hk
      subst hk
      injection hv with hv; subst hv
      refine ⟨_, ?_, .int _ _⟩
      simp [Builtin.max_, Builtin.max2]
    · cases hv
  · cases hv

theorem lenStr_ok {x v : AV} {x' : Value} {t ty : TypeId} (ht : P.underlying t = some .string) (hx : VR σ x x') (hv : lenStr x = some v) : Gives P σ w (Builtin.len_ #[t] ty #[x']) v := by
  unfold lenStr at hv
  split at hv
  · injection hv with hv; subst hv
    cases hx
    rename_i s
    refine ⟨.int .i64 s.size, by simp [Builtin.len_, run_underlying ht, goInt], ?_⟩
    rw [str_size]; exact .int _ _
  · cases hv

theorem lenSl_ok {x v : AV} {x' : Value} {t ty e : TypeId} (ht : P.underlying t = some (.slice e)) (hx : VR σ x x') (hv : lenSl x = some v) : Gives P σ w (Builtin.len_ #[t] ty #[x']) v := by
  unfold lenSl at hv
  split at hv
  · injection hv with hv; subst hv
    cases hx
    exact ⟨.int .i64 0, by simp [Builtin.len_, run_underlying ht, goInt], .int _ _⟩
  · injection hv with hv; subst hv
    cases hx
    exact ⟨_, by simp [Builtin.len_, run_underlying ht, goInt], .int _ _⟩
  · cases hv

theorem lenMp_ok (r : HR σ h w) {x v : AV} {x' : Value} {t ty k e : TypeId} (ht : P.underlying t = some (.map k e)) (hx : VR σ x x') (hv : lenMp h x = some v) : Gives P σ w (Builtin.len_ #[t] ty #[x']) v := by
  unfold lenMp at hv
  split at hv
  · injection hv with hv; subst hv
    cases hx
    exact ⟨.int .i64 0, by simp [Builtin.len_, run_underlying ht, goInt], .int _ _⟩
  · split at hv
    · rename_i b es c g
      injection hv with hv; subst hv
      cases hx with
      | @map _ L hL =>
        obtain ⟨es', h1, h2, h3⟩ := r.blk _ _ L g hL
        refine ⟨.int .i64 es'.size, by simp [Builtin.len_, run_underlying ht, run_getMap h1, goInt], ?_⟩
        rw [h2]; exact VR.int _ _
    · cases hv
  · cases hv

theorem ofMakesP {s : Sem Value} {x : Option (AV × H)} (hm : ∀ v h', x = some (v, h') → Makes P σ h w s v h') (he : execOp a.eval o = (do pure (.value (← s)))) : OpOk P σ h w o a (ofP x) := by
  cases x with
  | none => trivial
  | some p => exact OpOk.ofMakes (hm p.1 p.2 rfl) he

theorem compCall_ok {ts : TS} (htr : TR σ ts a.tmps) (r : HR σ h w) {c : Call} {co : CO} (ho : o.op = .call c) (hc : compCall P c = some co) : OpOk P σ h w o a (opA ts h co) := by
  unfold compCall at hc
  split at hc
  · rename_i f hcal
    injection hc with hc; subst hc
    exact call_ok htr ho hcal
  · cases hc
  · rename_i b hcal
    have hex := builtin_exec (a := a) ho hcal
    split at hc
    · -- append
      rename_i t u s x e1 e2
      have hat : c.argTypes = #[t, u] := by rw [← Array.toArray_toList (xs := c.argTypes), e1]
      have har : c.args.map a.eval = #[a.eval s, a.eval x] := by rw [args_map, e2]; rfl
      split at hc
      · rename_i e d hu1 hu2
        split at hc
        · rename_i i hd hi
          split at hc
          · rename_i z zv hsz hz
            split at hc
            · rename_i hzc
              injection hc with hc; subst hc
              refine ofMakesP (s := Builtin.append_ c.argTypes o.type (c.args.map a.eval)) (fun v h' hv => ?_) (by rw [hex]; rfl)
              rw [hat, har]
              have hk : (∃ e', P.underlying u = some (.slice e')) ∨ P.underlying u = some .string := by
                cases d <;> first | (cases hd; done) | exact .inr hu2 | exact .inl ⟨_, hu2⟩
              exact append_sim r hu1 hk hi hz (by rw [hzc, hsz]) (by rw [hsz]; omega) (evA_ok htr s) (evA_ok htr x) (by rw [hsz]; exact hv)
            · cases hc
          · cases hc
        · cases hc
      · cases hc
    · -- len
      rename_i t x e1 e2
      have hat : c.argTypes = #[t] := by rw [← Array.toArray_toList (xs := c.argTypes), e1]
      have har : c.args.map a.eval = #[a.eval x] := by rw [args_map, e2]; rfl
      have hexec : execOp a.eval o = (do pure (.value (← Builtin.len_ #[t] o.type #[a.eval x]))) := by rw [hex, hat, har]; rfl
      split at hc
      · rename_i hu; injection hc with hc; subst hc
        exact OpOk.ofO' fun v hv => OpOk.ofGives r (lenStr_ok hu (evA_ok htr x) hv) hexec
      · rename_i hu; injection hc with hc; subst hc
        exact OpOk.ofO' fun v hv => OpOk.ofGives r (lenSl_ok hu (evA_ok htr x) hv) hexec
      · rename_i hu; injection hc with hc; subst hc
        exact OpOk.ofO' fun v hv => OpOk.ofGives r (lenMp_ok r hu (evA_ok htr x) hv) hexec
      · rename_i n e hu; injection hc with hc; subst hc
        refine OpOk.ofGives r (s := Builtin.len_ #[t] o.type #[a.eval x]) ⟨.int .i64 (Int.ofNat n), ?_, .int _ _⟩ hexec
        simp [Builtin.len_, run_underlying hu, goInt]
      · cases hc
    · -- copy
      rename_i t ts' d x e1 e2
      have har : c.args.map a.eval = #[a.eval d, a.eval x] := by rw [args_map, e2]; rfl
      split at hc
      · rename_i e hu
        split at hc
        · rename_i z hz
          injection hc with hc; subst hc
          refine ofMakesP (s := Builtin.copy_ c.argTypes o.type (c.args.map a.eval)) (fun v h' hv => ?_) (by rw [hex]; rfl)
          rw [har]
          have hat : c.argTypes[0]? = some t := by rw [← Array.getElem?_toList, e1]; rfl
          have := copy_sim (tx := 0) (ty := o.type) r hu hz (evA_ok htr d) (evA_ok htr x) hv
          intro hf
          obtain ⟨σ', v', w', k1, k2, k3, k4⟩ := this hf
          refine ⟨σ', v', w', ?_, k2, k3, k4⟩
          rw [← k1]
          simp only [Builtin.copy_, hat]
          rfl
        · cases hc
      · cases hc
    · -- min
      rename_i x y e2
      have har : c.args.map a.eval = #[a.eval x, a.eval y] := by rw [args_map, e2]; rfl
      injection hc with hc; subst hc
      exact OpOk.ofO' fun v hv => OpOk.ofGives r (min_ok (evA_ok htr x) (evA_ok htr y) hv) (by rw [hex, har]; rfl)
    · rename_i x y e2
      have har : c.args.map a.eval = #[a.eval x, a.eval y] := by rw [args_map, e2]; rfl
      injection hc with hc; subst hc
      exact OpOk.ofO' fun v hv => OpOk.ofGives r (max_ok (evA_ok htr x) (evA_ok htr y) hv) (by rw [hex, har]; rfl)
    · -- delete
      rename_i t us m k e1 e2
      have hat : c.argTypes = (t :: us).toArray := by rw [← Array.toArray_toList (xs := c.argTypes), e1]
      have har : c.args.map a.eval = #[a.eval m, a.eval k] := by rw [args_map, e2]; rfl
      split at hc
      · rename_i kt e hu
        cases hk : keyT P kt with
        | none => simp [hk] at hc
        | some q =>
          simp only [hk, Option.map_some, Option.some.injEq] at hc
          subst hc
          show OpOk P σ h w o a (oDel h (deleteA q h (evA ts (opd m)) (evA ts (opd k))))
          cases hq : deleteA q h (evA ts (opd m)) (evA ts (opd k)) with
          | none => trivial
          | some h' => exact OpOk.ofMakes (del_sim (u := 0) r hu hk (evA_ok htr m) (evA_ok htr k) hq) (by rw [hex, hat, har]; rfl)
      · cases hc
    · -- clear
      rename_i t x e1 e2
      have hat : c.argTypes = #[t] := by rw [← Array.toArray_toList (xs := c.argTypes), e1]
      have har : c.args.map a.eval = #[a.eval x] := by rw [args_map, e2]; rfl
      split at hc
      · rename_i e hu
        split at hc
        · rename_i z cs hz hcs
          split at hc
          · rename_i hl
            injection hc with hc; subst hc
            show OpOk P σ h w o a (oClear ts h (z + 1) cs (opd x))
            unfold oClear
            have hx := evA_ok htr x
            split
            · rename_i e3
              rw [e3] at hx
              have hX : a.eval x = .slice none 0 0 := by
                generalize a.eval x = X at hx
                cases hx; rfl
              exact OpOk.ofGives r (clearNil_sim (ty := o.type) hu) (by rw [hex, hat, har, hX]; rfl)
            · rename_i b o' n c' z' e3
              rw [e3] at hx
              split
              · rename_i h' g1 g2
                have g1 := Nat.eq_of_beq_eq_true g1
                subst g1
                exact OpOk.ofMakes (clear_sim (ty := o.type) r hu hz (by omega) hcs hl hx g2) (by rw [hex, hat, har]; rfl)
              · trivial
            · trivial
          · cases hc
        · cases hc
      · cases hc
    · -- recover
      rename_i e1 e2
      injection hc with hc; subst hc
      exact ⟨rfl, by rw [hex]; rfl⟩
    · cases hc
end
end Go.Ab
