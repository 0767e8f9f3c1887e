/- Each level of the interpreter is right. -/
import Derived.Test.YtgkchcbnbbgdpaaGreatDoorAbCall
namespace Go.Ab

/-- What a call comes to. -/
def CrR (σ : Ren) (h : H) (w : World) : Cr → Ending → World → Prop
  | .ret v h', e, w' => ∃ v' σ', e = .returned v' ∧ VR σ' v v' ∧ HR σ' h' w' ∧ Ext σ σ' h h' w w'
  | .pan v h', e, w' => ∃ v' σ', e = .panicked [{ v := v', recovered := false }] ∧ VR σ' v v' ∧ HR σ' h' w' ∧ Ext σ σ' h h' w w'
  | .no, _, _ => False

def CrGrow (h : H) : Cr → Prop
  | .ret _ h' => Grow h h'
  | .pan _ h' => Grow h h'
  | .no => True

def CrFresh (σ : Ren) (n : Nat) : Cr → Prop
  | .ret _ h' => Fresh σ n h'.next
  | .pan _ h' => Fresh σ n h'.next
  | .no => True

theorem CrR.step {σ σ1 : Ren} {h h1 : H} {w w1 : World} {r : Cr} {e : Ending} {w' : World} (x : Ext σ σ1 h h1 w w1) (p : CrR σ1 h1 w1 r e w') : CrR σ h w r e w' := by
  cases r with
  | ret v h' => obtain ⟨v', σ', a, b, c, d⟩ := p; exact ⟨v', σ', a, b, c, x.trans d⟩
  | pan v h' => obtain ⟨v', σ', a, b, c, d⟩ := p; exact ⟨v', σ', a, b, c, x.trans d⟩
  | no => exact p.elim

section
variable {P : Program} {cx : Cx} {L : Lv}

theorem leaveA_grow (hL : LvOk P L) (cf : CFn) : ∀ (ds : List (Nat × List AV)) (ts : TS) (h : H) (u : Option AV), CrGrow h (leaveA L.callD cf ds ts h u)
  | [], ts, h, none => by
    simp only [leaveA]
    split
    · exact Grow.refl _
    · trivial
  | [], ts, h, some v => Grow.refl _
  | d :: ds, ts, h, u => by
    simp only [leaveA]
    split
    · rename_i h' u' e
      have h1 := hL.dgrow _ _ _ _ _ _ e
      have h2 := leaveA_grow hL cf ds ts h' u'
      generalize leaveA L.callD cf ds ts h' u' = q at h2
      cases q with
      | ret v h3 => exact Grow.trans h1 h2
      | pan v h3 => exact Grow.trans h1 h2
      | no => trivial
    · trivial

theorem leaves_ok (hL : LvOk P L) {fn : Func} {cf : CFn} (hc : compR P fn.results.toList = some cf.results) (tmps : Array Value) (ts : TS) (R : Ending → World → Prop) : ∀ (ds : List (Nat × List AV)) (ds' : List Deferred) (h : H) (u : Option AV) (um : FrameMode) (w : World) (σ : Ren),
    (∀ e w', CrR σ h w (leaveA L.callD cf ds ts h u) e w' → R e w') → leaveA L.callD cf ds ts h u ≠ .no → DsR σ ds ds' → TR σ ts tmps → HR σ h w → UZ σ u um → CrFresh σ h.next (leaveA L.callD cf ds ts h u) →
    Leaves P fn tmps R ds' um w
  | [], ds', h, u, um, w, σ, hR, hne, hds, htr, hr, hu, hf => by
    cases ds' with
    | cons d ds' => exact hds.elim
    | nil =>
      cases u with
      | none =>
        cases hu
        simp only [leaveA] at hR hne
        cases e : resA ts h cf.results with
        | none => simp [e] at hne
        | some l =>
          simp only [e] at hR
          obtain ⟨v', h1, h2⟩ := results_ok hr htr hc e
          exact ⟨v', h1, hR _ _ ⟨v', σ, rfl, h2, hr, Ext.refl _ _ _⟩⟩
      | some v =>
        obtain ⟨v', h1, rfl⟩ := hu
        exact hR _ _ ⟨v', σ, rfl, h1, hr, Ext.refl _ _ _⟩
  | d :: ds, ds', h, u, um, w, σ, hR, hne, hds, htr, hr, hu, hf => by
    cases ds' with
    | nil => exact hds.elim
    | cons d' ds' =>
      obtain ⟨⟨cap, q1, q2⟩, q3⟩ := hds
      simp only [leaveA] at hR hne hf
      split at hne
      · rename_i h1 u1 e
        simp only [e] at hR hf
        have hg := leaveA_grow hL cf ds ts h1 u1
        have hfr : Fresh σ h.next h1.next ∧ ∀ σ1 w1, Ext σ σ1 h h1 w w1 → CrFresh σ1 h1.next (leaveA L.callD cf ds ts h1 u1) := by
          generalize leaveA L.callD cf ds ts h1 u1 = q at hg hf hne
          cases q with
          | ret v h3 => exact ⟨Fresh.left hf hg.next, fun σ1 w1 x => Fresh.step hf x hg.next⟩
          | pan v h3 => exact ⟨Fresh.left hf hg.next, fun σ1 w1 x => Fresh.step hf x hg.next⟩
          | no => exact absurd rfl hne
        obtain ⟨m1, m2⟩ := hL.dok _ _ _ _ _ _ e σ w _ um hr q2 hu hfr.1
        refine ⟨?_, .func d.1, cap, d.1, (d'.args.toList ++ cap.toList).toArray, q1, ?_, ?_⟩
        · cases u with
          | none => cases hu; intro h; cases h
          | some v => obtain ⟨v', _, rfl⟩ := hu; intro h; cases h
        · rw [q1]
          have : d'.args ++ cap = (d'.args.toList ++ cap.toList).toArray := by apply Array.ext'; simp
          simp only [invoke, this]
          exact m1
        · refine CallsD.mono m2 fun e' u' w' he => ?_
          obtain ⟨v', σ', rfl, k1, k2, k3⟩ := he
          exact leaves_ok hL hc tmps ts R ds ds' h1 u1 (settle u') w' σ' (fun e2 w2 hc2 => hR e2 w2 (CrR.step k3 hc2)) hne (q3.mono k3.le) (htr.mono k3.le) k2 k1.settle (hfr.2 σ' w' k3)
      · exact absurd rfl hne

/-- What a body that has ended leaves to be done. -/
theorem body_leaves (hL : LvOk P L) {fn : Func} {cf : CFn} (hc : compR P fn.results.toList = some cf.results) {N : Nat} {σ σ1 : Ren} {h : H} {w w1 : World} {f : Fl} {s' : S} {e : Exit} {a1 : Act} {u : Option AV}
    (hfl : (f = .norm ∧ u = none) ∨ (f = .ret ∧ u = none) ∨ ∃ v, f = .pan v ∧ u = some v) (hne : leaveA L.callD cf s'.ds s'.ts s'.h u ≠ .no) (hfr : CrFresh σ h.next (leaveA L.callD cf s'.ds s'.ts s'.h u))
    (q1 : FR σ1 f e) (q2 : Pre N σ1 s' a1 w1) (q3 : Ext σ σ1 h s'.h w w1) : bodyPostD P fn (CrR σ h w (leaveA L.callD cf s'.ds s'.ts s'.h u)) e a1 w1 := by
  have hg := leaveA_grow hL cf s'.ds s'.ts s'.h u
  have hfr1 : CrFresh σ1 s'.h.next (leaveA L.callD cf s'.ds s'.ts s'.h u) := by
    generalize leaveA L.callD cf s'.ds s'.ts s'.h u = q at hg hfr hne
    cases q with
    | ret v h3 => exact Fresh.step hfr q3 hg.next
    | pan v h3 => exact Fresh.step hfr q3 hg.next
    | no => exact absurd rfl hne
  have go : ∀ um, UZ σ1 u um → Leaves P fn a1.tmps (CrR σ h w (leaveA L.callD cf s'.ds s'.ts s'.h u)) a1.defers um w1 := fun um hu =>
    leaves_ok hL hc a1.tmps s'.ts _ s'.ds a1.defers s'.h u um w1 σ1 (fun e2 w2 hc2 => CrR.step q3 hc2) hne q2.ds q2.tr q2.hr hu hfr1
  rcases hfl with ⟨rfl, rfl⟩ | ⟨rfl, rfl⟩ | ⟨v, rfl, rfl⟩
  · cases q1; exact go .returning rfl
  · cases q1; exact go .returning rfl
  · obtain ⟨v', k1, rfl⟩ := q1
    exact go _ ⟨v', k1, rfl⟩

theorem callL_fn (hx : CxOk P cx) (hL : LvOk P L) {f : Nat} {args : List AV} {h : H} {r : Cr} (hext : cx.ext f = none) (hr : callL cx L f args h = r) (hne : r ≠ .no) :
    ∃ fn cf c s fl rc u, P.funcs[f]? = some fn ∧ comp P fn = some cf ∧ fn.body = some c ∧ compR P fn.results.toList = some cf.results ∧ (fn.name == "runtime.NumGoroutine") = false ∧ args.length ≤ fn.ntmps ∧ L.exec (compC P fn.ntmps c) (startA args h) .off = .ok fl s rc ∧
      ((fl = .norm ∧ u = none) ∨ (fl = .ret ∧ u = none) ∨ ∃ v, fl = .pan v ∧ u = some v) ∧ r = leaveA L.callD cf s.ds s.ts s.h u := by
  unfold callL at hr
  rw [hext] at hr
  simp only at hr
  split at hr
  · rename_i cf hcf
    obtain ⟨fn, h1, h2⟩ := hx.fn f cf hcf
    obtain ⟨c, rr, h3, h4, h5, h6, h7, h8⟩ := comp_inv h2
    rw [h6] at hr
    split at hr
    · rename_i s rc e1 e2
      exact ⟨fn, cf, c, s, .norm, rc, none, h1, h2, h3, by rw [h8]; exact h4, h5, by rw [← h7]; exact Nat.le_of_ble_eq_true e1, e2, .inl ⟨rfl, rfl⟩, hr.symm⟩
    · rename_i s rc e1 e2
      exact ⟨fn, cf, c, s, .ret, rc, none, h1, h2, h3, by rw [h8]; exact h4, h5, by rw [← h7]; exact Nat.le_of_ble_eq_true e1, e2, .inr (.inl ⟨rfl, rfl⟩), hr.symm⟩
    · rename_i v s rc e1 e2
      exact ⟨fn, cf, c, s, .pan v, rc, some v, h1, h2, h3, by rw [h8]; exact h4, h5, by rw [← h7]; exact Nat.le_of_ble_eq_true e1, e2, .inr (.inr ⟨v, rfl, rfl⟩), hr.symm⟩
    · exact absurd hr.symm hne
  · exact absurd hr.symm hne

theorem callL_grow (hx : CxOk P cx) (hL : LvOk P L) {f : Nat} {args : List AV} {h : H} : CrGrow h (callL cx L f args h) := by
  cases hext : cx.ext f with
  | some e =>
    unfold callL
    rw [hext]
    simp only
    split
    · rename_i v h' he; exact hx.growE f e hext _ _ _ _ he
    · trivial
  | none =>
    generalize hq : callL cx L f args h = q
    by_cases hne : q = .no
    · subst hne; trivial
    · obtain ⟨fn, cf, c, s, fl, rc, u, h1, h2, h3, h4, h5, h6, h7, h8, h9⟩ := callL_fn hx hL hext hq hne
      have hg1 := hL.egrow _ _ _ _ _ _ h7
      have hg2 := leaveA_grow hL cf s.ds s.ts s.h u
      rw [h9]
      generalize leaveA L.callD cf s.ds s.ts s.h u = z at hg2
      cases z with
      | ret v h3 => exact Grow.trans hg1 hg2
      | pan v h3 => exact Grow.trans hg1 hg2
      | no => trivial

theorem callL_ok (hmix : P.follows .mixedOrders = true) (hx : CxOk P cx) (hL : LvOk P L) {f : Nat} {args : List AV} {h : H} {r : Cr} (hr : callL cx L f args h = r) (hne : r ≠ .no) {σ : Ren} {w : World} {args' : List Value} (hh : HR σ h w) (hl : LR σ args args') (hf : CrFresh σ h.next r) :
    (callFunc f args'.toArray).run P w = .ok (.enter f args'.toArray) w ∧ Calls P f args'.toArray w (CrR σ h w r) := by
  cases hext : cx.ext f with
  | some e =>
    unfold callL at hr
    rw [hext] at hr
    simp only at hr
    split at hr
    · rename_i v h' he
      subst hr
      obtain ⟨m1, m2⟩ := hx.ext f e hext _ _ _ _ he σ w args' hh hl hf
      exact ⟨m1, m2⟩
    · exact absurd hr.symm hne
  | none =>
    obtain ⟨fn, cf, c, s, fl, rc, u, h1, h2, h3, h4, h5, h6, h7, h8, h9⟩ := callL_fn hx hL hext hr hne
    refine ⟨callFunc_enter h1 h3 h5, calls_of_wp_defers h1 h3 ?_⟩
    have hp := enter_pre (n := fn.ntmps) hh hl h6
    have hg2 := leaveA_grow hL cf s.ds s.ts s.h u
    have hfs : Fresh σ (startA args h).h.next s.h.next := by
      rw [h9] at hf hne
      generalize leaveA L.callD cf s.ds s.ts s.h u = z at hg2 hf hne
      cases z with
      | ret v h3 => exact Fresh.left hf hg2.next
      | pan v h3 => exact Fresh.left hf hg2.next
      | no => exact absurd rfl hne
    have := (hL.off fn.ntmps c _ _ _ _ h7 σ _ w hp hfs).wp
    refine wp_mono this fun e a1 w1 hq => ?_
    obtain ⟨σ1, q1, q2, q3⟩ := hq
    rw [h9] at hf hne ⊢
    exact body_leaves hL h4 h8 hne hf q1 q2 q3

theorem callDL_ok (hmix : P.follows .mixedOrders = true) (hx : CxOk P cx) (hL : LvOk P L) {f : Nat} {args : List AV} {h h' : H} {u u' : Option AV} (hr : callDL cx L f args h u = some (h', u')) :
    Grow h h' ∧ ∀ (σ : Ren) (w : World) (args' : List Value) (um : FrameMode), HR σ h w → LR σ args args' → UZ σ u um → Fresh σ h.next h'.next →
    (callFunc f args'.toArray).run P w = .ok (.enter f args'.toArray) w ∧ CallsD P f args'.toArray um w fun e um' w' => ∃ v' σ', e = .returned v' ∧ UR σ' u' um' ∧ HR σ' h' w' ∧ Ext σ σ' h h' w w' := by
  unfold callDL at hr
  split at hr
  · rename_i cf hcf
    obtain ⟨fn, h1, h2⟩ := hx.fn f cf hcf
    obtain ⟨c, rr, h3, h4, h5, h6, h7, h8⟩ := comp_inv h2
    rw [h6] at hr
    have h4' : compR P fn.results.toList = some cf.results := by rw [h8]; exact h4
    have hend : ∀ {s : S} {v : Option AV}, endD cf s v = some (h', u') → s.ds = [] ∧ s.h = h' ∧ v = u' ∧ ∃ l, resA s.ts s.h cf.results = some l := by
      intro s v e
      unfold endD at e
      split at e
      · rename_i l q1 q2
        injection e with e; injection e with e1 e2
        exact ⟨q1, e1, e2, l, q2⟩
      · cases e
    have noOn : ∀ {fl : Fl} {s : S} {rc : Rc}, args.length ≤ fn.ntmps → L.exec (compC P fn.ntmps c) (startA args h) .off = .ok fl s rc → (fl = .norm ∨ fl = .ret) → endD cf s u = some (h', u') →
        Grow h h' ∧ ∀ (σ : Ren) (w : World) (args' : List Value) (um : FrameMode), HR σ h w → LR σ args args' → UZ σ u um → Fresh σ h.next h'.next →
        (callFunc f args'.toArray).run P w = .ok (.enter f args'.toArray) w ∧ CallsD P f args'.toArray um w fun e um' w' => ∃ v' σ', e = .returned v' ∧ UR σ' u' um' ∧ HR σ' h' w' ∧ Ext σ σ' h h' w w' := by
      intro fl s rc hn he hfl hen
      obtain ⟨k1, k2, k3, l, k4⟩ := hend hen
      have hg1 := hL.egrow _ _ _ _ _ _ he
      subst k2
      refine ⟨hg1, fun σ w args' um hh hl hu hf => ⟨callFunc_enter h1 h3 h5, ?_⟩⟩
      have hp := enter_pre (n := fn.ntmps) hh hl hn
      have hw := (hL.off fn.ntmps c _ _ _ _ he σ _ w hp hf).wp
      refine CallsD.mono (callsD_of_wp (R := fun e w' => ∃ v' σ', e = .returned v' ∧ Le σ σ' ∧ HR σ' s.h w' ∧ Ext σ σ' h s.h w w') h1 h3 (wp_mono hw fun e a1 w1 hq => ?_)) fun e u2 w2 he2 => ?_
      · obtain ⟨σ1, q1, q2, q3⟩ := hq
        have hd : a1.defers = [] := by
          have := q2.ds
          rw [k1] at this
          cases ha : a1.defers with
          | nil => rfl
          | cons x y => rw [ha] at this; exact this.elim
        obtain ⟨v', m1, m2⟩ := results_ok q2.hr q2.tr h4' k4
        rcases hfl with rfl | rfl
        · cases q1; exact ⟨hd, v', m1, v', σ1, rfl, q3.le, q2.hr, q3⟩
        · cases q1; exact ⟨hd, v', m1, v', σ1, rfl, q3.le, q2.hr, q3⟩
      · obtain ⟨rfl, v', σ', e1, e2, e3, e4⟩ := he2
        exact ⟨v', σ', e1, by rw [← k3]; exact hu.ur.mono e2, e3, e4⟩
    split at hr
    · rename_i e1 _
      have hn : args.length ≤ fn.ntmps := by rw [← h7]; exact Nat.le_of_ble_eq_true e1
      unfold dOff at hr
      split at hr
      · rename_i s rc e2; exact noOn hn e2 (.inl rfl) hr
      · rename_i s rc e2; exact noOn hn e2 (.inr rfl) hr
      · cases hr
    · rename_i e1 _
      have hn : args.length ≤ fn.ntmps := by rw [← h7]; exact Nat.le_of_ble_eq_true e1
      unfold dOn at hr
      split at hr
      · rename_i s r' e3
        obtain ⟨k1, k2, k3, l, k4⟩ := hend hr
        have hg1 := hL.egrow _ _ _ _ _ _ e3
        subst k2
        subst k3
        refine ⟨hg1, fun σ w args' um hh hl hu hf => ⟨callFunc_enter h1 h3 h5, ?_⟩⟩
        have hp := enter_pre (n := fn.ntmps) hh hl hn
        refine callsD_of_wpS h1 h3 fun c0 cs0 hc0 => ?_
        have hw := hL.on fn.ntmps c _ _ _ _ _ e3 σ _ w c0 cs0 um hp hu.ur hf
        have hc : ({ c0 with mode := um } : Frame) = c0 := by subst hc0; rfl
        rw [hc] at hw
        intro b k hb hro
        obtain ⟨e', a1, cs1, w1, hq, harr⟩ := hw b k hb hro
        refine ⟨e', a1, cs1, w1, ?_, harr⟩
        obtain ⟨σ1, u1, rfl, hu1, q1, q2, q3⟩ := hq
        have hd : a1.defers = [] := by
          have := q2.ds
          rw [k1] at this
          cases ha : a1.defers with
          | nil => rfl
          | cons x y => rw [ha] at this; exact this.elim
        obtain ⟨v', m1, m2⟩ := results_ok q2.hr q2.tr h4' k4
        cases q1
        exact ⟨hd, u1, rfl, v', m1, v', σ1, rfl, hu1, q2.hr, q3⟩
      · cases hr
    · cases hr
  · cases hr

theorem lev0_ok : LvOk P lev0 where
  cl := ⟨⟨fun _ _ _ _ _ e => (by cases e), fun _ _ _ _ _ e => (by cases e)⟩, fun _ _ _ _ _ e => (by cases e), fun _ _ _ _ _ e => (by cases e)⟩
  egrow := fun _ _ _ _ _ _ e => (by cases e)
  roff := fun _ _ _ _ _ e => (by cases e)
  ron := fun _ _ _ _ _ _ e => (by cases e)
  off := fun _ _ _ _ _ _ e => (by cases e)
  on := fun _ _ _ _ _ _ _ e => (by cases e)
  dgrow := fun _ _ _ _ _ _ e => (by cases e)
  dok := fun _ _ _ _ _ _ e => (by cases e)

theorem mkLv_ok (hmix : P.follows .mixedOrders = true) (hx : CxOk P cx) (hL : LvOk P L) : LvOk P (mkLv cx L) := by
  have hcg : ∀ f args h r, callL cx L f args h = r → CrGrow h r := fun f args h r e => by rw [← e]; exact callL_grow hx hL
  refine ⟨⟨⟨fun f args h v h' e => hcg f args h _ e, fun f args h v h' e σ w args' hh hl hf => ?_⟩, fun f args h v h' e => hcg f args h _ e, fun f args h v h' e σ w args' hh hl hf => ?_⟩,
    fun c s rc f s' rc' e => execL_grow (cx := cx) hL c s rc f s' rc' e, fun c s f s' rc' e => execL_off (cx := cx) hL c s f s' rc' e, fun c s r f s' rc' e => execL_on (cx := cx) hL c s r f s' rc' e,
    fun N c s f s' rc' e σ a w p hf => exec_off (cx := cx) hmix hL N c s f s' rc' e σ a w p hf, fun N c s f s' r r' e σ a w c0 cs0 u p hu hf => exec_on (cx := cx) hmix hL N c s f s' r r' e σ a w c0 cs0 u p hu hf,
    fun f args h u h' u' e => (callDL_ok hmix hx hL e).1, fun f args h u h' u' e σ w args' um hh hl hu hf => (callDL_ok hmix hx hL e).2 σ w args' um hh hl hu hf⟩
  · exact callL_ok hmix hx hL (r := .ret v h') e (by intro h; cases h) hh hl hf
  · exact callL_ok hmix hx hL (r := .pan v h') e (by intro h; cases h) hh hl hf

theorem lev_ok (hmix : P.follows .mixedOrders = true) (hx : CxOk P cx) : ∀ n, LvOk P (lev cx n)
  | 0 => lev0_ok
  | n + 1 => mkLv_ok hmix hx (lev_ok hmix hx n)
end

/-- What the interpreter answers, the machine answers. -/
theorem calls_ok {P : Program} {cx : Cx} (hmix : P.follows .mixedOrders = true) (hx : CxOk P cx) {n f : Nat} {args : List AV} {h h' : H} {v : AV} (hr : (lev cx n).call f args h = .ret v h') {σ : Ren} {w : World} {args' : List Value} (hh : HR σ h w) (hl : LR σ args args') (hf : Fresh σ h.next h'.next) :
    Calls P f args'.toArray w fun e w' => ∃ v' σ', e = .returned v' ∧ VR σ' v v' ∧ HR σ' h' w' ∧ Ext σ σ' h h' w w' :=
  ((lev_ok hmix hx n).cl.ret f args h v h' hr σ w args' hh hl hf).2
end Go.Ab
