/- A region in the text's order does what its abstract one does. -/
import Derived.Test.YtgkchcbnbbgdpaaGreatDoorAbDraw7
import Derived.Recover
namespace Go.Ab

structure ClFull (P : Program) (cl : Nat → List AV → H → Cr) : Prop extends ClOk P cl where
  growP : ∀ f args h v h', cl f args h = .pan v h' → Grow h h'
  pan : ∀ f args h v h', cl f args h = .pan v h' → ∀ σ w args', HR σ h w → LR σ args args' → Fresh σ h.next h'.next →
    (callFunc f args'.toArray).run P w = .ok (.enter f args'.toArray) w ∧ Calls P f args'.toArray w fun e w' => ∃ v' σ', e = .panicked [{ v := v', recovered := false }] ∧ VR σ' v v' ∧ HR σ' h' w' ∧ Ext σ σ' h h' w w'

theorem DR.mono {σ σ' : Ren} (hle : Le σ σ') {p : Nat × List AV} {d : Deferred} (h : DR σ p d) : DR σ' p d := let ⟨cap, h1, h2⟩ := h; ⟨cap, h1, h2.mono hle⟩

def DsR (σ : Ren) : List (Nat × List AV) → List Deferred → Prop
  | [], [] => True
  | p :: ps, d :: ds => DR σ p d ∧ DsR σ ps ds
  | _, _ => False

theorem DsR.mono {σ σ' : Ren} (hle : Le σ σ') : ∀ {ps : List (Nat × List AV)} {ds : List Deferred}, DsR σ ps ds → DsR σ' ps ds
  | [], [], _ => trivial
  | _ :: _, _ :: _, h => ⟨h.1.mono hle, DsR.mono hle h.2⟩
  | [], _ :: _, h => h.elim
  | _ :: _, [], h => h.elim

/-- How a piece of code ends. -/
def FR (σ : Ren) : Fl → Exit → Prop
  | .norm, e => e = .normal
  | .exit n, e => e = .exit n
  | .ret, e => e = .ret
  | .pan v, e => ∃ v', VR σ v v' ∧ e = .panic [{ v := v', recovered := false }]

structure Pre (N : Nat) (σ : Ren) (s : S) (a : Act) (w : World) : Prop where
  hr : HR σ s.h w
  tr : TR σ s.ts a.tmps
  sz : a.tmps.size = N
  ds : DsR σ s.ds a.defers

def Post (N : Nat) (σ : Ren) (h : H) (w : World) (f : Fl) (s' : S) (e : Exit) (a' : Act) (w' : World) : Prop :=
  ∃ σ', FR σ' f e ∧ Pre N σ' s' a' w' ∧ Ext σ σ' h s'.h w w'

theorem Fresh.step {σ σ' : Ren} {h h1 h' : H} {w w1 : World} (hf : Fresh σ h.next h'.next) (e : Ext σ σ' h h1 w w1) (hle : h1.next ≤ h'.next) : Fresh σ' h1.next h'.next := by
  intro b hb1 hb2
  rw [e.out b (fun hh => by omega)]
  exact hf b (by have := e.next; omega) hb2

theorem Fresh.left {σ : Ren} {a b c : Nat} (hf : Fresh σ a c) (hle : b ≤ c) : Fresh σ a b := fun x h1 h2 => hf x h1 (by omega)

theorem Post.step {N : Nat} {σ σ1 : Ren} {h h1 : H} {w w1 : World} {f : Fl} {s' : S} {e : Exit} {a' : Act} {w' : World} (x : Ext σ σ1 h h1 w w1) (p : Post N σ1 h1 w1 f s' e a' w') : Post N σ h w f s' e a' w' :=
  let ⟨σ', h1, h2, h3⟩ := p; ⟨σ', h1, h2, x.trans h3⟩

section
variable {P : Program} {N : Nat} {ops : Array Oper} {cl : Nat → List AV → H → Cr}

theorem regA_grow (hcl : ClFull P cl) : ∀ (cs : List CR) (s : S) (rc : Rc) (f : Fl) (s' : S) (rc' : Rc), regA cl cs s rc = .ok f s' rc' → Grow s.h s'.h
  | [], s, rc, f, s', rc', h => by simp only [regA, Rs.ok.injEq] at h; obtain ⟨_, rfl, _⟩ := h; exact Grow.refl _
  | o :: rest, s, rc, f, s', rc', h => by
    simp only [regA] at h
    split at h
    · cases h
    · split at h
      · have := regA_grow hcl rest _ _ _ _ _ h
        exact this
      · have hg := opA_grow s.ts s.h o.op
        split at h
        · rename_i e; rw [e] at hg; exact Grow.trans hg (regA_grow hcl rest _ _ _ _ _ h)
        · rename_i e; rw [e] at hg; exact Grow.trans hg (regA_grow hcl rest _ _ _ _ _ h)
        · rename_i e
          rw [e] at hg
          split at h
          · rename_i e2; exact Grow.trans hg ((hcl.grow _ _ _ _ _ e2).trans (regA_grow hcl rest _ _ _ _ _ h))
          · rename_i e2
            simp only [Rs.ok.injEq] at h; obtain ⟨_, rfl, _⟩ := h
            exact Grow.trans hg (hcl.growP _ _ _ _ _ e2)
          · cases h
        · rename_i e; rw [e] at hg; exact Grow.trans hg (regA_grow hcl rest _ _ _ _ _ h)
        · rename_i e
          rw [e] at hg
          split at h
          · exact Grow.trans hg (regA_grow hcl rest _ _ _ _ _ h)
          · exact Grow.trans hg (regA_grow hcl rest _ _ _ _ _ h)
          · cases h
        · rename_i e
          rw [e] at hg
          simp only [Rs.ok.injEq] at h; obtain ⟨_, rfl, _⟩ := h
          exact hg
        · cases h

theorem traceD_grow (hcl : ClOk P cl) : ∀ (cs : List CR) (ts : TS) (h : H) (tr : List (TS × H)), traceD cl cs ts h = some tr → ∀ p, tr.getLast? = some p → Grow h p.2
  | [], ts, h, tr, e, p, hp => by simp [traceD] at e; subst e; simp at hp; subst hp; exact Grow.refl _
  | o :: r, ts, h, tr, e, p, hp => by
    simp only [traceD] at e
    split at e
    · rename_i v h' he
      split at e
      · rename_i l hl
        injection e with e; subst e
        refine Grow.trans (resD_grow hcl he) (traceD_grow hcl r _ _ l hl p ?_)
        cases l with
        | nil =>
          have := (traceD_run _ _ _ _ hl).1
          simp at this
        | cons x y => simpa using hp
      · cases e
    · cases e

theorem drawA_grow (hcl : ClOk P cl) {cs : List CR} {two : Option (Nat × Nat)} {s s' : S} {rc rc' : Rc} {f : Fl} (h : drawA cl cs two s rc = .ok f s' rc') : Grow s.h s'.h := by
  unfold drawA at h
  split at h
  · rename_i l hl
    split at h
    · rename_i e1 e2 e3
      simp only [Rs.ok.injEq] at h; obtain ⟨_, rfl, _⟩ := h
      exact traceD_grow hcl _ _ _ _ hl _ e3
    · cases h
  · cases h

theorem Act.defers_put (a : Act) (d : Option Nat) (v : Value) : (a.put d v).defers = a.defers := by cases d <;> rfl

theorem Pre.put {σ σ' : Ren} {s : S} {a : Act} {w w' : World} (p : Pre N σ s a w) {o : Oper} {c : CR} (hc : compOp P N ops o = some c) {v : AV} {v' : Value} {h' : H} (hle : Le σ σ') (hv : VR σ' v v') (hr : HR σ' h' w') :
    Pre N σ' ⟨putT s.ts c.dst v, s.ds, h'⟩ (a.put o.dst v') w' := by
  have hd := compOp_dst hc
  refine ⟨hr, ?_, by rw [Act.size_put]; exact p.sz, ?_⟩
  · show TR σ' (putT s.ts c.dst v) _
    rw [hd.1]
    exact (p.tr.mono hle).put (dst := o.dst) hv (by rw [p.sz]; exact hd.2.1)
  · rw [Act.defers_put]; exact p.ds.mono hle

/-- A region in the text's order, in a call of which no recover is asked. -/
theorem reg_ok (hcl : ClFull P cl) : ∀ (cs : List CR) (k : Nat), (∀ (j : Nat) (c : CR), cs[j]? = some c → ∃ o, ops[k + j]? = some o ∧ compOp P N ops o = some c) →
    ∀ (s : S) (f : Fl) (s' : S) (rc' : Rc) (σ : Ren) (a : Act) (w : World), regA cl cs s .off = .ok f s' rc' → Pre N σ s a w → Fresh σ s.h.next s'.h.next →
    rc' = .off ∧ wpOps P ops (Post N σ s.h w f s') (List.range' k cs.length) a w
  | [], k, _, s, f, s', rc', σ, a, w, h, p, _ => by
    simp only [regA, Rs.ok.injEq] at h
    obtain ⟨rfl, rfl, rfl⟩ := h
    exact ⟨rfl, σ, rfl, p, Ext.refl _ _ _⟩
  | c :: rest, k, hcs, s, f, s', rc', σ, a, w, h, p, hf => by
    obtain ⟨o, ho, hc⟩ := hcs 0 c rfl
    have hcs' : ∀ (j : Nat) (c : CR), rest[j]? = some c → ∃ o, ops[k + 1 + j]? = some o ∧ compOp P N ops o = some c := by
      intro j c' hj
      obtain ⟨o', h1, h2⟩ := hcs (j + 1) c' (by simpa using hj)
      exact ⟨o', by rw [← h1]; congr 1; omega, h2⟩
    rw [Nat.add_zero] at ho
    have next : ∀ {s1 : S} {σ1 : Ren} {a1 : Act} {w1 : World}, regA cl rest s1 .off = .ok f s' rc' → Pre N σ1 s1 a1 w1 → Ext σ σ1 s.h s1.h w w1 → rc' = .off ∧ wpOps P ops (Post N σ s.h w f s') (List.range' (k + 1) rest.length) a1 w1 := by
      intro s1 σ1 a1 w1 h1 p1 e1
      have hg := regA_grow hcl _ _ _ _ _ _ h1
      obtain ⟨q1, q2⟩ := reg_ok hcl rest (k + 1) hcs' s1 f s' rc' σ1 a1 w1 h1 p1 (hf.step e1 hg.next)
      refine ⟨q1, ?_⟩
      have : ∀ (l : List Nat) (a : Act) (w2 : World), wpOps P ops (Post N σ1 s1.h w1 f s') l a w2 → wpOps P ops (Post N σ s.h w f s') l a w2 := by
        intro l
        induction l with
        | nil => intro a w2 h; exact Post.step e1 h
        | cons i l ih =>
          intro a w2 h
          rw [wpOps_cons] at h ⊢
          unfold wpOp at h ⊢
          split
          · rename_i hn; simp only [hn] at h; exact ih _ _ h
          · rename_i o2 ho2
            simp only [ho2] at h
            split
            · rename_i hw
              simp only [hw, if_true] at h
              rcases h with h | ⟨h1, h2⟩
              · refine .inl ?_
                unfold Oper.wp at *
                generalize (execOp a.eval o2).run P w2 = r at *
                cases r with
                | ok n w' =>
                  cases n <;> simp only [Oper.upon] at h ⊢ <;>
                    first
                      | exact ih _ _ h
                      | exact Rows.mono h (fun _ _ he => ih _ _ he)
                      | skip
                  refine Calls.mono h (fun e w'' he => ?_)
                  cases e with
                  | returned v => exact ih _ _ he
                  | panicked ch => exact Post.step e1 he
                  | outgrown => obtain ⟨a9, w9, h9⟩ := he; exact ⟨a9, w9, Post.step e1 h9⟩
                | halt x w' =>
                  cases x <;> simp only [Oper.upon] at h ⊢ <;> first | exact h | exact Post.step e1 h
              · obtain ⟨a9, w9, h9⟩ := h2
                exact .inr ⟨h1, a9, w9, Post.step e1 h9⟩
            · rename_i hw; simp only [hw] at h; exact ih _ _ h
      exact this _ _ _ q2
    simp only [regA] at h
    rw [List.length_cons, List.range'_succ, wpOps_cons]
    unfold wpOp
    simp only [ho]
    split at h
    · cases h
    · rename_i hg
      rw [wanted_ok p.tr hc hg]
      split at h
      · rename_i hw
        simp only [hw, Bool.false_eq_true, if_false]
        exact next h (p.put hc (Le.refl σ) (VR.undef σ) p.hr) (Ext.refl _ _ _)
      · rename_i hw
        simp only [hw, if_true]
        have hop := op_ok' p.tr p.hr hc
        have hgr := opA_grow s.ts s.h c.op
        split at h
        · rename_i v h1 e
          rw [e] at hop hgr
          have hg2 := regA_grow hcl _ _ _ _ _ _ h
          obtain ⟨σ1, v', w1, k1, k2, k3, k4⟩ := hop (hf.left hg2.next)
          have := next h (p.put hc k4.le k2 k3) k4
          refine ⟨this.1, .inl ?_⟩
          unfold Oper.wp
          rw [k1, Oper.upon_value]; exact this.2
        · rename_i h1 e
          rw [e] at hop hgr
          have hg2 := regA_grow hcl _ _ _ _ _ _ h
          obtain ⟨σ1, w1, k1, k3, k4⟩ := hop (hf.left hg2.next)
          have := next h (p.put hc k4.le (VR.undef σ1) k3) k4
          refine ⟨this.1, .inl ?_⟩
          unfold Oper.wp
          rw [k1, Oper.upon_skip]; exact this.2
        · rename_i g args h1 e
          rw [e] at hop
          obtain ⟨rfl, args', k1, k2⟩ := hop
          split at h
          · rename_i v h2 e2
            have hg2 := regA_grow hcl _ _ _ _ _ _ h
            obtain ⟨m1, m2⟩ := hcl.ret _ _ _ _ _ e2 σ w args' p.hr k1 (hf.left hg2.next)
            refine ⟨?_, .inl ?_⟩
            · cases hr : rc' with
              | off => rfl
              | on u =>
                obtain ⟨e9, w9, fr9, ⟨v9, σ9, _, q1, q2, q3⟩, _⟩ := m2 []
                rw [← hr]; exact (next h (p.put hc q3.le q1 q2) q3).1
            · unfold Oper.wp
              rw [k2, m1, Oper.upon_enter]
              refine Calls.mono m2 fun e' w' he => ?_
              obtain ⟨v', σ', rfl, q1, q2, q3⟩ := he
              exact (next h (p.put hc q3.le q1 q2) q3).2
          · rename_i v h2 e2
            simp only [Rs.ok.injEq] at h
            obtain ⟨rfl, rfl, rfl⟩ := h
            obtain ⟨m1, m2⟩ := hcl.pan _ _ _ _ _ e2 σ w args' p.hr k1 hf
            refine ⟨rfl, .inl ?_⟩
            unfold Oper.wp
            rw [k2, m1, Oper.upon_enter]
            refine Calls.mono m2 fun e' w' he => ?_
            obtain ⟨v', σ', rfl, q1, q2, q3⟩ := he
            exact ⟨σ', ⟨v', q1, rfl⟩, ⟨q2, p.tr.mono q3.le, p.sz, p.ds.mono q3.le⟩, q3⟩
          · cases h
        · rename_i g args h1 e
          rw [e] at hop
          obtain ⟨rfl, d, k1, k2⟩ := hop
          have hpre : Pre N σ ⟨putT s.ts c.dst undefA, (g, args) :: s.ds, s.h⟩ ({ a with defers := d :: a.defers }.put o.dst undef) w := by
            have q := p.put (v := undefA) (v' := undef) hc (Le.refl σ) (VR.undef σ) p.hr
            have hdd : ({ a with defers := d :: a.defers } : Act).put o.dst undef = { (a.put o.dst undef) with defers := d :: a.defers } := by cases o.dst <;> rfl
            rw [hdd]
            exact ⟨q.hr, q.tr, q.sz, k2, p.ds⟩
          have := next h hpre (Ext.refl _ _ _)
          refine ⟨this.1, .inl ?_⟩
          unfold Oper.wp
          rw [k1, Oper.upon_defer]; exact this.2
        · cases h
        · rename_i v h1 e
          rw [e] at hop
          obtain ⟨rfl, v', k1, k2⟩ := hop
          simp only [Rs.ok.injEq] at h
          obtain ⟨rfl, rfl, rfl⟩ := h
          refine ⟨rfl, .inl ?_⟩
          unfold Oper.wp
          rw [k1, Oper.upon_panic]
          exact ⟨σ, ⟨v', k2, rfl⟩, ⟨p.hr, p.tr, p.sz, p.ds⟩, Ext.refl _ _ _⟩
        · cases h
end
end Go.Ab
