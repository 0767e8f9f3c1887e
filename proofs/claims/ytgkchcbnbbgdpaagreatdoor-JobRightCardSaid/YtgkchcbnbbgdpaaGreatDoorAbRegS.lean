/- A region in the text's order, in a deferred call that asks for the panic under way. -/
import Derived.Test.YtgkchcbnbbgdpaaGreatDoorAbReg
namespace Go.Ab

/-- How it stands with the panic under way. -/
def UR (σ : Ren) : Option AV → FrameMode → Prop
  | none, u => u = .returning ∨ ∃ v', u = .panicking [{ v := v', recovered := true }]
  | some v, u => ∃ v', VR σ v v' ∧ u = .panicking [{ v := v', recovered := false }]

theorem UR.mono {σ σ' : Ren} (hle : Le σ σ') {r : Option AV} {u : FrameMode} (h : UR σ r u) : UR σ' r u := by
  cases r with
  | none => exact h
  | some v => obtain ⟨v', h1, h2⟩ := h; exact ⟨v', h1.mono hle, h2⟩

def PostS (N : Nat) (c0 : Frame) (cs0 : List Frame) (σ : Ren) (h : H) (w : World) (f : Fl) (s' : S) (r' : Option AV) (e : Exit) (a' : Act) (cs' : List Frame) (w' : World) : Prop :=
  ∃ σ' u, cs' = { c0 with mode := u } :: cs0 ∧ UR σ' r' u ∧ FR σ' f e ∧ Pre N σ' s' a' w' ∧ Ext σ σ' h s'.h w w'

theorem PostS.step {N : Nat} {c0 : Frame} {cs0 : List Frame} {σ σ1 : Ren} {h h1 : H} {w w1 : World} {f : Fl} {s' : S} {r' : Option AV} {e : Exit} {a' : Act} {cs' : List Frame} {w' : World} (x : Ext σ σ1 h h1 w w1) (p : PostS N c0 cs0 σ1 h1 w1 f s' r' e a' cs' w') :
    PostS N c0 cs0 σ h w f s' r' e a' cs' w' :=
  let ⟨σ', u, h1, h2, h3, h4, h5⟩ := p; ⟨σ', u, h1, h2, h3, h4, x.trans h5⟩

theorem wpOpsS_mono {P : Program} {ops : Array Oper} {Q Q' : Exit → Act → List Frame → World → Prop} (hq : ∀ e a cs w, Q e a cs w → Q' e a cs w) : ∀ (l : List Nat) (a : Act) (cs : List Frame) (w : World), wpOpsS P ops Q l a cs w → wpOpsS P ops Q' l a cs w
  | [], a, cs, w, h => hq _ _ _ _ h
  | i :: l, a, cs, w, h => by
    simp only [wpOpsS] at h ⊢
    split
    · rename_i hn; simp only [hn] at h; exact wpOpsS_mono hq l _ _ _ h
    · rename_i o ho
      simp only [ho] at h
      split
      · rename_i hw
        simp only [hw, if_true] at h
        generalize (execOp a.eval o).run P w = r at *
        split at h
        · split at h
          · exact wpOpsS_mono hq l _ _ _ h
          · exact wpOpsS_mono hq l _ _ _ h
        · rename_i r' hnot
          cases r with
          | ok n w' =>
            cases n <;> simp only [Oper.upon] at h ⊢ <;>
              first
                | exact absurd rfl (hnot _)
                | exact wpOpsS_mono hq l _ _ _ h
                | exact Rows.mono h (fun _ _ he => wpOpsS_mono hq l _ _ _ he)
                | skip
            refine Calls.mono h (fun e w'' he => ?_)
            cases e with
            | returned v => exact wpOpsS_mono hq l _ _ _ he
            | panicked ch => exact hq _ _ _ _ he
            | outgrown => obtain ⟨a9, w9, h9⟩ := he; exact ⟨a9, w9, hq _ _ _ _ h9⟩
          | halt x w' =>
            cases x <;> simp only [Oper.upon] at h ⊢ <;> first | exact h | exact hq _ _ _ _ h
      · rename_i hw; simp only [hw] at h; exact wpOpsS_mono hq l _ _ _ h

section
variable {P : Program} {N : Nat} {ops : Array Oper} {cl : Nat → List AV → H → Cr}

theorem regA_on (hcl : ClFull P cl) : ∀ (cs : List CR) (s : S) (r : Option AV) (f : Fl) (s' : S) (rc' : Rc), regA cl cs s (.on r) = .ok f s' rc' → ∃ r', rc' = .on r'
  | [], s, r, f, s', rc', h => by simp only [regA, Rs.ok.injEq] at h; exact ⟨r, h.2.2.symm⟩
  | o :: rest, s, r, f, s', rc', h => by
    simp only [regA] at h
    split at h
    · cases h
    · split at h
      · exact regA_on hcl rest _ _ _ _ _ h
      · split at h
        · exact regA_on hcl rest _ _ _ _ _ h
        · exact regA_on hcl rest _ _ _ _ _ h
        · split at h
          · exact regA_on hcl rest _ _ _ _ _ h
          · simp only [Rs.ok.injEq] at h; exact ⟨r, h.2.2.symm⟩
          · cases h
        · exact regA_on hcl rest _ _ _ _ _ h
        · split at h
          · exact regA_on hcl rest _ _ _ _ _ h
          · exact regA_on hcl rest _ _ _ _ _ h
          · rename_i e; cases e
        · simp only [Rs.ok.injEq] at h; exact ⟨r, h.2.2.symm⟩
        · cases h

theorem regS_ok (hcl : ClFull P cl) (c0 : Frame) (cs0 : List Frame) : ∀ (cs : List CR) (k : Nat), (∀ (j : Nat) (c : CR), cs[j]? = some c → ∃ o, ops[k + j]? = some o ∧ compOp P N ops o = some c) →
    ∀ (s : S) (f : Fl) (s' : S) (r r' : Option AV) (σ : Ren) (a : Act) (u : FrameMode) (w : World), regA cl cs s (.on r) = .ok f s' (.on r') → Pre N σ s a w → UR σ r u → Fresh σ s.h.next s'.h.next →
    wpOpsS P ops (PostS N c0 cs0 σ s.h w f s' r') (List.range' k cs.length) a ({ c0 with mode := u } :: cs0) w
  | [], k, _, s, f, s', r, r', σ, a, u, w, h, p, hu, _ => by
    simp only [regA, Rs.ok.injEq, Rc.on.injEq] at h
    obtain ⟨rfl, rfl, rfl⟩ := h
    exact ⟨σ, u, rfl, hu, rfl, p, Ext.refl _ _ _⟩
  | c :: rest, k, hcs, s, f, s', r, r', σ, a, u, w, h, p, hu, hf => by
    obtain ⟨o, ho, hc⟩ := hcs 0 c rfl
    have hcs' : ∀ (j : Nat) (c : CR), rest[j]? = some c → ∃ o, ops[k + 1 + j]? = some o ∧ compOp P N ops o = some c := by
      intro j c' hj
      obtain ⟨o', h1, h2⟩ := hcs (j + 1) c' (by simpa using hj)
      exact ⟨o', by rw [← h1]; congr 1; omega, h2⟩
    rw [Nat.add_zero] at ho
    have next : ∀ {s1 : S} {σ1 : Ren} {a1 : Act} {w1 : World} {r1 : Option AV} {u1 : FrameMode}, regA cl rest s1 (.on r1) = .ok f s' (.on r') → Pre N σ1 s1 a1 w1 → UR σ1 r1 u1 → Ext σ σ1 s.h s1.h w w1 →
        wpOpsS P ops (PostS N c0 cs0 σ s.h w f s' r') (List.range' (k + 1) rest.length) a1 ({ c0 with mode := u1 } :: cs0) w1 := by
      intro s1 σ1 a1 w1 r1 u1 h1 p1 hu1 e1
      have hg := regA_grow hcl _ _ _ _ _ _ h1
      exact wpOpsS_mono (fun _ _ _ _ q => PostS.step e1 q) _ _ _ _ (regS_ok hcl c0 cs0 rest (k + 1) hcs' s1 f s' r1 r' σ1 a1 u1 w1 h1 p1 hu1 (hf.step e1 hg.next))
    simp only [regA] at h
    rw [List.length_cons, List.range'_succ]
    simp only [wpOpsS, ho]
    split at h
    · cases h
    · rename_i hg
      rw [wanted_ok p.tr hc hg]
      split at h
      · rename_i hw
        simp only [hw, Bool.false_eq_true, if_false]
        exact next h (p.put hc (Le.refl σ) (VR.undef σ) p.hr) hu (Ext.refl _ _ _)
      · rename_i hw
        simp only [hw, if_true]
        have hop := op_ok' p.tr p.hr hc
        have hgr := opA_grow s.ts s.h c.op
        split at h
        · rename_i v h1 e
          rw [e] at hop hgr
          have hg2 := regA_grow hcl _ _ _ _ _ _ h
          obtain ⟨σ1, v', w1, k1, k2, k3, k4⟩ := hop (hf.left hg2.next)
          rw [k1]
          simp only [Oper.upon]
          exact next h (p.put hc k4.le k2 k3) (hu.mono k4.le) k4
        · rename_i h1 e
          rw [e] at hop hgr
          have hg2 := regA_grow hcl _ _ _ _ _ _ h
          obtain ⟨σ1, w1, k1, k3, k4⟩ := hop (hf.left hg2.next)
          rw [k1]
          simp only [Oper.upon]
          exact next h (p.put hc k4.le (VR.undef σ1) k3) (hu.mono k4.le) k4
        · rename_i g args h1 e
          rw [e] at hop
          obtain ⟨rfl, args', k1, k2⟩ := hop
          split at h
          · rename_i v h2 e2
            have hg2 := regA_grow hcl _ _ _ _ _ _ h
            obtain ⟨m1, m2⟩ := hcl.ret _ _ _ _ _ e2 σ w args' p.hr k1 (hf.left hg2.next)
            rw [k2, m1]
            simp only [Oper.upon]
            refine Calls.mono m2 fun e' w' he => ?_
            obtain ⟨v', σ', rfl, q1, q2, q3⟩ := he
            exact next h (p.put hc q3.le q1 q2) (hu.mono q3.le) q3
          · rename_i v h2 e2
            simp only [Rs.ok.injEq, Rc.on.injEq] at h
            obtain ⟨rfl, rfl, rfl⟩ := h
            obtain ⟨m1, m2⟩ := hcl.pan _ _ _ _ _ e2 σ w args' p.hr k1 hf
            rw [k2, m1]
            simp only [Oper.upon]
            refine Calls.mono m2 fun e' w' he => ?_
            obtain ⟨v', σ', rfl, q1, q2, q3⟩ := he
            exact ⟨σ', u, rfl, hu.mono q3.le, ⟨v', q1, rfl⟩, ⟨q2, p.tr.mono q3.le, p.sz, p.ds.mono q3.le⟩, q3⟩
          · cases h
        · rename_i g args h1 e
          rw [e] at hop
          obtain ⟨rfl, d, k1, k2⟩ := hop
          have hpre : Pre N σ ⟨putT s.ts c.dst undefA, (g, args) :: s.ds, s.h⟩ ({ a with defers := d :: a.defers }.put o.dst undef) w := by
            have q := p.put (v := undefA) (v' := undef) hc (Le.refl σ) (VR.undef σ) p.hr
            have hdd : ({ a with defers := d :: a.defers } : Act).put o.dst undef = { (a.put o.dst undef) with defers := d :: a.defers } := by cases o.dst <;> rfl
            rw [hdd]
            exact ⟨q.hr, q.tr, q.sz, k2, p.ds⟩
          rw [k1]
          simp only [Oper.upon]
          exact next h hpre hu (Ext.refl _ _ _)
        · rename_i h1 e
          rw [e] at hop
          obtain ⟨rfl, k1⟩ := hop
          rw [k1]
          simp only
          cases r with
          | some v =>
            simp only at h
            obtain ⟨v', q1, rfl⟩ := hu
            simp only [recoverD]
            exact next (u1 := .panicking [{ v := v', recovered := true }]) h (p.put hc (Le.refl σ) q1 p.hr) (.inr ⟨v', rfl⟩) (Ext.refl _ _ _)
          | none =>
            simp only at h
            have hrec : recoverD ({ c0 with mode := u } :: cs0) = none := by
              rcases hu with rfl | ⟨v', rfl⟩ <;> rfl
            rw [hrec]
            exact next h (p.put hc (Le.refl σ) .inil p.hr) hu (Ext.refl _ _ _)
        · rename_i v h1 e
          rw [e] at hop
          obtain ⟨rfl, v', k1, k2⟩ := hop
          simp only [Rs.ok.injEq, Rc.on.injEq] at h
          obtain ⟨rfl, rfl, rfl⟩ := h
          rw [k1]
          simp only [Oper.upon]
          exact ⟨σ, u, rfl, hu, ⟨v', k2, rfl⟩, p, Ext.refl _ _ _⟩
        · cases h
end
end Go.Ab
