/- One operation of a region; what is alive in the midst of a region that draws. -/
import Derived.Test.YtgkchcbnbbgdpaaGreatDoorAbStat
namespace Go.Ab

def Fresh (σ : Ren) (a b : Nat) : Prop := ∀ c, a ≤ c → c < b → σ c = none

/-- A call does what its abstract one does. -/
def CallRet (P : Program) (σ : Ren) (h : H) (w : World) (f : Nat) (args' : Array Value) (v : AV) (h' : H) : Prop :=
  (callFunc f args').run P w = .ok (.enter f args') w ∧ Calls P f args' w fun e w' => ∃ v' σ', e = .returned v' ∧ VR σ' v v' ∧ HR σ' h' w' ∧ Ext σ σ' h h' w w'

structure ClOk (P : Program) (cl : Nat → List AV → H → Cr) : Prop where
  grow : ∀ f args h v h', cl f args h = .ret v h' → Grow h h'
  ret : ∀ f args h v h', cl f args h = .ret v h' → ∀ σ w args', HR σ h w → LR σ args args' → Fresh σ h.next h'.next → CallRet P σ h w f args'.toArray v h'

theorem guard_same {c : CR} {ts ts' : TS} (hs : SameOn (looksC c) ts ts') : guardOk ts c = guardOk ts' c ∧ wantedA ts c = wantedA ts' c := by
  have := hs.right
  unfold guardOk wantedA
  cases e : c.guard with
  | none => exact ⟨rfl, rfl⟩
  | some p =>
    obtain ⟨d, want⟩ := p
    have hd : ts.get d = ts'.get d := this d (by simp [e])
    simp only [hd]
    exact ⟨trivial, trivial⟩

section
variable {P : Program} {N : Nat} {ops : Array Oper} {cl : Nat → List AV → H → Cr}

/-- One operation. -/
theorem do_op (hcl : ClOk P cl) {σ : Ren} {h h' : H} {w : World} {a : Act} {ts Si : TS} {x : DI} {v : AV} (htr : TR σ ts a.tmps) (hsame : SameOn (looksC x.c) ts Si) (r : HR σ h w)
    (ho : ops[x.i]? = some x.o) (hc : compOp P N ops x.o = some x.c) (hres : resD cl x.c Si h = some (v, h')) (hf : Fresh σ h.next h'.next) {K : Act → World → Prop} {Q : Exit → Act → World → Prop}
    (hk : ∀ σ' v' w', VR σ' v v' → HR σ' h' w' → Ext σ σ' h h' w w' → K (a.put x.o.dst v') w') : wpOp P ops Q x.i K a w := by
  unfold wpOp
  simp only [ho]
  unfold resD at hres
  obtain ⟨g1, g2⟩ := guard_same hsame
  split at hres
  · cases hres
  · rename_i hg
    rw [wanted_ok htr hc (by rw [g1, hg]), g2]
    split at hres
    · rename_i hw
      injection hres with hres; injection hres with e1 e2; subst e1; subst e2
      simp only [hw, Bool.false_eq_true, if_false]
      exact hk σ undef w (VR.undef σ) r (Ext.refl σ h w)
    · rename_i hw
      simp only [hw, if_true]
      refine .inl ?_
      have hop := op_ok' htr r hc
      rw [opA_congr hsame.left] at hop
      unfold Oper.wp
      split at hres
      · rename_i v1 h1 e
        injection hres with hres; injection hres with e1 e2; subst e1; subst e2
        rw [e] at hop
        obtain ⟨σ', v', w', k1, k2, k3, k4⟩ := hop hf
        rw [k1, Oper.upon_value]
        exact hk σ' v' w' k2 k3 k4
      · rename_i h1 e
        injection hres with hres; injection hres with e1 e2; subst e1; subst e2
        rw [e] at hop
        obtain ⟨σ', w', k1, k3, k4⟩ := hop hf
        rw [k1, Oper.upon_skip]
        exact hk σ' undef w' (VR.undef σ') k3 k4
      · rename_i f args h1 e
        rw [e] at hop
        obtain ⟨rfl, args', k1, k2⟩ := hop
        split at hres
        · rename_i v1 h2 e2
          injection hres with hres; injection hres with e3 e4; subst e3; subst e4
          obtain ⟨m1, m2⟩ := hcl.ret _ _ _ _ _ e2 σ w args' r k1 hf
          rw [k2, m1, Oper.upon_enter]
          refine Calls.mono m2 fun e' w' he => ?_
          obtain ⟨v', σ', rfl, q1, q2, q3⟩ := he
          exact hk σ' v' w' q1 q2 q3
        · cases hres
      · cases hres
end

/-! What is alive. -/
def ownB : Bk → Bool
  | .cells o _ => o
  | .map .. => true

theorem own_iff {h : H} {b : Nat} : Own h b ↔ ∃ x, h.get b = some x ∧ ownB x = true := by
  constructor
  · rintro (⟨cs, e⟩ | ⟨es, c, e⟩)
    · exact ⟨_, e, rfl⟩
    · exact ⟨_, e, rfl⟩
  · rintro ⟨x, e, ho⟩
    cases x with
    | cells o cs =>
      have : o = true := ho
      subst this
      exact .inl ⟨cs, e⟩
    | map es c => exact .inr ⟨es, c, e⟩

/-- Heap and world, of what is alive. -/
structure HRP (σ : Ren) (A : Nat → Bk → Prop) (w : World) : Prop where
  bnd : ∀ b L, σ b = some L → L.blk < w.heap.size
  blk : ∀ b x L, A b x → σ b = some L → BR σ x L w
  inj : ∀ b b' x x' L L', b ≠ b' → A b x → ownB x = true → A b' x' → σ b = some L → σ b' = some L' → L.blk ≠ L'.blk

theorem HRP.of {σ : Ren} {h : H} {w : World} (r : HR σ h w) : HRP σ (fun b x => h.get b = some x) w :=
  ⟨r.bnd, r.blk, fun b b' x x' L L' hne hb ho hb' hs hs' => r.inj b b' L L' hne (own_iff.2 ⟨x, hb, ho⟩) (by simp [hb']) hs hs'⟩

theorem HRP.to {σ : Ren} {A : Nat → Bk → Prop} {w : World} (r : HRP σ A w) {h : H} (hs : ∀ b x, h.get b = some x → A b x) (hn : ∀ b x, h.get b = some x → b < h.next) : HR σ h w := by
  refine ⟨r.bnd, fun b x L hg hL => r.blk b x L (hs b x hg) hL, fun b b' L L' hne ho hg hL hL' => ?_, fun b hg => ?_⟩
  · obtain ⟨x, e, hx⟩ := own_iff.1 ho
    obtain ⟨x', e'⟩ := Option.isSome_iff_exists.1 hg
    exact r.inj b b' x x' L L' hne (hs b x e) hx (hs b' x' e') hL hL'
  · obtain ⟨x', e'⟩ := Option.isSome_iff_exists.1 hg
    exact hn b x' e'

/-- What has become of the world since the region began. -/
structure XP (σ0 : Ren) (h0 : H) (w0 : World) (X : Nat) (σ : Ren) (A : Nat → Bk → Prop) (w : World) : Prop where
  out : ∀ b, ¬ (h0.next ≤ b ∧ b < X) → σ b = σ0 b
  os : w.os = w0.os
  tape : w.tape = w0.tape
  output : w.output = w0.output
  size : w0.heap.size ≤ w.heap.size
  keep : ∀ c, c < w0.heap.size → (∀ b L, Own h0 b → σ0 b = some L → L.blk ≠ c) → w.heap[c]? = w0.heap[c]?
  own : ∀ b x L, A b x → ownB x = true → σ b = some L → w0.heap.size ≤ L.blk ∨ ∃ b0 L0, Own h0 b0 ∧ σ0 b0 = some L0 ∧ L0.blk = L.blk
  live : ∀ b x L, A b x → σ b = some L → w0.heap.size ≤ L.blk ∨ ∃ b0 L0, (h0.get b0).isSome = true ∧ σ0 b0 = some L0 ∧ L0.blk = L.blk

section
variable {σ σ' : Ren} {A A' : Nat → Bk → Prop} {h h' : H} {w w' : World}

/-- How what is alive turns where a step is done on a part of the heap. -/
def Turn (σ σ' : Ren) (A A' : Nat → Bk → Prop) (h h' : H) : Prop :=
  ∀ b x L, A' b x → σ' b = some L → h'.get b = some x ∨ (A b x ∧ h.get b = none ∧ σ b = some L)

theorem HRP.frame (q : HRP σ A w) (hsub : ∀ b x, h.get b = some x → A b x) (e : Ext σ σ' h h' w w') (r' : HR σ' h' w') (hl : Turn σ σ' A A' h h') : HRP σ' A' w' := by
  have hown : ∀ b x L, A b x → h.get b = none → σ b = some L → ∀ b0 L0, Own h b0 → σ b0 = some L0 → L0.blk ≠ L.blk := by
    intro b x L hA hn hs b0 L0 ho hs0
    obtain ⟨x0, e0, hx0⟩ := own_iff.1 ho
    have : b0 ≠ b := by rintro rfl; rw [hn] at e0; cases e0
    exact q.inj b0 b x0 x L0 L this (hsub _ _ e0) hx0 hA hs0 hs
  refine ⟨r'.bnd, fun b x L hA hs => ?_, fun b b' x x' L L' hne hA ho hA' hs hs' => ?_⟩
  · rcases hl b x L hA hs with hg | ⟨k1, k2, k3⟩
    · exact r'.blk b x L hg hs
    · exact ((q.blk b x L k1 k3).mono e.le).heap (e.keep L.blk (q.bnd b L k3) (hown b x L k1 k2 k3))
  · rcases hl b x L hA hs with hg | ⟨k1, k2, k3⟩
    · rcases hl b' x' L' hA' hs' with hg' | ⟨m1, m2, m3⟩
      · exact r'.inj b b' L L' hne (own_iff.2 ⟨x, hg, ho⟩) (by simp [hg']) hs hs'
      · rcases e.own b L (own_iff.2 ⟨x, hg, ho⟩) hs with h1 | ⟨b0, L0, h1, h2, h3⟩
        · have := q.bnd b' L' m3; omega
        · rw [← h3]; exact hown b' x' L' m1 m2 m3 b0 L0 h1 h2
    · rcases hl b' x' L' hA' hs' with hg' | ⟨m1, m2, m3⟩
      · rcases e.live b' L' (by simp [hg']) hs' with h1 | ⟨b0, L0, h1, h2, h3⟩
        · have := q.bnd b L k3; omega
        · obtain ⟨x0, e0⟩ := Option.isSome_iff_exists.1 h1
          have : b ≠ b0 := by rintro rfl; rw [k2] at e0; cases e0
          rw [← h3]
          exact q.inj b b0 x x0 L L0 this k1 ho (hsub _ _ e0) k3 h2
      · exact q.inj b b' x x' L L' hne k1 ho m1 k3 m3

theorem XP.frame {σ0 : Ren} {h0 : H} {w0 : World} {X : Nat} (q : XP σ0 h0 w0 X σ A w) (hsub : ∀ b x, h.get b = some x → A b x) (e : Ext σ σ' h h' w w') (h1 : h0.next ≤ h.next) (h2 : h'.next ≤ X) (hl : Turn σ σ' A A' h h') : XP σ0 h0 w0 X σ' A' w' := by
  refine ⟨fun b hb => ?_, e.os.trans q.os, e.tape.trans q.tape, e.output.trans q.output, Nat.le_trans q.size e.size, fun c hc hn => ?_, fun b x L hA ho hs => ?_, fun b x L hA hs => ?_⟩
  · rw [e.out b (fun hh => hb ⟨by omega, by omega⟩)]; exact q.out b hb
  · rw [← q.keep c hc hn]
    refine e.keep c (Nat.lt_of_lt_of_le hc q.size) fun b L ho hs => ?_
    obtain ⟨x, e0, hx⟩ := own_iff.1 ho
    rcases q.own b x L (hsub _ _ e0) hx hs with g | ⟨b0, L0, g1, g2, g3⟩
    · omega
    · rw [← g3]; exact hn b0 L0 g1 g2
  · rcases hl b x L hA hs with hg | ⟨k1, k2, k3⟩
    · rcases e.own b L (own_iff.2 ⟨x, hg, ho⟩) hs with g | ⟨b0, L0, g1, g2, g3⟩
      · exact .inl (Nat.le_trans q.size g)
      · obtain ⟨x0, e0, hx0⟩ := own_iff.1 g1
        rcases q.own b0 x0 L0 (hsub _ _ e0) hx0 g2 with g | ⟨b1, L1, m1, m2, m3⟩
        · exact .inl (by rw [← g3]; exact g)
        · exact .inr ⟨b1, L1, m1, m2, m3.trans g3⟩
    · exact q.own b x L k1 ho k3
  · rcases hl b x L hA hs with hg | ⟨k1, k2, k3⟩
    · rcases e.live b L (by simp [hg]) hs with g | ⟨b0, L0, g1, g2, g3⟩
      · exact .inl (Nat.le_trans q.size g)
      · obtain ⟨x0, e0⟩ := Option.isSome_iff_exists.1 g1
        rcases q.live b0 x0 L0 (hsub _ _ e0) g2 with g | ⟨b1, L1, m1, m2, m3⟩
        · exact .inl (by rw [← g3]; exact g)
        · exact .inr ⟨b1, L1, m1, m2, m3.trans g3⟩
    · exact q.live b x L k1 k3

theorem XP.start {σ0 : Ren} {h0 : H} {w0 w : World} {X : Nat} (e : Ext σ0 σ0 h0 h0 w0 w) : XP σ0 h0 w0 X σ0 (fun b x => h0.get b = some x) w :=
  ⟨fun _ _ => rfl, e.os, e.tape, e.output, e.size, e.keep, fun b x L hA ho hs => e.own b L (own_iff.2 ⟨x, hA, ho⟩) hs, fun b x L hA hs => e.live b L (by simp [hA]) hs⟩

theorem XP.done {σ0 : Ren} {h0 hn : H} {w0 : World} (q : XP σ0 h0 w0 hn.next σ (fun b x => hn.get b = some x) w) (hle : h0.next ≤ hn.next) (hf : Fresh σ0 h0.next hn.next) : Ext σ0 σ h0 hn w0 w :=
  ⟨hle, q.out, hf, q.os, q.tape, q.output, q.size, q.keep, fun b L ho hs => (let ⟨x, e, hx⟩ := own_iff.1 ho; q.own b x L e hx hs), fun b L hg hs => (let ⟨x, e⟩ := Option.isSome_iff_exists.1 hg; q.live b x L e hs)⟩
end
end Go.Ab
