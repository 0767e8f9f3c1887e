/- Code does what its abstract one does. -/
import Derived.Test.YtgkchcbnbbgdpaaGreatDoorAbRegS
namespace Go.Ab

/-- A loop, from its body's start on. -/
def LoopWp (P : Program) (c : Code) (Q : Exit → Act → World → Prop) (a : Act) (w : World) : Prop :=
  ∀ (b : Frame) (k : List Item) (cs : List Frame), ∃ e a' w', Q e a' w' ∧ Arrives P (lone (b.at a (.code c :: .inLoop c :: k)) cs w) b k cs e a' w'

theorem LoopWp.wp {P : Program} {c : Code} {Q : Exit → Act → World → Prop} {a : Act} {w : World} (h : LoopWp P c Q a w) : (Code.loop c).wp P Q a w := by
  intro b k cs
  obtain ⟨e, a', w', hq, harr⟩ := h b k cs
  exact ⟨e, a', w', hq, .of_steps (.one step_loop) harr⟩

theorem LoopWp.round {P : Program} {c : Code} {Q : Exit → Act → World → Prop} {a : Act} {w : World} (h : c.wp P (Exit.then (LoopWp P c Q) Q) a w) : LoopWp P c Q a w := by
  intro b k cs
  obtain ⟨e, a₁, w₁, hq, harr⟩ := h b (.inLoop c :: k) cs
  cases e with
  | normal =>
    obtain ⟨e₂, a₂, w₂, hq₂, harr₂⟩ := hq b k cs
    exact ⟨e₂, a₂, w₂, hq₂, .of_steps (Steps.trans harr (.one step_inLoop)) harr₂⟩
  | exit id => exact ⟨_, a₁, w₁, hq, .pass (x := .inLoop c) rfl (fun _ _ => .inl (by simp)) harr⟩
  | goto l => exact ⟨_, a₁, w₁, hq, .pass (x := .inLoop c) rfl (fun _ _ => .inl (by simp)) harr⟩
  | ret => exact ⟨_, a₁, w₁, hq, .pass (x := .inLoop c) rfl (fun _ _ => .inl (by simp)) harr⟩
  | panic ch => exact ⟨_, a₁, w₁, hq, .pass (x := .inLoop c) rfl (fun _ _ => .inl (by simp)) harr⟩
  | outgrown => exact ⟨_, a₁, w₁, hq, .pass (x := .inLoop c) rfl (fun _ _ => .inl (by simp)) harr⟩

def wpL (P : Program) (c : Code) (Q : Exit → Act → World → Prop) (a : Act) (w : World) : Prop :=
  match c with
  | .loop b => LoopWp P b Q a w
  | c => c.wp P Q a w

theorem wpL.wp {P : Program} {c : Code} {Q : Exit → Act → World → Prop} {a : Act} {w : World} (h : wpL P c Q a w) : c.wp P Q a w := by
  cases c <;> first | exact h | exact LoopWp.wp h

theorem FR.then {σ : Ren} {f : Fl} {e : Exit} (h : FR σ f e) (hn : f ≠ .norm) {K : Act → World → Prop} {Q : Exit → Act → World → Prop} {a : Act} {w : World} (hq : Q e a w) : Exit.then K Q e a w := by
  cases f with
  | norm => exact absurd rfl hn
  | exit n => cases h; exact hq
  | ret => cases h; exact hq
  | pan v => obtain ⟨v', _, rfl⟩ := h; exact hq

theorem FR.thenS {σ : Ren} {f : Fl} {e : Exit} (h : FR σ f e) (hn : f ≠ .norm) {K : Act → List Frame → World → Prop} {Q : Exit → Act → List Frame → World → Prop} {a : Act} {cs : List Frame} {w : World} (hq : Q e a cs w) : Exit.thenS K Q e a cs w := by
  cases f with
  | norm => exact absurd rfl hn
  | exit n => cases h; exact hq
  | ret => cases h; exact hq
  | pan v => obtain ⟨v', _, rfl⟩ := h; exact hq

/-- What a panic under way is where calls leave. -/
def UZ (σ : Ren) : Option AV → FrameMode → Prop
  | none, u => u = .returning
  | some v, u => ∃ v', VR σ v v' ∧ u = .panicking [{ v := v', recovered := false }]

theorem UZ.ur {σ : Ren} {r : Option AV} {u : FrameMode} (h : UZ σ r u) : UR σ r u := by
  cases r with
  | none => exact .inl h
  | some v => exact h

theorem UR.settle {σ : Ren} {r : Option AV} {u : FrameMode} (h : UR σ r u) : UZ σ r (settle u) := by
  cases r with
  | none =>
    rcases h with rfl | ⟨v', rfl⟩ <;> rfl
  | some v =>
    obtain ⟨v', h1, rfl⟩ := h
    exact ⟨v', h1, rfl⟩

structure LvOk (P : Program) (L : Lv) : Prop where
  cl : ClFull P L.call
  egrow : ∀ c s rc f s' rc', L.exec c s rc = .ok f s' rc' → Grow s.h s'.h
  roff : ∀ c s f s' rc', L.exec c s .off = .ok f s' rc' → rc' = .off
  ron : ∀ c s r f s' rc', L.exec c s (.on r) = .ok f s' rc' → ∃ r', rc' = .on r'
  off : ∀ N (c : Code) s f s' rc', L.exec (compC P N c) s .off = .ok f s' rc' → ∀ σ a w, Pre N σ s a w → Fresh σ s.h.next s'.h.next → wpL P c (Post N σ s.h w f s') a w
  on : ∀ N (c : Code) s f s' r r', L.exec (compC P N c) s (.on r) = .ok f s' (.on r') → ∀ σ a w (c0 : Frame) (cs0 : List Frame) u, Pre N σ s a w → UR σ r u → Fresh σ s.h.next s'.h.next →
    c.wpS P (PostS N c0 cs0 σ s.h w f s' r') a ({ c0 with mode := u } :: cs0) w
  dgrow : ∀ f args h u h' u', L.callD f args h u = some (h', u') → Grow h h'
  dok : ∀ f args h u h' u', L.callD f args h u = some (h', u') → ∀ σ w args' um, HR σ h w → LR σ args args' → UZ σ u um → Fresh σ h.next h'.next →
    (callFunc f args'.toArray).run P w = .ok (.enter f args'.toArray) w ∧ CallsD P f args'.toArray um w fun e um' w' => ∃ v' σ', e = .returned v' ∧ UR σ' u' um' ∧ HR σ' h' w' ∧ Ext σ σ' h h' w w'

section
variable {P : Program} {cx : Cx} {L : Lv}

theorem compOps_get2 {N : Nat} {ops : Array Oper} {cs : List CR} (h : compOps P N ops ops.toList = some cs) : ∀ (j : Nat) (c : CR), cs[j]? = some c → ∃ o, ops[0 + j]? = some o ∧ compOp P N ops o = some c := by
  intro j c hj
  have hlen := compOps_len h
  have hlt : j < cs.length := by
    rcases Nat.lt_or_ge j cs.length with q | q
    · exact q
    · rw [List.getElem?_eq_none q] at hj; cases hj
  have hlt2 : j < ops.toList.length := by omega
  exact ⟨ops.toList[j], by rw [Nat.zero_add, ← Array.getElem?_toList, List.getElem?_eq_getElem hlt2], compOps_get h j _ c (List.getElem?_eq_getElem hlt2) hj⟩

theorem exec_stuck {s : S} {rc : Rc} {q : Rs} (h : execL cx L stuckC s rc = q) : q = .no := by
  rw [← h]; rfl

theorem execL_grow (hL : LvOk P L) (c : CC) (s : S) (rc : Rc) (f : Fl) (s' : S) (rc' : Rc) (h : execL cx L c s rc = .ok f s' rc') : Grow s.h s'.h := by
  cases c with
  | skip => simp only [execL, Rs.ok.injEq] at h; obtain ⟨_, rfl, _⟩ := h; exact Grow.refl _
  | reg ops => exact regA_grow hL.cl _ _ _ _ _ _ h
  | draw ops two => exact drawA_grow hL.cl.toClOk h
  | seq a b =>
    simp only [execL] at h
    split at h
    · rename_i e; exact (hL.egrow _ _ _ _ _ _ e).trans (hL.egrow _ _ _ _ _ _ h)
    · exact hL.egrow _ _ _ _ _ _ h
  | cond c t e =>
    simp only [execL] at h
    split at h
    · exact hL.egrow _ _ _ _ _ _ h
    · cases h
  | block id body =>
    simp only [execL] at h
    split at h
    · rename_i e
      split at h
      · simp only [Rs.ok.injEq] at h; obtain ⟨_, rfl, _⟩ := h; exact hL.egrow _ _ _ _ _ _ e
      · simp only [Rs.ok.injEq] at h; obtain ⟨_, rfl, _⟩ := h; exact hL.egrow _ _ _ _ _ _ e
    · exact hL.egrow _ _ _ _ _ _ h
    · cases h
  | loop body =>
    simp only [execL] at h
    split at h
    · rename_i e; exact (hL.egrow _ _ _ _ _ _ e).trans (hL.egrow _ _ _ _ _ _ h)
    · exact hL.egrow _ _ _ _ _ _ h
    · cases h
  | exit id =>
    simp only [execL] at h
    split at h
    · simp only [Rs.ok.injEq] at h; obtain ⟨_, rfl, _⟩ := h; exact Grow.refl _
    · cases h
  | ret =>
    simp only [execL] at h
    split at h
    · simp only [Rs.ok.injEq] at h; obtain ⟨_, rfl, _⟩ := h; exact Grow.refl _
    · cases h

theorem regA_off {cl : Nat → List AV → H → Cr} : ∀ (cs : List CR) (s : S) (f : Fl) (s' : S) (rc' : Rc), regA cl cs s .off = .ok f s' rc' → rc' = .off
  | [], s, f, s', rc', h => by simp only [regA, Rs.ok.injEq] at h; exact h.2.2.symm
  | o :: rest, s, f, s', rc', h => by
    simp only [regA] at h
    split at h
    · cases h
    · split at h
      · exact regA_off rest _ _ _ _ h
      · split at h
        · exact regA_off rest _ _ _ _ h
        · exact regA_off rest _ _ _ _ h
        · split at h
          · exact regA_off rest _ _ _ _ h
          · simp only [Rs.ok.injEq] at h; exact h.2.2.symm
          · cases h
        · exact regA_off rest _ _ _ _ h
        · cases h
        · simp only [Rs.ok.injEq] at h; exact h.2.2.symm
        · cases h

theorem execL_off (hL : LvOk P L) (c : CC) (s : S) (f : Fl) (s' : S) (rc' : Rc) (h : execL cx L c s .off = .ok f s' rc') : rc' = .off := by
  cases c with
  | skip => simp only [execL, Rs.ok.injEq] at h; exact h.2.2.symm
  | reg ops => exact regA_off _ _ _ _ _ h
  | draw ops two => exact (draw_out h).2.2
  | seq a b =>
    simp only [execL] at h
    split at h
    · rename_i e; have := hL.roff _ _ _ _ _ e; subst this; exact hL.roff _ _ _ _ _ h
    · exact hL.roff _ _ _ _ _ h
  | cond c t e =>
    simp only [execL] at h
    split at h
    · exact hL.roff _ _ _ _ _ h
    · cases h
  | block id body =>
    simp only [execL, isOn] at h
    split at h
    · rename_i e
      split at h
      · simp only [Rs.ok.injEq] at h; rw [← h.2.2]; exact hL.roff _ _ _ _ _ e
      · simp only [Rs.ok.injEq] at h; rw [← h.2.2]; exact hL.roff _ _ _ _ _ e
    · exact hL.roff _ _ _ _ _ h
    · cases h
  | loop body =>
    simp only [execL, isOn] at h
    split at h
    · rename_i e; have := hL.roff _ _ _ _ _ e; subst this; exact hL.roff _ _ _ _ _ h
    · exact hL.roff _ _ _ _ _ h
    · cases h
  | exit id => simp only [execL, isOn, Rs.ok.injEq] at h; exact h.2.2.symm
  | ret => simp only [execL, isOn, Rs.ok.injEq] at h; exact h.2.2.symm

theorem execL_on (hL : LvOk P L) (c : CC) (s : S) (r : Option AV) (f : Fl) (s' : S) (rc' : Rc) (h : execL cx L c s (.on r) = .ok f s' rc') : ∃ r', rc' = .on r' := by
  cases c with
  | skip => simp only [execL, Rs.ok.injEq] at h; exact ⟨r, h.2.2.symm⟩
  | reg ops => exact regA_on hL.cl _ _ _ _ _ _ h
  | draw ops two => exact ⟨r, (draw_out h).2.2⟩
  | seq a b =>
    simp only [execL] at h
    split at h
    · rename_i e; obtain ⟨r1, q⟩ := hL.ron _ _ _ _ _ _ e; subst q; exact hL.ron _ _ _ _ _ _ h
    · exact hL.ron _ _ _ _ _ _ h
  | cond c t e =>
    simp only [execL] at h
    split at h
    · exact hL.ron _ _ _ _ _ _ h
    · cases h
  | block id body => simp only [execL, isOn] at h; cases h
  | loop body => simp only [execL, isOn] at h; cases h
  | exit id => simp only [execL, isOn] at h; cases h
  | ret => simp only [execL, isOn] at h; cases h

theorem cond_val {σ : Ren} {ts : TS} {a : Act} (htr : TR σ ts a.tmps) {c : Operand} {b : Bool} (h : evA ts (opd c) = .bool b) : a.eval c = .bool b := by
  have := evA_ok htr c
  rw [h] at this
  generalize a.eval c = X at this
  cases this; rfl

theorem exec_off (hmix : P.follows .mixedOrders = true) (hL : LvOk P L) (N : Nat) (c : Code) (s : S) (f : Fl) (s' : S) (rc' : Rc) (h : execL cx L (compC P N c) s .off = .ok f s' rc') (σ : Ren) (a : Act) (w : World) (p : Pre N σ s a w) (hf : Fresh σ s.h.next s'.h.next) :
    wpL P c (Post N σ s.h w f s') a w := by
  have bad : execL cx L stuckC s .off = .ok f s' rc' → False := fun h => by have := exec_stuck h; cases this
  cases c <;> (try simp only [compC] at h) <;> first | exact (bad h).elim | skip
  case skip =>
    simp only [execL, Rs.ok.injEq] at h
    obtain ⟨rfl, rfl, rfl⟩ := h
    exact wp_skip ⟨σ, rfl, p, Ext.refl _ _ _⟩
  case label l =>
    simp only [execL, Rs.ok.injEq] at h
    obtain ⟨rfl, rfl, rfl⟩ := h
    exact wp_label ⟨σ, rfl, p, Ext.refl _ _ _⟩
  case region id ops draw =>
    cases draw with
    | false =>
      simp only [compC] at h
      split at h
      · rename_i l hl
        have := (reg_ok hL.cl l 0 (compOps_get2 hl) s f s' rc' σ a w h p hf).2
        refine wp_region ?_
        rw [List.range_eq_range', ← Array.length_toList, ← compOps_len hl]
        exact this
      · exact (bad h).elim
    | true =>
      simp only [compC] at h
      rcases draw_facts (P := P) (N := N) (ops := ops) with hd | ⟨l, two, hd, _⟩
      · rw [hd] at h; exact (bad h).elim
      · rw [hd] at h
        change drawA L.call (wins l l 0) two s .off = _ at h
        obtain ⟨rfl, hds, rfl⟩ := draw_out h
        exact draw_ok hL.cl.toClOk hmix hd h p.tr p.hr p.sz hf fun σ' a' w' q1 q2 q3 q4 q5 => ⟨σ', rfl, ⟨q1, q3, q4, by rw [hds, q5]; exact p.ds.mono q2.le⟩, q2⟩
  case seq x y =>
    simp only [execL] at h
    split at h
    · rename_i s1 rc1 e
      have hr := hL.roff _ _ _ _ _ e
      subst hr
      have hg := hL.egrow _ _ _ _ _ _ h
      refine wp_seq (wp_mono (hL.off N x _ _ _ _ e σ a w p (hf.left hg.next)).wp fun e1 a1 w1 hq => ?_)
      obtain ⟨σ1, q1, q2, q3⟩ := hq
      cases q1
      exact wp_mono (hL.off N y _ _ _ _ h σ1 a1 w1 q2 (hf.step q3 hg.next)).wp fun e2 a2 w2 hq2 => Post.step q3 hq2
    · rename_i hne
      refine wp_seq (wp_mono (hL.off N x _ _ _ _ h σ a w p hf).wp fun e1 a1 w1 hq => ?_)
      obtain ⟨σ1, q1, q2, q3⟩ := hq
      exact q1.then (fun e => hne s' rc' (by rw [← e]; exact h)) ⟨σ1, q1, q2, q3⟩
  case cond c x y =>
    simp only [execL] at h
    split at h
    · rename_i b hb
      refine wp_cond (cond_val p.tr hb) ?_
      cases b with
      | true => exact (hL.off N x _ _ _ _ h σ a w p hf).wp
      | false => exact (hL.off N y _ _ _ _ h σ a w p hf).wp
    · cases h
  case block id body =>
    simp only [execL, isOn] at h
    split at h
    · rename_i i s1 rc1 hoff e
      have hg : s1 = s' := by
        split at h <;> (simp only [Rs.ok.injEq] at h; exact h.2.1)
      subst hg
      refine wp_block (wp_mono (hL.off N body _ _ _ _ e σ a w p hf).wp fun e1 a1 w1 hq => ?_)
      obtain ⟨σ1, q1, q2, q3⟩ := hq
      cases q1
      split at h
      · rename_i hb
        simp only [Rs.ok.injEq] at h
        obtain ⟨rfl, _, _⟩ := h
        simp only [Exit.inBlock, Nat.eq_of_beq_eq_true hb, if_true]
        exact ⟨σ1, rfl, q2, q3⟩
      · rename_i hb
        simp only [Rs.ok.injEq] at h
        obtain ⟨rfl, _, _⟩ := h
        have hne : i ≠ id := by rintro rfl; rw [Nat.beq_refl] at hb; cases hb
        simp only [Exit.inBlock, if_neg hne]
        exact ⟨σ1, rfl, q2, q3⟩
    · rename_i hne
      refine wp_block (wp_mono (hL.off N body _ _ _ _ h σ a w p hf).wp fun e1 a1 w1 hq => ?_)
      obtain ⟨σ1, q1, q2, q3⟩ := hq
      cases f with
      | norm => cases q1; exact ⟨σ1, rfl, q2, q3⟩
      | exit n => exact (hne n s' rc' h).elim
      | ret => cases q1; exact ⟨σ1, rfl, q2, q3⟩
      | pan v => obtain ⟨v', k, rfl⟩ := q1; exact ⟨σ1, ⟨v', k, rfl⟩, q2, q3⟩
    · cases h
  case loop body =>
    simp only [execL, isOn] at h
    split at h
    · rename_i s1 rc1 hoff e
      have hr := hL.roff _ _ _ _ _ e
      subst hr
      have hg := hL.egrow _ _ _ _ _ _ h
      refine LoopWp.round (wp_mono (hL.off N body _ _ _ _ e σ a w p (hf.left hg.next)).wp fun e1 a1 w1 hq => ?_)
      obtain ⟨σ1, q1, q2, q3⟩ := hq
      cases q1
      have := hL.off N (.loop body) s1 f s' rc' h σ1 a1 w1 q2 (hf.step q3 hg.next)
      intro b k cs
      obtain ⟨e2, a2, w2, h2, h3⟩ := this b k cs
      exact ⟨e2, a2, w2, Post.step q3 h2, h3⟩
    · rename_i hne
      refine LoopWp.round (wp_mono (hL.off N body _ _ _ _ h σ a w p hf).wp fun e1 a1 w1 hq => ?_)
      obtain ⟨σ1, q1, q2, q3⟩ := hq
      exact q1.then (fun e => hne s' rc' (by rw [← e]; exact h)) ⟨σ1, q1, q2, q3⟩
    · cases h
  case exit id =>
    simp only [execL, isOn, Rs.ok.injEq] at h
    obtain ⟨rfl, rfl, rfl⟩ := h
    exact wp_exit ⟨σ, rfl, p, Ext.refl _ _ _⟩
  case ret =>
    simp only [execL, isOn, Rs.ok.injEq] at h
    obtain ⟨rfl, rfl, rfl⟩ := h
    exact wp_ret ⟨σ, rfl, p, Ext.refl _ _ _⟩

theorem exec_on (hmix : P.follows .mixedOrders = true) (hL : LvOk P L) (N : Nat) (c : Code) (s : S) (f : Fl) (s' : S) (r r' : Option AV) (h : execL cx L (compC P N c) s (.on r) = .ok f s' (.on r')) (σ : Ren) (a : Act) (w : World) (c0 : Frame) (cs0 : List Frame) (u : FrameMode)
    (p : Pre N σ s a w) (hu : UR σ r u) (hf : Fresh σ s.h.next s'.h.next) : c.wpS P (PostS N c0 cs0 σ s.h w f s' r') a ({ c0 with mode := u } :: cs0) w := by
  have bad : execL cx L stuckC s (.on r) = .ok f s' (.on r') → False := fun h => by have := exec_stuck h; cases this
  cases c <;> (try simp only [compC] at h) <;> first | exact (bad h).elim | skip
  case skip =>
    simp only [execL, Rs.ok.injEq, Rc.on.injEq] at h
    obtain ⟨rfl, rfl, rfl⟩ := h
    exact wpS_of_wp (wp_skip ⟨σ, u, rfl, hu, rfl, p, Ext.refl _ _ _⟩)
  case label l =>
    simp only [execL, Rs.ok.injEq, Rc.on.injEq] at h
    obtain ⟨rfl, rfl, rfl⟩ := h
    exact wpS_of_wp (wp_label ⟨σ, u, rfl, hu, rfl, p, Ext.refl _ _ _⟩)
  case region id ops draw =>
    cases draw with
    | false =>
      simp only [compC] at h
      split at h
      · rename_i l hl
        have := regS_ok hL.cl c0 cs0 l 0 (compOps_get2 hl) s f s' r r' σ a u w h p hu hf
        refine wpS_region ?_
        rw [List.range_eq_range', ← Array.length_toList, ← compOps_len hl]
        exact this
      · exact (bad h).elim
    | true =>
      simp only [compC] at h
      rcases draw_facts (P := P) (N := N) (ops := ops) with hd | ⟨l, two, hd, _⟩
      · rw [hd] at h; exact (bad h).elim
      · rw [hd] at h
        change drawA L.call (wins l l 0) two s (.on r) = _ at h
        obtain ⟨rfl, hds, hrr⟩ := draw_out h
        simp only [Rc.on.injEq] at hrr
        subst hrr
        exact wpS_of_wp (draw_ok hL.cl.toClOk hmix hd h p.tr p.hr p.sz hf fun σ' a' w' q1 q2 q3 q4 q5 => ⟨σ', u, rfl, hu.mono q2.le, rfl, ⟨q1, q3, q4, by rw [hds, q5]; exact p.ds.mono q2.le⟩, q2⟩)
  case seq x y =>
    simp only [execL] at h
    split at h
    · rename_i s1 rc1 e
      obtain ⟨r1, hr⟩ := hL.ron _ _ _ _ _ _ e
      subst hr
      have hg := hL.egrow _ _ _ _ _ _ h
      refine wpS_seq ?_
      intro b k hb hro
      obtain ⟨e1, a1, cs1, w1, hq, harr⟩ := hL.on N x _ _ _ _ _ e σ a w c0 cs0 u p hu (hf.left hg.next) b k hb hro
      refine ⟨e1, a1, cs1, w1, ?_, harr⟩
      obtain ⟨σ1, u1, rfl, hu1, q1, q2, q3⟩ := hq
      cases q1
      intro b2 k2 hb2 hro2
      obtain ⟨e2, a2, cs2, w2, hq2, harr2⟩ := hL.on N y _ _ _ _ _ h σ1 a1 w1 c0 cs0 u1 q2 hu1 (hf.step q3 hg.next) b2 k2 hb2 hro2
      exact ⟨e2, a2, cs2, w2, PostS.step q3 hq2, harr2⟩
    · rename_i hne
      refine wpS_seq ?_
      intro b k hb hro
      obtain ⟨e1, a1, cs1, w1, hq, harr⟩ := hL.on N x _ _ _ _ _ h σ a w c0 cs0 u p hu hf b k hb hro
      refine ⟨e1, a1, cs1, w1, ?_, harr⟩
      obtain ⟨σ1, u1, q0, hu1, q1, q2, q3⟩ := hq
      exact q1.thenS (fun e => hne s' _ (by rw [← e]; exact h)) ⟨σ1, u1, q0, hu1, q1, q2, q3⟩
  case cond c x y =>
    simp only [execL] at h
    split at h
    · rename_i b hb
      refine wpS_cond (cond_val p.tr hb) ?_
      cases b with
      | true => exact hL.on N x _ _ _ _ _ h σ a w c0 cs0 u p hu hf
      | false => exact hL.on N y _ _ _ _ _ h σ a w c0 cs0 u p hu hf
    · cases h
  all_goals (simp only [execL, isOn] at h; cases h)
end
end Go.Ab
