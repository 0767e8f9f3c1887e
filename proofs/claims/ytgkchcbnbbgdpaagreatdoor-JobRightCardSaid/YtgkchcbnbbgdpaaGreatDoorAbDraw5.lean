/- A region that draws: what acts; the whole. -/
import Derived.Test.YtgkchcbnbbgdpaaGreatDoorAbDraw4
namespace Go.Ab
theorem isStore_inv {x : CR} (h : isStore x = true) : x.guard = none ∧ ∃ s a z, x.op = .store s a z := by
  unfold isStore at h
  rw [Bool.and_eq_true] at h
  refine ⟨by simpa using h.2, ?_⟩
  have h1 := h.1
  split at h1
  · rename_i s a z e; exact ⟨s, a, z, e⟩
  · cases h1

section
variable {P : Program} {N : Nat} {ops : Array Oper} {l : List DI} {two : Option (Nat × Nat)} {cl : Nat → List AV → H → Cr} {C : Nat → DI} {S : Nat → TS} {G : Nat → H} {V : Nat → AV}
variable {σ0 : Ren} {w0 : World} {a0 : Act} {listed : Array Bool} {a : Act} {w : World} {σ : Ren} {p : Nat} {g : H} {i : Nat} {Q : Exit → Act → World → Prop}

/-- What acts, in its turn. -/
theorem Ctx.act (c : Ctx P N ops l two cl C S G V) (inv : Inv N ops l.length C S G V σ0 w0 a0 listed a w σ p g) (rd : Rdy l.length C listed p) (hact : isActs (C p).c = true)
    (hA : CaseA l.length C G (Dn C listed) p g) :
    wpOp P ops Q (C p).i (Good P N ops l two cl C S G V σ0 w0 a0 (listed.setIfInBounds (C p).i true)) a w := by
  obtain ⟨e1, e2, e3, e4⟩ := hA
  subst e1
  have hop := c.df.op _ (c.mem rd.lt)
  obtain ⟨s1, s2⟩ := c.set inv.lsz rd.lt
  have hun := inv.un p rd.lt rd.un
  obtain ⟨p', p1, p2, p3, p4⟩ := c.nextAct (l.length - (p + 1)) (p + 1) (by have := rd.lt; omega)
  have g1 := c.grow1 rd.lt
  refine do_op c.ok inv.tr (c.same rd inv.cls) (c.subHR inv (h := G p) (fun b x h => h) rfl) hop.1 hop.2.1 (c.run.res p rd.lt) hun fun σ' v' w' k1 k2 k3 => ?_
  refine ⟨σ', p', G p', c.gen inv rd k1 k2 k3 (fun b x hb => .inl hb) (fun b h1 h2 => ⟨h1, h2⟩) (c.grow (Nat.zero_le p) (Nat.le_of_lt rd.lt)).next (c.grow (j := p + 1) rd.lt (Nat.le_refl _)).next p2 rfl (c.nx p2) ?_, .inl ⟨rfl, p3, fun k hk ha => ?_, fun k hk hl ha => ?_⟩⟩
  · intro b x L hAl hL
    have pend : ∀ m, p + 1 ≤ m → m < l.length → b = (G m).next → G (m + 1) = (G m).new x → (Alive G l.length (G p) p (Dn C listed) b x ∧ (G p).get b = none ∧ σ b = some L) := by
      intro m m1 m2 m4 m5
      have h1 := (c.grow m1 (Nat.le_of_lt m2)).next
      have hout : σ' b = σ b := k3.out b (fun hh => by omega)
      rw [hout] at hL
      have hD : Dn C listed m = true := by
        cases e : Dn C listed m with
        | true => rfl
        | false =>
          have := inv.un m m2 e b (by omega) (by rw [m5, H.next_new]; omega)
          rw [this] at hL; cases hL
      refine ⟨.inr ⟨m, by omega, m2, hD, m4, m5⟩, ?_, hL⟩
      cases hb : (G p).get b with
      | none => rfl
      | some y =>
        have h2 := c.nx (Nat.le_of_lt rd.lt) b y hb
        have h3 := g1.next
        omega
    rcases hAl with hg | ⟨m, m1, m2, m3, m4, m5⟩
    · rcases (c.chain p1 p2 p4 b x).1 hg with q | ⟨m, m1, m2, m4, m5⟩
      · exact .inl q
      · exact .inr (pend m m1 (by omega) m4 m5)
    · exact .inr (pend m (by omega) m2 m4 m5)
  · by_cases e : k = p
    · subst e; exact s1
    · rw [s2 k (by omega) e]
      rcases Nat.lt_or_ge k p with q | q
      · exact e3 k q ha
      · have := p4 k (by omega) hk; rw [this] at ha; cases ha
  · rw [s2 k hl (by omega)]
    exact e4 k (by omega) hl ha

/-- The last two that Ctx.act c, the latter first. -/
theorem Ctx.swap (c : Ctx P N ops l two cl C S G V) (inv : Inv N ops l.length C S G V σ0 w0 a0 listed a w σ p g) (rd : Rdy l.length C listed i) (hact : isActs (C i).c = true) (hpi : p < i) (hp : p < l.length) (hD : Dn C listed p = false)
    (hg : g = G p) (htwo : two = some (p, i)) (hpact : isActs (C p).c = true) :
    wpOp P ops Q (C i).i (Good P N ops l two cl C S G V σ0 w0 a0 (listed.setIfInBounds (C i).i true)) a w := by
  subst hg
  have hop := c.df.op _ (c.mem rd.lt)
  obtain ⟨s1, s2⟩ := c.set inv.lsz rd.lt
  have hchk := c.df.two
  rw [htwo] at hchk
  simp only [twoChk, c.run.get p hp, c.run.get i rd.lt, Bool.and_eq_true] at hchk
  obtain ⟨⟨⟨_, h1⟩, h2⟩, h3⟩ := hchk
  have hrest : ∀ m, m < l.length → isPure (C m).c = true ∨ m = p ∨ m = i ∨ ((C p).bef.testBit (C m).i = true ∧ (C i).bef.testBit (C m).i = true) := by
    intro m hm
    have := all1_spec h3 m (C m) (c.run.get m hm)
    simp only [restOk, Bool.or_eq_true, Bool.and_eq_true, Nat.zero_add] at this
    rcases this with ((q | q) | q) | q
    · exact .inl q
    · exact .inr (.inl (Nat.eq_of_beq_eq_true q))
    · exact .inr (.inr (.inl (Nat.eq_of_beq_eq_true q)))
    · exact .inr (.inr (.inr q))
  have hpure : ∀ m, p < m → m < l.length → m ≠ i → G (m + 1) = G m := by
    intro m hm hl hne
    have hp1 : isPure (C m).c = true := by
      rcases hrest m hl with q | q | q | ⟨q, _⟩
      · exact q
      · omega
      · exact absurd q hne
      · rw [(c.pair hm hl).1] at q; cases q
    have hcl : (C m).c.op.cl = .pure := by
      unfold isPure at hp1; split at hp1
      · assumption
      · cases hp1
    rcases c.heap hl (by simp [isActs, hcl]) with q | ⟨x, _, q, _⟩
    · exact q
    · simp [isMakes, hcl] at q
  have hflat : ∀ d j, p < j → j + d ≤ i → G (j + d) = G j := by
    intro d
    induction d with
    | zero => intro j _ _; rfl
    | succ d ih => intro j a b; rw [← ih j a (by omega)]; exact hpure (j + d) (by omega) (by have := rd.lt; omega) (by omega)
  have hflat2 : ∀ d, i + 1 + d ≤ l.length → G (i + 1 + d) = G (i + 1) := by
    intro d
    induction d with
    | zero => intro _; rfl
    | succ d ih => intro b; rw [← ih (by omega)]; exact hpure (i + 1 + d) (by omega) (by omega) (by omega)
  have hGi : G i = G (p + 1) := by
    have := hflat (i - (p + 1)) (p + 1) (by omega) (by omega)
    rwa [show p + 1 + (i - (p + 1)) = i by omega] at this
  have hGn : G l.length = G (i + 1) := by
    have := hflat2 (l.length - (i + 1)) (by have := rd.lt; omega)
    rwa [show i + 1 + (l.length - (i + 1)) = l.length by have := rd.lt; omega] at this
  obtain ⟨b, b', o, o', s, s', x, x', z, z', t1, t2, t3, t4, t5⟩ := c.two p i htwo
  obtain ⟨gd1, _⟩ := isStore_inv h1
  obtain ⟨gd2, _⟩ := isStore_inv h2
  have hw1 : wantedA (S p) (C p).c = true := by simp [wantedA, gd1]
  have hw2 : wantedA (S i) (C i).c = true := by simp [wantedA, gd2]
  have hk1 : guardOk (S p) (C p).c = true := by simp [guardOk, gd1]
  have hk2 : guardOk (S i) (C i).c = true := by simp [guardOk, gd2]
  -- the two stores, as they stand
  have r1 := c.run.res p hp
  have r2 := c.run.res i rd.lt
  have st1 : Nat.beq (evA (S p) z).cells.length s = true ∧ storeA (G p) b o (evA (S p) z).cells = some (G (p + 1)) ∧ V p = undefA := by
    cases e1 : Nat.beq (evA (S p) z).cells.length s with
    | false => exact absurd r1 (resD_no hw1 (by simp [t1, opA, oStore, t2, e1]))
    | true =>
      cases e2 : storeA (G p) b o (evA (S p) z).cells with
      | none => exact absurd r1 (resD_no hw1 (by simp [t1, opA, oStore, t2, e1, e2]))
      | some h' =>
        have := resD_skip (cl := cl) (h := G p) (h' := h') hk1 hw1 (by simp [t1, opA, oStore, t2, e1, e2])
        rw [this] at r1; injection r1 with r1; injection r1 with q1 q2
        exact ⟨rfl, by rw [q2], q1.symm⟩
  have st2 : Nat.beq (evA (S i) z').cells.length s' = true ∧ storeA (G i) b' o' (evA (S i) z').cells = some (G (i + 1)) ∧ V i = undefA := by
    cases e1 : Nat.beq (evA (S i) z').cells.length s' with
    | false => exact absurd r2 (resD_no hw2 (by simp [t3, opA, oStore, t4, e1]))
    | true =>
      cases e2 : storeA (G i) b' o' (evA (S i) z').cells with
      | none => exact absurd r2 (resD_no hw2 (by simp [t3, opA, oStore, t4, e1, e2]))
      | some h' =>
        have := resD_skip (cl := cl) (h := G i) (h' := h') hk2 hw2 (by simp [t3, opA, oStore, t4, e1, e2])
        rw [this] at r2; injection r2 with r2; injection r2 with q1 q2
        exact ⟨rfl, by rw [q2], q1.symm⟩
  obtain ⟨u1, u2, u3⟩ := st1
  obtain ⟨v1, v2, v3⟩ := st2
  rw [hGi] at v2
  obtain ⟨g2, g3, k1, k2, k3, k4, k5, k6⟩ := storeA_swap t5 u2 v2
  have hres : resD cl (C i).c (S i) (G p) = some (V i, g2) := by
    rw [v3]; exact resD_skip hk2 hw2 (by simp [t3, opA, oStore, t4, v1, k1])
  have hres2 : resD cl (C p).c (S p) g2 = some (V p, g3) := by
    rw [u3]; exact resD_skip hk1 hw1 (by simp [t1, opA, oStore, t2, u1, k2])
  have hn : g2.next = (G l.length).next := by rw [k5, hGn, k6]
  refine do_op c.ok inv.tr (c.same rd inv.cls) (c.subHR inv (h := G p) (fun b x h => h) rfl) hop.1 hop.2.1 hres (fun b q1 q2 => by omega) fun σ' v' w' m1 m2 m3 => ?_
  refine ⟨σ', l.length, g2, c.gen inv rd m1 m2 m3 (fun b x hb => .inl hb) (fun b q1 q2 => by omega) (c.grow (Nat.zero_le p) (Nat.le_of_lt hp)).next (Nat.le_of_eq hn) (Nat.le_refl _) hn (storeA_grow k1 |>.nx (c.nx (Nat.le_of_lt hp))) ?_, .inr ⟨p, i, htwo, hp, hpact, rfl, ?_, fun m hm hnp hne => ?_, g3, hres2, fun b => by rw [hGn]; exact k3 b, by rw [hGn]; exact k4⟩⟩
  · rintro b x L (hg | ⟨m, q1, q2, _⟩) hL
    · exact .inl hg
    · omega
  · rw [s2 p hp (by omega)]; exact hD
  · by_cases e : m = i
    · subst e; exact s1
    · rw [s2 m hm e]
      rcases hrest m hm with q | q | q | ⟨_, q⟩
      · rw [q] at hnp; cases hnp
      · exact absurd q hne
      · exact absurd q e
      · exact (c.bits rd inv.cls hm).1 q

/-- One more operation, whichever it is. -/
theorem Ctx.step (c : Ctx P N ops l two cl C S G V) (inv : Inv N ops l.length C S G V σ0 w0 a0 listed a w σ p g) (hc : CaseA l.length C G (Dn C listed) p g ∨ CaseB l.length two cl C S G V (Dn C listed) p g) (rd : Rdy l.length C listed i) :
    wpOp P ops Q (C i).i (Good P N ops l two cl C S G V σ0 w0 a0 (listed.setIfInBounds (C i).i true)) a w := by
  have hop := c.df.op _ (c.mem rd.lt)
  obtain ⟨s1, s2⟩ := c.set inv.lsz rd.lt
  have hres := c.run.res i rd.lt
  cases hact : isActs (C i).c with
  | true =>
    rcases hc with hA | ⟨j, k, h1, h2, h3, h4, h5, h6, g', h7, h8, h9⟩
    · by_cases e : i = p
      · subst e; exact c.act inv rd hact hA
      · obtain ⟨e1, e2, e3, e4⟩ := hA
        have hpi : p < i := by
          rcases Nat.lt_or_ge i p with q | q
          · have := e3 i q hact; rw [rd.un] at this; cases this
          · omega
        have hp : p < l.length := Nat.lt_trans hpi rd.lt
        have hD := e4 p (Nat.le_refl _) hp (e2 hp)
        rcases (c.pair hpi rd.lt).2.2 with q | ⟨_, q, _⟩
        · have := (c.bits rd inv.cls hp).1 q; rw [hD] at this; cases this
        · rcases q with q | q
          · rw [e2 hp, hact] at q; cases q
          · have htwo : two = some (p, i) := by
              unfold isTwo at q
              split at q
              · rw [Bool.and_eq_true] at q
                rw [Nat.eq_of_beq_eq_true q.1, Nat.eq_of_beq_eq_true q.2]
              · cases q
            exact c.swap inv rd hact hpi hp hD e1 htwo (e2 hp)
    · by_cases e : i = j
      · subst e
        refine do_op c.ok inv.tr (c.same rd inv.cls) (c.subHR inv (h := g) (fun b x h => h) rfl) hop.1 hop.2.1 h7 (fun b q1 q2 => ?_) fun σ' v' w' m1 m2 m3 => ?_
        · rw [inv.g1, h4] at q1; omega
        · have hgn : g.next = (G l.length).next := by rw [inv.g1, h4]
          refine ⟨σ', l.length, G l.length, c.gen inv rd m1 m2 m3 (fun b x hb => .inl hb) (fun b q1 q2 => by omega) ?_ (by omega) (Nat.le_refl _) rfl (c.nx (Nat.le_refl _)) ?_, .inl ⟨rfl, fun q => by omega, fun m hm ha => ?_, fun m q1 q2 => by omega⟩⟩
          · rw [hgn]; exact (c.grow (Nat.zero_le _) (Nat.le_refl _)).next
          · rintro b x L (hg | ⟨m, q1, q2, _⟩) hL
            · exact .inl (by rw [h8]; exact hg)
            · omega
          · by_cases q : m = i
            · subst q; exact s1
            · rw [s2 m hm q]
              refine h6 m hm ?_ q
              cases hp1 : isPure (C m).c with
              | false => rfl
              | true =>
                unfold isPure at hp1; unfold isActs at ha
                split at hp1
                · rename_i e; rw [e] at ha; cases ha
                · cases hp1
      · have : Dn C listed i = true := by
          refine h6 i rd.lt ?_ e
          cases hp1 : isPure (C i).c with
          | false => rfl
          | true =>
            unfold isPure at hp1; unfold isActs at hact
            split at hp1
            · rename_i e; rw [e] at hact; cases hact
            · cases hp1
        rw [rd.un] at this; cases this
  | false =>
    have fin : ∀ {a' w'}, (∃ σ', Inv N ops l.length C S G V σ0 w0 a0 (listed.setIfInBounds (C i).i true) a' w' σ' p g) → Good P N ops l two cl C S G V σ0 w0 a0 (listed.setIfInBounds (C i).i true) a' w' := by
      rintro a' w' ⟨σ', hi⟩
      exact ⟨σ', p, g, hi, c.stay rd inv.lsz hact hc inv.hp⟩
    have caseA : isPure (C i).c = false → CaseA l.length C G (Dn C listed) p g := by
      intro hnp
      rcases hc with hA | ⟨j, k, h1, h2, h3, h4, h5, h6, h7⟩
      · exact hA
      · have : Dn C listed i = true := h6 i rd.lt hnp (by rintro rfl; rw [hact] at h3; cases h3)
        rw [rd.un] at this; cases this
    obtain ⟨hgd, hw⟩ := resD_cases hres
    have hb := c.df.nobar _ (c.mem rd.lt)
    rcases hw with ⟨hw, hv, hh⟩ | hw
    · exact wpOp_mono (fun _ _ => fin) (c.still inv rd hh (h := g) (fun b x h => h) rfl (resD_un hgd hw) hv.symm)
    · cases hcl : (C i).c.op.cl with
      | pure =>
        rcases pure_cls hcl (S i) (G i) with ⟨v, hv⟩ | hv
        · have h1 := resD_val (cl := cl) hgd hw (hv (G i))
          rw [h1] at hres; injection hres with e; injection e with e1 e2
          exact wpOp_mono (fun _ _ => fin) (c.still inv rd e2.symm (h := g) (fun b x h => h) rfl (resD_val hgd hw (hv g)) e1)
        · exact absurd hres (resD_no hw hv)
      | reads =>
        have hr : isReads (C i).c = true := by simp [isReads, hcl]
        have hA := caseA (by simp [isPure, hcl])
        obtain ⟨q, v', h', q1, q2, q3, q4⟩ := c.readAt inv rd hact hr hw hA
        have hsub := c.subG inv hA.1 q1 q2
        have hst : G (i + 1) = G i := by
          rcases c.heap rd.lt hact with h | ⟨x, _, h, _⟩
          · exact h
          · simp [isMakes, hcl] at h
        rcases reads_cls hcl (S i) (G q) with ⟨v, hv⟩ | hv
        · have h1 := hv (G q).next
          change opA (S i) (G q) (C i).c.op = .val v (G q) at h1
          rw [q3] at h1; injection h1 with e1 e2
          subst e1
          exact wpOp_mono (fun _ _ => fin) (c.still inv rd hst (h := ⟨g.next, (G q).m⟩) (fun b x h => hsub b x h) rfl (resD_val hgd hw (hv g.next)) q4)
        · rw [hv] at q3; cases q3
      | makes =>
        have hA := caseA (by simp [isPure, hcl])
        rcases c.heap rd.lt hact with h | ⟨x, h1, h2, h3⟩
        · rcases makes_cls hcl (S i) (G i) with ⟨v, x, hv⟩ | hv
          · have h1 := hv (G i).m
            change opA (S i) (G i) (C i).c.op = .val v ((G i).new x) at h1
            have h2 := resD_val (cl := cl) hgd hw h1
            rw [h2, h] at hres; injection hres with e; injection e with e1 e2
            have := congrArg H.next e2; rw [H.next_new] at this; omega
          · exact absurd hres (resD_no hw hv)
        · exact wpOp_mono (fun _ _ => fin) (c.make inv rd hact h1 h2 h3 hA)
      | acts => simp [isActs, hcl] at hact
      | bars => exact absurd hcl hb
end
end Go.Ab
