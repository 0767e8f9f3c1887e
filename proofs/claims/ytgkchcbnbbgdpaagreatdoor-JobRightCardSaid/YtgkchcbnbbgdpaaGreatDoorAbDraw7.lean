/- A region that draws its order: the theorem. -/
import Derived.Test.YtgkchcbnbbgdpaaGreatDoorAbDraw6
namespace Go.Ab

theorem blockAt_inv {ops : List CR} {tr : List (TS × H)} {i b : Nat} (h : blockAt ops tr i = some b) : ∃ o ts hh s x z off, ops[i]? = some o ∧ tr[i]? = some (ts, hh) ∧ o.op = .store s x z ∧ evA ts x = .ptr b off := by
  unfold blockAt at h
  split at h
  · rename_i o ts hh e1 e2
    split at h
    · rename_i s x z e3
      split at h
      · rename_i b' off e4
        injection h with h; subst h
        exact ⟨o, ts, hh, s, x, z, off, e1, e2, e3, e4⟩
      · cases h
    · cases h
  · cases h

theorem draw_ctx {P : Program} {N : Nat} {ops : Array Oper} {l : List DI} {two : Option (Nat × Nat)} {cl : Nat → List AV → H → Cr} (hcl : ClOk P cl) (df : DF P N ops l two) {s : S} {tr : List (TS × H)}
    (htr : traceD cl (wins l l 0) s.ts s.h = some tr) (hheld : heldD tr (wins l l 0) tr = true) (htwo : twoOk (wins l l 0) tr two = true) (hnx : NX s.h) :
    ∃ C S G V, Ctx P N ops l two cl C S G V ∧ S 0 = s.ts ∧ G 0 = s.h ∧ tr.getLast? = some (S l.length, G l.length) := by
  obtain ⟨t1, t2, t3⟩ := traceD_run _ _ _ _ htr
  rw [wins_len] at t1
  let C : Nat → DI := fun k => l.getD k ⟨default, ⟨none, bad, none, []⟩, 0, 0⟩
  let S : Nat → TS := fun k => (tr.getD k (.leaf, ⟨0, .leaf⟩)).1
  let G : Nat → H := fun k => (tr.getD k (.leaf, ⟨0, .leaf⟩)).2
  let V : Nat → AV := fun k => match resD cl (C k).c (S k) (G k) with | some (v, _) => v | none => .any
  have hC : ∀ k, k < l.length → l[k]? = some (C k) := by
    intro k hk
    simp [C, List.getD_eq_getElem?_getD, List.getElem?_eq_getElem hk]
  have hT : ∀ k p, tr[k]? = some p → S k = p.1 ∧ G k = p.2 := by
    intro k p hp
    simp [S, G, List.getD_eq_getElem?_getD, hp]
  have hW : ∀ k, k < l.length → (wins l l 0)[k]? = some { (C k).c with win := winOf (C k) k l 0 } := by
    intro k hk
    rw [wins_get, hC k hk]; simp
  have hR : ∀ k, k < l.length → resD cl (C k).c (S k) (G k) = some (V k, G (k + 1)) ∧ S (k + 1) = putT (S k) (C k).c.dst (V k) ∧ tr[k]? = some (S k, G k) := by
    intro k hk
    obtain ⟨ts, h, v, h', q1, q2, q3⟩ := t3 k _ (hW k hk)
    obtain ⟨a1, a2⟩ := hT k _ q1
    obtain ⟨b1, b2⟩ := hT (k + 1) _ q2
    simp only at a1 a2 b1 b2
    change resD cl (C k).c ts h = some (v, h') at q3
    rw [← a1, ← a2] at q3
    have hv : V k = v := by simp only [V, q3]
    refine ⟨by rw [q3, hv, b2], by rw [b1, hv, a1], by rw [q1, a1, a2]⟩
  have hS0 := hT 0 _ t2
  refine ⟨C, S, G, V, ⟨df, ⟨hC, fun k hk => (hR k hk).1, fun k hk => (hR k hk).2.1⟩, hcl, ?_, ?_, by rw [hS0.2]; exact hnx⟩, hS0.1, hS0.2, ?_⟩
  · intro k hk hr hw q hq hql
    have h1 := heldD_spec _ _ hheld k _ _ _ (hW k hk) (hR k hk).2.2
    unfold held1 at h1
    cases hwin : winOf (C k) k l 0 with
    | nil => rw [hwin] at hq; cases hq
    | cons q0 qs =>
      have hr' : isReads { (C k).c with win := winOf (C k) k l 0 } = true := hr
      have hw' : wantedA (S k) { (C k).c with win := winOf (C k) k l 0 } = true := hw
      rw [hr', hw'] at h1
      simp only [hwin] at h1
      split at h1
      · rename_i v h' e
        obtain ⟨p, v', h'', e1, e2, e3⟩ := holdsAt_spec _ h1 q (by rw [← hwin]; exact hq)
        have hp := hT q p e1
        rw [← hp.2] at e2
        have hval := resD_val (cl := cl) (resD_cases (hR k hk).1).1 hw e
        rw [(hR k hk).1] at hval
        injection hval with hval; injection hval with e4 e5
        exact ⟨v', h'', e2, by rw [e4]; exact e3⟩
      · cases h1
  · intro j k hjk
    subst hjk
    simp only [twoOk] at htwo
    split at htwo
    · rename_i b b' e1 e2
      obtain ⟨o, ts, hh, s1, x, z, off, q1, q2, q3, q4⟩ := blockAt_inv e1
      obtain ⟨o', ts', hh', s1', x', z', off', r1, r2, r3, r4⟩ := blockAt_inv e2
      have hlt : ∀ {i : Nat} {o : CR}, (wins l l 0)[i]? = some o → i < l.length := by
        intro i o ho
        rcases Nat.lt_or_ge i l.length with q | q
        · exact q
        · rw [List.getElem?_eq_none (by rw [wins_len]; exact q)] at ho; cases ho
      have hj := hlt q1
      have hk := hlt r1
      rw [hW j hj] at q1; injection q1 with q1
      rw [hW k hk] at r1; injection r1 with r1
      refine ⟨b, b', off, off', s1, s1', x, x', z, z', by rw [← q1] at q3; exact q3, by rw [(hT j _ q2).1]; exact q4, by rw [← r1] at r3; exact r3, by rw [(hT k _ r2).1]; exact r4, ?_⟩
      rintro rfl
      simp [Nat.beq_refl] at htwo
    · cases htwo
  · rw [List.getLast?_eq_getElem?, t1]
    simp only [Nat.add_sub_cancel]
    have hlt : l.length < tr.length := by omega
    rw [List.getElem?_eq_getElem hlt]
    have := hT l.length _ (List.getElem?_eq_getElem hlt)
    rw [this.1, this.2]

theorem draw_ok {P : Program} {N : Nat} {ops : Array Oper} {cs : List CR} {two : Option (Nat × Nat)} {cl : Nat → List AV → H → Cr} (hcl : ClOk P cl) (hmix : P.follows .mixedOrders = true) (hd : compDraw P N ops = .draw cs two)
    {s s' : S} {rc rc' : Rc} {f : Fl} (hrun : drawA cl cs two s rc = .ok f s' rc') {σ : Ren} {a : Act} {w : World} (htr : TR σ s.ts a.tmps) (hr : HR σ s.h w) (hN : a.tmps.size = N) (hf : Fresh σ s.h.next s'.h.next)
    {Q : Exit → Act → World → Prop} {id : Nat}
    (hQ : ∀ σ' a' w', HR σ' s'.h w' → Ext σ σ' s.h s'.h w w' → TR σ' s'.ts a'.tmps → a'.tmps.size = N → a'.defers = a.defers → Q .normal a' w') : (Code.region id ops true).wp P Q a w := by
  rcases draw_facts (P := P) (N := N) (ops := ops) with h | ⟨l, two', h1, df⟩
  · rw [hd] at h; cases h
  · rw [hd] at h1
    injection h1 with e1 e2
    subst e1; subst e2
    unfold drawA at hrun
    split at hrun
    · rename_i tr htrace
      split at hrun
      · rename_i ts h k1 k2 k3
        injection hrun with q1 q2 q3
        subst q2
        have hnx : NX s.h := fun b x hb => hr.nx b (by simp [hb])
        obtain ⟨C, S, G, V, c, z1, z2, z3⟩ := draw_ctx hcl df htrace k1 k2 hnx
        rw [k3] at z3
        injection z3 with z3
        injection z3 with z4 z5
        simp only at hf hQ
        rw [z5] at hf
        rw [z4, z5] at hQ
        rw [← z2] at hf hQ hr
        rw [← z1] at htr
        refine wp_region_any hmix (c.any (σ0 := σ) (w0 := w) (a0 := a) hf (fun σ' a' w' m1 m2 m3 m4 m5 => hQ σ' a' w' m1 m2 m3 m4 m5) ops.size _ a _ ?_ ?_)
        · have : ∀ n, cnt (Array.replicate ops.size false) n ≤ n := by
            intro n
            induction n with
            | zero => exact Nat.le_refl _
            | succ n ih => simp only [cnt]; split <;> omega
          exact this _
        · have hD : ∀ k, Dn C (Array.replicate ops.size false) k = false := by
            intro k
            simp [Dn, Array.getD_eq_getD_getElem?, Array.getElem?_replicate]
            split <;> rfl
          obtain ⟨p, p1, p2, p3, p4⟩ := c.nextAct l.length 0 (by omega)
          have hle : ∀ k, k ≤ l.length → (G 0).next ≤ (G k).next := fun k hk => (c.grow (Nat.zero_le k) hk).next
          have hlive : ∀ b x L, Alive G l.length (G p) p (Dn C (Array.replicate ops.size false)) b x → σ b = some L → (G 0).get b = some x := by
            rintro b x L (hg | ⟨m, m1, m2, m3, _⟩) hL
            · rcases (c.chain p1 p2 p4 b x).1 hg with q | ⟨m, m1, m2, m3, m4⟩
              · exact q
              · have q1 := hle m (by omega)
                have q2 := c.nextNe (m := m) (k := l.length) (by omega) (Nat.le_refl _) m4
                have := hf b (by omega) (by omega)
                rw [this] at hL; cases hL
            · rw [hD m] at m3; cases m3
          have hturn : Turn σ σ (fun b x => (G 0).get b = some x) (Alive G l.length (G p) p (Dn C (Array.replicate ops.size false))) (G 0) (G 0) := fun b x L hA hL => .inl (hlive b x L hA hL)
          have hr' : HR σ (G 0) w.drew := hr.drew
          refine ⟨σ, p, G p, ⟨by simp, ?_, p2, rfl, c.nx p2, (HRP.of hr').frame (fun b x h => h) (Ext.refl σ (G 0) w.drew) hr' hturn, (XP.start Ext.drew).frame (fun b x h => h) (Ext.refl σ (G 0) w.drew) (Nat.le_refl _) (hle _ (Nat.le_refl _)) hturn, ?_, ?_, hN, rfl⟩, .inl ⟨rfl, p3, fun k hk ha => ?_, fun k hk hl ha => hD k⟩⟩
          · intro i m hm hi
            simp [Array.getD_eq_getD_getElem?, Array.getElem?_replicate] at hi
            split at hi <;> cases hi
          · intro k hk _ b b1 b2
            have q1 := hle k (by omega)
            have q2 := (c.grow (j := k + 1) (k := l.length) hk (Nat.le_refl _)).next
            exact hf b (by omega) (by omega)
          · intro t v ht
            have q := foldT_upto (S0 := S 0) (C := C) (V := V) 0 l.length
            rw [Nat.min_zero] at q
            rw [foldT_agree (D' := fun k => decide (k < 0)) (fun k hk _ => by rw [hD k]; simp), q] at ht
            exact htr t v ht
          · have := p4 k (Nat.zero_le k) hk; rw [this] at ha; cases ha
      · cases hrun
    · cases hrun

theorem draw_out {cl : Nat → List AV → H → Cr} {cs : List CR} {two : Option (Nat × Nat)} {s s' : S} {rc rc' : Rc} {f : Fl} (hrun : drawA cl cs two s rc = .ok f s' rc') : f = .norm ∧ s'.ds = s.ds ∧ rc' = rc := by
  unfold drawA at hrun
  split at hrun
  · split at hrun
    · injection hrun with q1 q2 q3; subst q2; exact ⟨q1.symm, rfl, q3.symm⟩
    · cases hrun
  · cases hrun
end Go.Ab
