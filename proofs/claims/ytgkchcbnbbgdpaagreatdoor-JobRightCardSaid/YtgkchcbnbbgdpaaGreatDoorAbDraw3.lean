/- A region that draws: one more operation is done. -/
import Derived.Test.YtgkchcbnbbgdpaaGreatDoorAbDraw2
namespace Go.Ab

theorem kindB {k k' : IntKind} {a b : Int} (h : (match kindEq k k' with | true => decide (a = b) | false => false) = true) : k = k' ∧ a = b := by
  split at h
  · rename_i e; exact ⟨kindEq_iff e, of_decide_eq_true h⟩
  · cases h

theorem sameV_eq : ∀ {a b : AV}, sameV a b = true → a = b := by
  intro a b h
  unfold sameV at h
  split at h <;> first | (cases h; done) | rfl | skip
  · simpa using h
  · obtain ⟨h1, h2⟩ := kindB h; rw [h1, h2]
  · rw [listEq_iff] at h; rw [of_decide_eq_true h]
  · rw [Bool.and_eq_true] at h; rw [Nat.eq_of_beq_eq_true h.1, Nat.eq_of_beq_eq_true h.2]
  · rename_i a1 b1 c1 d1 e1 a2 b2 c2 d2 e2
    simp only [Bool.and_eq_true] at h
    obtain ⟨⟨⟨⟨h1, h2⟩, h3⟩, h4⟩, h5⟩ := h
    have : d1 = d2 := by
      unfold sameN at h4
      split at h4
      · rfl
      · rw [Nat.eq_of_beq_eq_true h4]
      · cases h4
    rw [Nat.eq_of_beq_eq_true h1, Nat.eq_of_beq_eq_true h2, Nat.eq_of_beq_eq_true h3, Nat.eq_of_beq_eq_true h5, this]
  · rw [Nat.eq_of_beq_eq_true h]

theorem sameL_eq : ∀ {a b : List AV}, sameL a b = true → a = b
  | [], [], _ => rfl
  | [], _ :: _, h => by cases h
  | _ :: _, [], h => by cases h
  | x :: r, y :: s, h => by
    simp only [sameL, Bool.and_eq_true] at h
    rw [sameV_eq h.1, sameL_eq h.2]

theorem sameA_eq {a b : AV} (h : sameA a b = true) : a = b := by
  unfold sameA at h
  split at h
  · rw [sameL_eq h]
  · rw [sameL_eq h]
  · exact sameV_eq h

theorem resD_cases {cl : Nat → List AV → H → Cr} {o : CR} {ts : TS} {h h' : H} {v : AV} (e : resD cl o ts h = some (v, h')) : guardOk ts o = true ∧ ((wantedA ts o = false ∧ v = undefA ∧ h' = h) ∨ wantedA ts o = true) := by
  unfold resD at e
  split at e
  · cases e
  · rename_i hg
    refine ⟨hg, ?_⟩
    split at e
    · rename_i hw; injection e with e; injection e with e1 e2; exact .inl ⟨hw, e1.symm, e2.symm⟩
    · rename_i hw; exact .inr hw

theorem resD_val {cl : Nat → List AV → H → Cr} {o : CR} {ts : TS} {h h' : H} {v : AV} (hg : guardOk ts o = true) (hw : wantedA ts o = true) (e : opA ts h o.op = .val v h') : resD cl o ts h = some (v, h') := by
  unfold resD; simp [hg, hw, e]
theorem resD_skip {cl : Nat → List AV → H → Cr} {o : CR} {ts : TS} {h h' : H} (hg : guardOk ts o = true) (hw : wantedA ts o = true) (e : opA ts h o.op = .skip h') : resD cl o ts h = some (undefA, h') := by
  unfold resD; simp [hg, hw, e]
theorem resD_no {cl : Nat → List AV → H → Cr} {o : CR} {ts : TS} {h : H} {q : AV × H} (hw : wantedA ts o = true) (e : opA ts h o.op = .no) : resD cl o ts h ≠ some q := by
  unfold resD
  split
  · intro h; cases h
  · simp [hw, e]
theorem resD_un {cl : Nat → List AV → H → Cr} {o : CR} {ts : TS} {h : H} (hg : guardOk ts o = true) (hw : wantedA ts o = false) : resD cl o ts h = some (undefA, h) := by
  unfold resD; simp [hg, hw]

/-- Two stores into two blocks, in the other order. -/
theorem storeA_swap {h h1 h2 : H} {b o b' o' : Nat} {vs vs' : List AV} (hne : b ≠ b') (e1 : storeA h b o vs = some h1) (e2 : storeA h1 b' o' vs' = some h2) :
    ∃ g g', storeA h b' o' vs' = some g ∧ storeA g b o vs = some g' ∧ (∀ c, g'.get c = h2.get c) ∧ g'.next = h2.next ∧ g.next = h.next ∧ h2.next = h.next := by
  unfold storeA at e1
  split at e1
  · rename_i cs hb
    split at e1
    · rename_i k1 k2
      injection e1 with e1; subst e1
      unfold storeA at e2
      split at e2
      · rename_i cs' hb'
        rw [H.get_put, if_neg (Ne.symm hne)] at hb'
        split at e2
        · rename_i k3 k4
          injection e2 with e2; subst e2
          refine ⟨h.put b' (some (.cells true (splice cs' o' vs'))), (h.put b' (some (.cells true (splice cs' o' vs')))).put b (some (.cells true (splice cs o vs))), ?_, ?_, ?_, rfl, rfl, rfl⟩
          · unfold storeA; simp [hb', k3, k4]
          · unfold storeA; rw [H.get_put, if_neg hne]; simp [hb, k1, k2]
          · intro d
            simp only [H.get_put]
            by_cases q1 : d = b
            · subst q1; simp [hne]
            · by_cases q2 : d = b'
              · subst q2; simp [q1]
              · simp [q1, q2]
        · cases e2
      · cases e2
    · cases e1
  · cases e1

structure Rdy (n : Nat) (C : Nat → DI) (listed : Array Bool) (i : Nat) : Prop where
  lt : i < n
  un : Dn C listed i = false
  bef : ∀ j, (C i).bef.testBit j = true → listed.getD j false = true

section
variable {P : Program} {N : Nat} {ops : Array Oper} {l : List DI} {two : Option (Nat × Nat)} {cl : Nat → List AV → H → Cr} {C : Nat → DI} {S : Nat → TS} {G : Nat → H} {V : Nat → AV}
variable {σ0 : Ren} {w0 : World} {a0 : Act} {listed : Array Bool} {a : Act} {w : World} {σ : Ren} {p : Nat} {g : H} {i : Nat}

theorem Ctx.idx (c : Ctx P N ops l two cl C S G V) {k : Nat} (hk : k < l.length) : (C k).i < ops.size := (Array.getElem?_eq_some_iff.1 (c.df.op _ (c.mem hk)).1).1

theorem Ctx.closed (c : Ctx P N ops l two cl C S G V) (hcl : Closed (befs ops.toList []) listed) {k : Nat} (hk : k < l.length) (hd : Dn C listed k = true) {j : Nat} (hj : (C k).bef.testBit j = true) : listed.getD j false = true :=
  hcl (C k).i (C k).bef (c.df.op _ (c.mem hk)).2.2 hd j hj

theorem Ctx.set (c : Ctx P N ops l two cl C S G V) (hs : listed.size = ops.size) (hi : i < l.length) : Dn C (listed.setIfInBounds (C i).i true) i = true ∧ ∀ k, k < l.length → k ≠ i → Dn C (listed.setIfInBounds (C i).i true) k = Dn C listed k := by
  refine ⟨?_, fun k hk hne => ?_⟩
  · have := c.idx hi
    simp [Dn, Array.getElem_setIfInBounds, hs, this]
  · unfold Dn
    refine getD_set_ne false fun e => ?_
    rcases Nat.lt_or_ge k i with q | q
    · exact (c.pair q hi).2.1 e.symm
    · exact (c.pair (j := i) (k := k) (by omega) hk).2.1 e

theorem Ctx.bits (c : Ctx P N ops l two cl C S G V) (rd : Rdy l.length C listed i) (hcl : Closed (befs ops.toList []) listed) {k : Nat} (hk : k < l.length) :
    ((C i).bef.testBit (C k).i = true → Dn C listed k = true) ∧ ((C k).bef.testBit (C i).i = true → Dn C listed k = false) := by
  refine ⟨fun h => rd.bef _ h, fun h => ?_⟩
  cases e : Dn C listed k with
  | false => rfl
  | true =>
    have h1 : Dn C listed i = true := c.closed hcl hk e h
    rw [rd.un] at h1; cases h1

theorem Ctx.same (c : Ctx P N ops l two cl C S G V) (rd : Rdy l.length C listed i) (hcl : Closed (befs ops.toList []) listed) : SameOn (looksC (C i).c) (foldT (S 0) C V (Dn C listed) l.length) (S i) := by
  intro t ht
  have h1 := foldT_run c.run (k := i) (Nat.le_of_lt rd.lt)
  have h2 := foldT_upto (S0 := S 0) (C := C) (V := V) i l.length
  have h3 : Min.min l.length i = i := by have := rd.lt; omega
  rw [h3, h1] at h2
  rw [← h2]
  refine foldT_agree fun k hk hd => ?_
  rcases Nat.lt_trichotomy k i with q | q | q
  · rcases (c.pair q rd.lt).2.2 with h | ⟨h, _⟩
    · rw [(c.bits rd hcl hk).1 h]; simp [q]
    · exact absurd ht ((apartC_spec h).1 t hd)
  · subst q; rw [rd.un]; simp
  · rcases (c.pair q hk).2.2 with h | ⟨h, _⟩
    · rw [(c.bits rd hcl hk).2 h]; simp; omega
    · exact absurd ht ((apartC_spec h).2.2 t hd)

/-- One more operation is done. -/
theorem Ctx.gen (c : Ctx P N ops l two cl C S G V) (inv : Inv N ops l.length C S G V σ0 w0 a0 listed a w σ p g) (rd : Rdy l.length C listed i) {h h' : H} {σ' : Ren} {w' : World} {v' : Value} {p' : Nat} {g' : H}
    (hv : VR σ' (V i) v') (r' : HR σ' h' w') (e : Ext σ σ' h h' w w') (hsub : ∀ b x, h.get b = some x → Alive G l.length g p (Dn C listed) b x)
    (hrange : ∀ b, h.next ≤ b → b < h'.next → (G i).next ≤ b ∧ b < (G (i + 1)).next) (hlo : (G 0).next ≤ h.next) (hhi : h'.next ≤ (G l.length).next)
    (hp' : p' ≤ l.length) (g1' : g'.next = (G p').next) (gnx' : NX g')
    (hl : Turn σ σ' (Alive G l.length g p (Dn C listed)) (Alive G l.length g' p' (Dn C (listed.setIfInBounds (C i).i true))) h h') :
    Inv N ops l.length C S G V σ0 w0 a0 (listed.setIfInBounds (C i).i true) (a.put (C i).o.dst v') w' σ' p' g' := by
  obtain ⟨s1, s2⟩ := c.set inv.lsz rd.lt
  have hop := c.df.op _ (c.mem rd.lt)
  have hdst := compOp_dst hop.2.1
  refine ⟨by simp [inv.lsz], ?_, hp', g1', gnx', inv.hr.frame hsub e r' hl, inv.xp.frame hsub e hlo hhi hl, fun k hk hd => ?_, ?_, ?_, ?_⟩
  · refine closed_set inv.cls fun m hm j hj => ?_
    rw [hop.2.2] at hm; injection hm with hm; subst hm
    exact rd.bef j hj
  · have hne : k ≠ i := by rintro rfl; rw [s1] at hd; cases hd
    rw [s2 k hk hne] at hd
    intro b hb1 hb2
    rw [e.out b fun hh => ?_]
    · exact inv.un k hk hd b hb1 hb2
    · obtain ⟨q1, q2⟩ := hrange b hh.1 hh.2
      have := rd.lt
      rcases Nat.lt_or_ge k i with q | q
      · have := (c.grow (j := k + 1) (k := i) q (by omega)).next; omega
      · have := (c.grow (j := i + 1) (k := k) (by omega) (by omega)).next; omega
  · intro t v hget
    rw [foldT_set s1 rd.un rd.lt s2 (fun k h1 h2 h3 h4 => ?_)] at hget
    · rw [hdst.1] at hget
      exact (inv.tr.mono e.le).put (dst := (C i).o.dst) hv (by rw [inv.tsz]; exact hdst.2.1) t v hget
    · rcases (c.pair h1 h2).2.2 with q | ⟨q, _⟩
      · exact (c.bits rd inv.cls h2).2 q
      · exact absurd (h3.trans h4) ((apartC_spec q).2.1 _ h4)
  · rw [Act.size_put]; exact inv.tsz
  · rw [← inv.ads]; cases (C i).o.dst <;> rfl
end
end Go.Ab
