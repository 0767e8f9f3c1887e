/- A region that draws: one more operation, whichever it is. -/
import Derived.Test.YtgkchcbnbbgdpaaGreatDoorAbDraw3
namespace Go.Ab

theorem HR.empty {σ : Ren} {A : Nat → Bk → Prop} {w : World} (r : HRP σ A w) (n : Nat) : HR σ ⟨n, .leaf⟩ w :=
  ⟨r.bnd, fun b x L h _ => (by simp [H.get, Tr.get] at h), fun b b' L L' _ _ h _ _ => (by simp [H.get, Tr.get] at h), fun b h => (by simp [H.get, Tr.get] at h)⟩

theorem new_inj {h : H} {x y : Bk} (e : h.new x = h.new y) : x = y := by
  have := congrArg (fun g => H.get g h.next) e
  simpa [H.get_new] using this

section
variable {P : Program} {N : Nat} {ops : Array Oper} {l : List DI} {two : Option (Nat × Nat)} {cl : Nat → List AV → H → Cr} {C : Nat → DI} {S : Nat → TS} {G : Nat → H} {V : Nat → AV}
variable {σ0 : Ren} {w0 : World} {a0 : Act} {listed : Array Bool} {a : Act} {w : World} {σ : Ren} {p : Nat} {g : H} {i : Nat} {Q : Exit → Act → World → Prop}

/-- What is known behind a step. -/
def Good (P : Program) (N : Nat) (ops : Array Oper) (l : List DI) (two : Option (Nat × Nat)) (cl : Nat → List AV → H → Cr) (C : Nat → DI) (S : Nat → TS) (G : Nat → H) (V : Nat → AV) (σ0 : Ren) (w0 : World) (a0 : Act) (listed : Array Bool) (a : Act) (w : World) : Prop :=
  ∃ σ p g, Inv N ops l.length C S G V σ0 w0 a0 listed a w σ p g ∧ (CaseA l.length C G (Dn C listed) p g ∨ CaseB l.length two cl C S G V (Dn C listed) p g)

theorem Ctx.subHR (c : Ctx P N ops l two cl C S G V) (inv : Inv N ops l.length C S G V σ0 w0 a0 listed a w σ p g) {h : H} (hs : ∀ b x, h.get b = some x → g.get b = some x) (hn : h.next = g.next) : HR σ h w :=
  inv.hr.to (fun b x hb => .inl (hs b x hb)) (fun b x hb => by rw [hn]; exact inv.gnx b x (hs b x hb))

theorem Ctx.nextNe (c : Ctx P N ops l two cl C S G V) {m k : Nat} {y : Bk} (hm : m < k) (hk : k ≤ l.length) (he : G (m + 1) = (G m).new y) : (G m).next < (G k).next := by
  have h1 := (c.grow (j := m + 1) (k := k) hm hk).next
  rw [he, H.next_new] at h1; omega

/-- A step on a part of the heap, at which nothing is made. -/
theorem Ctx.still (c : Ctx P N ops l two cl C S G V) (inv : Inv N ops l.length C S G V σ0 w0 a0 listed a w σ p g) (rd : Rdy l.length C listed i) (he : G (i + 1) = G i) {h : H} (hs : ∀ b x, h.get b = some x → g.get b = some x) (hn : h.next = g.next)
    {v : AV} (hres : resD cl (C i).c (S i) h = some (v, h)) (hv : v = V i) :
    wpOp P ops Q (C i).i (fun a' w' => ∃ σ', Inv N ops l.length C S G V σ0 w0 a0 (listed.setIfInBounds (C i).i true) a' w' σ' p g) a w := by
  have hop := c.df.op _ (c.mem rd.lt)
  obtain ⟨s1, s2⟩ := c.set inv.lsz rd.lt
  refine do_op c.ok inv.tr (c.same rd inv.cls) (c.subHR inv hs hn) hop.1 hop.2.1 hres (fun b h1 h2 => by omega) fun σ' v' w' k1 k2 k3 => ?_
  subst hv
  refine ⟨σ', c.gen inv rd k1 k2 k3 (fun b x hb => .inl (hs b x hb)) (fun b h1 h2 => by omega) ?_ ?_ inv.hp inv.g1 inv.gnx ?_⟩
  · rw [hn, inv.g1]; exact (c.grow (Nat.zero_le p) inv.hp).next
  · rw [hn, inv.g1]; exact (c.grow inv.hp (Nat.le_refl _)).next
  · intro b x L hA hL
    have hout : σ' b = σ b := k3.out b (fun hh => by omega)
    rw [hout] at hL
    rcases hA with hg | ⟨m, m1, m2, m3, m4, m5⟩
    · cases hb : h.get b with
      | none => exact .inr ⟨.inl hg, rfl, hL⟩
      | some y => have := hs b y hb; rw [hg] at this; injection this with this; subst this; exact .inl rfl
    · have hne : m ≠ i := by
        rintro rfl
        rw [he] at m5
        have := congrArg H.next m5; rw [H.next_new] at this; omega
      rw [s2 m m2 hne] at m3
      refine .inr ⟨.inr ⟨m, m1, m2, m3, m4, m5⟩, ?_, hL⟩
      cases hb : h.get b with
      | none => rfl
      | some y =>
        have h1 := inv.gnx b y (hs b y hb)
        have h2 := (c.grow m1 (Nat.le_of_lt m2)).next
        rw [inv.g1] at h1; omega

/-- The cases stay where what is done does not act. -/
theorem Ctx.stay (c : Ctx P N ops l two cl C S G V) (rd : Rdy l.length C listed i) (hs : listed.size = ops.size) (hna : isActs (C i).c = false)
    (hc : CaseA l.length C G (Dn C listed) p g ∨ CaseB l.length two cl C S G V (Dn C listed) p g) (hp : p ≤ l.length) :
    CaseA l.length C G (Dn C (listed.setIfInBounds (C i).i true)) p g ∨ CaseB l.length two cl C S G V (Dn C (listed.setIfInBounds (C i).i true)) p g := by
  obtain ⟨s1, s2⟩ := c.set hs rd.lt
  rcases hc with ⟨h1, h2, h3, h4⟩ | ⟨j, k, h1, h2, h3, h4, h5, h6, h7⟩
  · refine .inl ⟨h1, h2, fun k hk ha => ?_, fun k hk hl ha => ?_⟩
    · have hne : k ≠ i := by rintro rfl; rw [hna] at ha; cases ha
      rw [s2 k (by omega) hne]; exact h3 k hk ha
    · have hne : k ≠ i := by rintro rfl; rw [hna] at ha; cases ha
      rw [s2 k hl hne]; exact h4 k hk hl ha
  · refine .inr ⟨j, k, h1, h2, h3, h4, ?_, fun m hm hp hne => ?_, h7⟩
    · have hne : j ≠ i := by rintro rfl; rw [hna] at h3; cases h3
      rw [s2 j h2 hne]; exact h5
    · by_cases e : m = i
      · subst e; exact s1
      · rw [s2 m hm e]; exact h6 m hm hp hne

theorem Ctx.prevAct (c : Ctx P N ops l two cl C S G V) : ∀ (d i : Nat), isActs (C i).c = false → (∀ m, i ≤ m → m < i + 1 + d → isActs (C m).c = false) ∨ ∃ q, i < q ∧ q < i + 1 + d ∧ isActs (C q).c = true ∧ ∀ m, q < m → m < i + 1 + d → isActs (C m).c = false
  | 0, i, h => .inl fun m h1 h2 => (by have : m = i := by omega
                                       rw [this]; exact h)
  | d + 1, i, h => by
    cases e : isActs (C (i + 1 + d)).c with
    | true => exact .inr ⟨i + 1 + d, by omega, by omega, e, fun m h1 h2 => by omega⟩
    | false =>
      rcases Ctx.prevAct c d i h with h1 | ⟨q, h1, h2, h3, h4⟩
      · refine .inl fun m h5 h6 => ?_
        by_cases e' : m = i + 1 + d
        · rw [e']; exact e
        · exact h1 m h5 (by omega)
      · refine .inr ⟨q, h1, by omega, h3, fun m h5 h6 => ?_⟩
        by_cases e' : m = i + 1 + d
        · rw [e']; exact e
        · exact h4 m h5 (by omega)

/-- Where a reading operation may be held to have been done. -/
theorem Ctx.readAt (c : Ctx P N ops l two cl C S G V) (inv : Inv N ops l.length C S G V σ0 w0 a0 listed a w σ p g) (rd : Rdy l.length C listed i) (hna : isActs (C i).c = false) (hr : isReads (C i).c = true) (hw : wantedA (S i) (C i).c = true)
    (hA : CaseA l.length C G (Dn C listed) p g) : ∃ q v' h', q ≤ p ∧ (∀ m, q ≤ m → m < p → isActs (C m).c = false) ∧ opA (S i) (G q) (C i).c.op = .val v' h' ∧ v' = V i := by
  obtain ⟨h1, h2, h3, h4⟩ := hA
  have hpi : p ≠ i := by
    rintro rfl
    have := h2 rd.lt; rw [hna] at this; cases this
  have hown : opA (S i) (G i) (C i).c.op = .val (V i) (G i) := by
    have hres := c.run.res i rd.lt
    have hc : (C i).c.op.cl = .reads := by
      unfold isReads at hr; split at hr
      · assumption
      · cases hr
    rcases reads_cls hc (S i) (G i) with ⟨v, hv⟩ | hv
    · have := hv (G i).next
      change opA (S i) (G i) (C i).c.op = .val v (G i) at this
      have h5 := resD_val (cl := cl) (resD_cases hres).1 hw this
      rw [h5] at hres; injection hres with e; injection e with e1 e2
      rw [this, e1]
    · exact absurd hres (resD_no hw hv)
  rcases Nat.lt_or_ge p i with hlt | hge
  · have hpl : p < l.length := Nat.lt_trans hlt rd.lt
    have hp := h2 hpl
    have hd := h4 p (Nat.le_refl _) hpl hp
    have hb : (C i).bef.testBit (C p).i = false := by
      cases e : (C i).bef.testBit (C p).i with
      | false => rfl
      | true => have := (c.bits rd inv.cls hpl).1 e; rw [hd] at this; cases this
    have hwin := (winOf_spec (x := C i) (k := i) (s := 0) (c.run.get p hpl) hp).1 (by omega) hb
    rw [Nat.zero_add] at hwin
    obtain ⟨v', h', k1, k2⟩ := c.held i rd.lt hr hw p hwin (by omega)
    exact ⟨p, v', h', Nat.le_refl _, fun m a b => by omega, k1, (sameA_eq k2).symm⟩
  · have hip : i < p := by omega
    obtain ⟨d, hd⟩ : ∃ d, p = i + 1 + d := ⟨p - (i + 1), by omega⟩
    rcases c.prevAct d i hna with hn | ⟨q, q1, q2, q3, q4⟩
    · exact ⟨i, V i, G i, by omega, fun m a b => hn m a (by omega), hown, rfl⟩
    · have hql : q < l.length := by have := inv.hp; omega
      have hD := h3 q (by omega) q3
      have hb : (C q).bef.testBit (C i).i = false := by
        cases e : (C q).bef.testBit (C i).i with
        | false => rfl
        | true => have := (c.bits rd inv.cls hql).2 e; rw [hD] at this; cases this
      have hwin := (winOf_spec (x := C i) (k := i) (s := 0) (c.run.get q hql) q3).2 (by omega) hb
      rw [Nat.zero_add] at hwin
      obtain ⟨v', h', k1, k2⟩ := c.held i rd.lt hr hw (q + 1) hwin (by omega)
      exact ⟨q + 1, v', h', by omega, fun m a b => q4 m (by omega) (by omega), k1, (sameA_eq k2).symm⟩

theorem Ctx.subG (c : Ctx P N ops l two cl C S G V) (inv : Inv N ops l.length C S G V σ0 w0 a0 listed a w σ p g) (hg : g = G p) {q : Nat} (hq : q ≤ p) (hna : ∀ m, q ≤ m → m < p → isActs (C m).c = false) : ∀ b x, (G q).get b = some x → g.get b = some x := by
  intro b x hb
  rw [hg]
  exact (c.chain hq inv.hp hna b x).2 (.inl hb)

/-- What makes a block. -/
theorem Ctx.make (c : Ctx P N ops l two cl C S G V) (inv : Inv N ops l.length C S G V σ0 w0 a0 listed a w σ p g) (rd : Rdy l.length C listed i) (hna : isActs (C i).c = false) {x : Bk} (he : G (i + 1) = (G i).new x) (hm : isMakes (C i).c = true) (hw : wantedA (S i) (C i).c = true)
    (hA : CaseA l.length C G (Dn C listed) p g) :
    wpOp P ops Q (C i).i (fun a' w' => ∃ σ', Inv N ops l.length C S G V σ0 w0 a0 (listed.setIfInBounds (C i).i true) a' w' σ' p g) a w := by
  have hop := c.df.op _ (c.mem rd.lt)
  obtain ⟨s1, s2⟩ := c.set inv.lsz rd.lt
  have hc : (C i).c.op.cl = .makes := by
    unfold isMakes at hm; split at hm
    · assumption
    · cases hm
  have hres := c.run.res i rd.lt
  have hval : opA (S i) ⟨(G i).next, .leaf⟩ (C i).c.op = .val (V i) (H.new ⟨(G i).next, .leaf⟩ x) := by
    rcases makes_cls hc (S i) (G i) with ⟨v, y, hv⟩ | hv
    · have h1 := hv (G i).m
      change opA (S i) (G i) (C i).c.op = .val v ((G i).new y) at h1
      have h5 := resD_val (cl := cl) (resD_cases hres).1 hw h1
      rw [h5] at hres; injection hres with e; injection e with e1 e2
      rw [he] at e2
      rw [hv .leaf, e1, new_inj e2]
    · exact absurd hres (resD_no hw hv)
  have hun := inv.un i rd.lt rd.un
  refine do_op c.ok inv.tr (c.same rd inv.cls) (HR.empty inv.hr (G i).next) hop.1 hop.2.1 (resD_val (resD_cases hres).1 hw hval) (fun b h1 h2 => hun b h1 (by rw [he]; exact h2)) fun σ' v' w' k1 k2 k3 => ?_
  refine ⟨σ', c.gen inv rd k1 k2 k3 (fun b y hb => by simp [H.get, Tr.get] at hb) (fun b h1 h2 => ⟨h1, by rw [he]; exact h2⟩) (c.grow (Nat.zero_le i) (Nat.le_of_lt rd.lt)).next ?_ inv.hp inv.g1 inv.gnx ?_⟩
  · have := (c.grow (j := i + 1) (k := l.length) rd.lt (Nat.le_refl _)).next
    rw [he] at this; exact this
  · intro b y L hAl hL
    by_cases hb : b = (G i).next
    · refine .inl ?_
      have hy : y = x := by
        rcases hAl with hg | ⟨m, m1, m2, m3, m4, m5⟩
        · have h1 := inv.gnx b y hg
          rw [inv.g1] at h1
          rcases Nat.lt_or_ge i p with hip | hip
          · obtain ⟨e1, e2, e3, e4⟩ := hA
            have hno : ∀ m, i ≤ m → m < p → isActs (C m).c = false := by
              intro m h5 h6
              by_cases q : m = i
              · rw [q]; exact hna
              · cases e : isActs (C m).c with
                | false => rfl
                | true =>
                  have hml : m < l.length := by have := inv.hp; omega
                  have hD := e3 m h6 e
                  rcases (c.pair (j := i) (k := m) (by omega) hml).2.2 with q | ⟨_, _, q⟩
                  · have := (c.bits rd inv.cls hml).2 q; rw [hD] at this; cases this
                  · rw [hm, e] at q; cases q
            rw [e1] at hg
            rcases (c.chain (Nat.le_of_lt hip) inv.hp hno b y).1 hg with q | ⟨m, q1, q2, q3, q4⟩
            · have := c.nx (Nat.le_of_lt rd.lt) b y q; omega
            · by_cases q5 : m = i
              · subst q5; rw [he] at q4; exact (new_inj q4).symm
              · have := c.nextNe (m := i) (k := m) (by omega) (by have := inv.hp; omega) he
                omega
          · have := (c.grow hip (Nat.le_of_lt rd.lt)).next; omega
        · by_cases q5 : m = i
          · subst q5; rw [he] at m5; exact (new_inj m5).symm
          · rcases Nat.lt_or_ge m i with q | q
            · have := c.nextNe q (Nat.le_of_lt rd.lt) m5; omega
            · have := c.nextNe (m := i) (k := m) (by omega) (Nat.le_of_lt m2) he; omega
      rw [hy, H.get_new]; simp [hb]
    · refine .inr ⟨?_, by simp [H.get, Tr.get], ?_⟩
      · rcases hAl with hg | ⟨m, m1, m2, m3, m4, m5⟩
        · exact .inl hg
        · have hne : m ≠ i := by rintro rfl; exact hb m4
          rw [s2 m m2 hne] at m3
          exact .inr ⟨m, m1, m2, m3, m4, m5⟩
      · have := k3.out b (fun hh => by
          have h1 := hh.1; have h2 := hh.2
          simp only [H.new] at h1 h2; omega)
        rw [this] at hL; exact hL
end
end Go.Ab
