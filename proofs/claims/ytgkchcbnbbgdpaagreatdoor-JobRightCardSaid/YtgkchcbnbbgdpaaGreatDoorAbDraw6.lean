/- A region that draws does what it does in one order. -/
import Derived.Test.YtgkchcbnbbgdpaaGreatDoorAbDraw5
namespace Go.Ab

def cnt (listed : Array Bool) : Nat → Nat
  | 0 => 0
  | n + 1 => (match listed.getD n false with | true => 0 | false => 1) + cnt listed n

theorem cnt_same {a b : Array Bool} : ∀ {n : Nat}, (∀ k, k < n → a.getD k false = b.getD k false) → cnt a n = cnt b n
  | 0, _ => rfl
  | n + 1, h => by simp only [cnt, h n (Nat.lt_succ_self n), cnt_same (n := n) fun k hk => h k (by omega)]

theorem cnt_set {a : Array Bool} {i : Nat} (hi : i < a.size) (h : a.getD i false = false) : ∀ {n : Nat}, i < n → cnt (a.setIfInBounds i true) n + 1 = cnt a n
  | 0, h => by omega
  | n + 1, hn => by
    simp only [cnt]
    by_cases e : i = n
    · subst e
      have h1 : (a.setIfInBounds i true).getD i false = true := by simp [Array.getElem_setIfInBounds, hi]
      rw [h1, h, cnt_same (a := a.setIfInBounds i true) (b := a) fun k hk => getD_set_ne false (by omega)]
      simp only []; omega
    · rw [getD_set_ne false e, ← cnt_set hi h (n := n) (by omega)]
      omega

theorem cnt_zero {a : Array Bool} : ∀ {n : Nat}, cnt a n = 0 → ∀ k, k < n → a.getD k false = true
  | 0, _, k, hk => by omega
  | n + 1, h, k, hk => by
    simp only [cnt] at h
    cases e : a.getD n false with
    | true =>
      by_cases q : k = n
      · rw [q]; exact e
      · exact cnt_zero (n := n) (by omega) k (by omega)
    | false => rw [e] at h; simp only [] at h; omega

/-- A map of the numbers: a first one of which something holds. -/
theorem first_of {p : Nat → Bool} : ∀ (n : Nat), (∃ k, k < n ∧ p k = true) → ∃ k, k < n ∧ p k = true ∧ ∀ j, j < k → p j = false
  | 0, ⟨k, h, _⟩ => by omega
  | n + 1, ⟨k, h, hp⟩ => by
    by_cases e : ∃ k, k < n ∧ p k = true
    · obtain ⟨k', h1, h2, h3⟩ := first_of n e
      exact ⟨k', by omega, h2, h3⟩
    · have hk : k = n := by
        rcases Nat.lt_or_ge k n with q | q
        · exact absurd ⟨k, q, hp⟩ e
        · omega
      subst hk
      refine ⟨k, h, hp, fun j hj => ?_⟩
      cases q : p j with
      | false => rfl
      | true => exact absurd ⟨j, hj, q⟩ e

section
variable {P : Program} {N : Nat} {ops : Array Oper} {l : List DI} {two : Option (Nat × Nat)} {cl : Nat → List AV → H → Cr} {C : Nat → DI} {S : Nat → TS} {G : Nat → H} {V : Nat → AV}
variable {σ0 : Ren} {w0 : World} {a0 : Act} {Q : Exit → Act → World → Prop}

theorem Ctx.allDone (c : Ctx P N ops l two cl C S G V) {listed : Array Bool} (hs : listed.size = ops.size) (hr : Region.ready .any ops listed = []) : ∀ j, j < ops.size → listed.getD j false = true := by
  intro j hj
  cases e : listed.getD j false with
  | true => rfl
  | false =>
    obtain ⟨k, h1, h2, h3⟩ := first_of (p := fun j => !listed.getD j false) ops.size ⟨j, hj, by simp [e]⟩
    have hmem : k ∈ Region.ready .any ops listed := by
      refine mem_ready.2 ⟨?_, ?_⟩
      · have : k < listed.size := by omega
        simp [this] at h2 ⊢
        exact h2
      · obtain ⟨x, hx, he⟩ := c.df.cov k h1
        have hop := c.df.op x hx
        rw [he] at hop
        refine ⟨x.o, hop.1, fun e' he' hb => ?_⟩
        have := h3 e'.on (by have := c.df.back x hx e' he' hb; omega)
        simpa using this
    rw [hr] at hmem; cases hmem

theorem Ctx.fin (c : Ctx P N ops l two cl C S G V) {listed : Array Bool} {a : Act} {w : World} (hg : Good P N ops l two cl C S G V σ0 w0 a0 listed a w) (hr : Region.ready .any ops listed = []) (hf : Fresh σ0 (G 0).next (G l.length).next) :
    ∃ σ, HR σ (G l.length) w ∧ Ext σ0 σ (G 0) (G l.length) w0 w ∧ TR σ (S l.length) a.tmps ∧ a.tmps.size = N ∧ a.defers = a0.defers := by
  obtain ⟨σ, p, g, inv, hc⟩ := hg
  have hall := c.allDone inv.lsz hr
  have hD : ∀ k, k < l.length → Dn C listed k = true := fun k hk => hall _ (c.idx hk)
  rcases hc with ⟨e1, e2, e3, e4⟩ | ⟨j, k, h1, h2, h3, h4, h5, _⟩
  · have hp : p = l.length := by
      rcases Nat.lt_or_ge p l.length with q | q
      · have := e4 p (Nat.le_refl _) q (e2 q); rw [hD p q] at this; cases this
      · have := inv.hp; omega
    subst hp
    subst e1
    have hlive : ∀ b x, Alive G l.length (G l.length) l.length (Dn C listed) b x ↔ (G l.length).get b = some x := fun b x =>
      ⟨fun h => h.elim id fun ⟨m, m1, m2, _⟩ => by omega, .inl⟩
    have hA : Alive G l.length (G l.length) l.length (Dn C listed) = fun b x => (G l.length).get b = some x := funext fun b => funext fun x => propext (hlive b x)
    have hhr := inv.hr
    have hxp := inv.xp
    rw [hA] at hhr hxp
    refine ⟨σ, hhr.to (fun b x h => h) (c.nx (Nat.le_refl _)), hxp.done (c.grow (Nat.zero_le _) (Nat.le_refl _)).next hf, ?_, inv.tsz, inv.ads⟩
    intro t v ht
    rw [← foldT_run c.run (k := l.length) (Nat.le_refl _), ← foldT_agree (D := Dn C listed) (fun k hk _ => hD k hk)] at ht
    exact inv.tr t v ht
  · rw [hD j h2] at h5; cases h5

theorem Ctx.any (c : Ctx P N ops l two cl C S G V) (hf : Fresh σ0 (G 0).next (G l.length).next)
    (hQ : ∀ σ a w, HR σ (G l.length) w → Ext σ0 σ (G 0) (G l.length) w0 w → TR σ (S l.length) a.tmps → a.tmps.size = N → a.defers = a0.defers → Q .normal a w) :
    ∀ (fuel : Nat) (listed : Array Bool) (a : Act) (w : World), cnt listed ops.size ≤ fuel → Good P N ops l two cl C S G V σ0 w0 a0 listed a w → wpAny P .any ops Q fuel listed a w := by
  intro fuel
  induction fuel with
  | zero =>
    intro listed a w hn hg
    have hr : Region.ready .any ops listed = [] := by
      cases e : Region.ready .any ops listed with
      | nil => rfl
      | cons i r =>
        have hi : i ∈ Region.ready .any ops listed := by rw [e]; simp
        obtain ⟨h1, o, h2, _⟩ := mem_ready.1 hi
        have hlt := (Array.getElem?_eq_some_iff.1 h2).1
        have := cnt_zero (Nat.le_zero.1 hn) i hlt
        obtain ⟨σ, p, g, inv, _⟩ := hg
        have hl : i < listed.size := by rw [inv.lsz]; exact hlt
        simp [hl] at h1 this
        rw [h1] at this; cases this
    obtain ⟨σ, h1, h2, h3, h4, h5⟩ := c.fin hg hr hf
    exact ⟨hr, hQ σ a w h1 h2 h3 h4 h5⟩
  | succ fuel ih =>
    intro listed a w hn hg
    refine ⟨fun hr => ?_, fun i hi => ?_⟩
    · obtain ⟨σ, h1, h2, h3, h4, h5⟩ := c.fin hg hr hf
      exact hQ σ a w h1 h2 h3 h4 h5
    · obtain ⟨h1, o, h2, h3⟩ := mem_ready.1 hi
      have hlt := (Array.getElem?_eq_some_iff.1 h2).1
      obtain ⟨σ, p, g, inv, hc⟩ := hg
      have hl : i < listed.size := by rw [inv.lsz]; exact hlt
      have hun : listed.getD i false = false := by simp [hl] at h1 ⊢; exact h1
      obtain ⟨x, hx, he⟩ := c.df.cov i hlt
      obtain ⟨k, hk⟩ := List.mem_iff_getElem?.1 hx
      have hkl : k < l.length := by
        rcases Nat.lt_or_ge k l.length with q | q
        · exact q
        · rw [List.getElem?_eq_none q] at hk; cases hk
      have hCk : C k = x := by
        have := c.run.get k hkl
        rw [hk] at this; injection this with this; exact this.symm
      have hop := c.df.op x hx
      rw [he] at hop
      have ho : o = x.o := by rw [h2] at hop; injection hop.1
      have rd : Rdy l.length C listed k := by
        refine ⟨hkl, by unfold Dn; rw [hCk, he]; exact hun, ?_⟩
        rw [hCk]
        exact bef_ready inv.cls hop.1 hop.2.2 (fun e he' hb => h3 e (ho ▸ he') hb)
      have := c.step (Q := Q) inv hc rd
      rw [hCk, he] at this
      refine wpOp_mono (fun a' w' hg' => ih _ a' w' ?_ hg') this
      have := cnt_set hl hun hlt
      omega
end

theorem traceD_run {cl : Nat → List AV → H → Cr} : ∀ (cs : List CR) (ts : TS) (h : H) (tr : List (TS × H)), traceD cl cs ts h = some tr →
    tr.length = cs.length + 1 ∧ tr[0]? = some (ts, h) ∧ ∀ (k : Nat) (o : CR), cs[k]? = some o → ∃ ts h v h', tr[k]? = some (ts, h) ∧ tr[k + 1]? = some (putT ts o.dst v, h') ∧ resD cl o ts h = some (v, h')
  | [], ts, h, tr, e => by simp [traceD] at e; subst e; exact ⟨rfl, rfl, fun k o hk => by simp at hk⟩
  | o :: r, ts, h, tr, e => by
    simp only [traceD] at e
    split at e
    · rename_i v h' he
      split at e
      · rename_i l hl
        injection e with e; subst e
        obtain ⟨h1, h2, h3⟩ := traceD_run r _ _ l hl
        refine ⟨by simp [h1], rfl, fun k p hk => ?_⟩
        cases k with
        | zero =>
          simp at hk; subst hk
          exact ⟨ts, h, v, h', rfl, by simpa using h2, he⟩
        | succ k =>
          obtain ⟨ts1, h1', v1, h2', q1, q2, q3⟩ := h3 k p (by simpa using hk)
          exact ⟨ts1, h1', v1, h2', by simpa using q1, by simpa using q2, q3⟩
      · cases e
    · cases e

theorem heldD_spec {all : List (TS × H)} : ∀ (cs : List CR) (tr : List (TS × H)), heldD all cs tr = true → ∀ (k : Nat) (o : CR) (ts : TS) (h : H), cs[k]? = some o → tr[k]? = some (ts, h) → held1 all o ts h = true
  | [], tr, _, k, o, ts, h, ho, _ => by simp at ho
  | x :: r, [], _, k, o, ts, h, _, ht => by simp at ht
  | x :: r, (ts0, h0) :: tr, e, k, o, ts, h, ho, ht => by
    simp only [heldD] at e
    split at e
    · rename_i e1
      cases k with
      | zero => simp at ho ht; obtain ⟨rfl, rfl⟩ := ht; subst ho; exact e1
      | succ k => exact heldD_spec r tr e k o ts h (by simpa using ho) (by simpa using ht)
    · cases e

theorem holdsAt_spec {o : CR} {ts : TS} {v : AV} {l : List (TS × H)} : ∀ (qs : List Nat), holdsAt o ts v l qs = true → ∀ q ∈ qs, ∃ p v' h', l[q]? = some p ∧ opA ts p.2 o.op = .val v' h' ∧ sameA v v' = true
  | [], _, q, hq => by simp at hq
  | a :: r, h, q, hq => by
    simp only [holdsAt] at h
    split at h
    · rename_i ts' h' e1
      split at h
      · rename_i v' h'' e2
        split at h
        · rename_i e3
          rcases List.mem_cons.1 hq with rfl | hq
          · exact ⟨_, v', h'', e1, e2, e3⟩
          · exact holdsAt_spec r h q hq
        · cases h
      · cases h
    · cases h
end Go.Ab
