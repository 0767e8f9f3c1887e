/- A region that draws: what is done so far. -/
import Derived.Test.YtgkchcbnbbgdpaaGreatDoorAbDraw
namespace Go.Ab

structure Run (cl : Nat → List AV → H → Cr) (l : List DI) (C : Nat → DI) (S : Nat → TS) (G : Nat → H) (V : Nat → AV) : Prop where
  get : ∀ k, k < l.length → l[k]? = some (C k)
  res : ∀ k, k < l.length → resD cl (C k).c (S k) (G k) = some (V k, G (k + 1))
  put : ∀ k, k < l.length → S (k + 1) = putT (S k) (C k).c.dst (V k)

def foldT (S0 : TS) (C : Nat → DI) (V : Nat → AV) (D : Nat → Bool) : Nat → TS
  | 0 => S0
  | k + 1 => match D k with
    | true => putT (foldT S0 C V D k) (C k).c.dst (V k)
    | false => foldT S0 C V D k

theorem putT_get (ts : TS) (d : Option Nat) (v : AV) (t : Nat) : (putT ts d v).get t = if d = some t then some v else ts.get t := by
  cases d with
  | none => simp [putT]
  | some d =>
    simp only [putT, Tr.get_set, Option.some.injEq]
    by_cases e : t = d
    · simp [e]
    · rw [if_neg e, if_neg (fun h => e h.symm)]

section
variable {S0 : TS} {C : Nat → DI} {V : Nat → AV} {D D' : Nat → Bool}

theorem foldT_agree {t : Nat} : ∀ {m : Nat}, (∀ k, k < m → (C k).c.dst = some t → D k = D' k) → (foldT S0 C V D m).get t = (foldT S0 C V D' m).get t
  | 0, _ => rfl
  | m + 1, h => by
    have ih := foldT_agree (m := m) (fun k hk => h k (by omega))
    simp only [foldT]
    by_cases e : (C m).c.dst = some t
    · rw [h m (by omega) e]
      cases D' m <;> simp [putT_get, e, ih]
    · cases D m <;> cases D' m <;> simp [putT_get, e, ih]

theorem foldT_upto (i : Nat) : ∀ m, foldT S0 C V (fun k => decide (k < i)) m = foldT S0 C V (fun _ => true) (Min.min m i)
  | 0 => by simp [foldT]
  | m + 1 => by
    simp only [foldT, foldT_upto i m]
    by_cases e : m < i
    · have e1 : Min.min (m + 1) i = m + 1 := by omega
      have e2 : Min.min m i = m := by omega
      simp [e, e1, e2, foldT]
    · have e1 : Min.min (m + 1) i = i := by omega
      have e2 : Min.min m i = i := by omega
      simp [e, e1, e2]

theorem foldT_set {i : Nat} {t : Nat} (h1 : D' i = true) (h0 : D i = false) : ∀ {m : Nat}, i < m → (∀ k, k < m → k ≠ i → D' k = D k) → (∀ k, i < k → k < m → (C k).c.dst = (C i).c.dst → (C i).c.dst = some t → D k = false) →
    (foldT S0 C V D' m).get t = (putT (foldT S0 C V D m) (C i).c.dst (V i)).get t
  | 0, hi, _, _ => by omega
  | m + 1, hi, h2, hl => by
    by_cases e : i = m
    · subst e
      simp only [foldT, h1, h0]
      rw [putT_get, putT_get, foldT_agree (D' := D) fun k hk _ => h2 k (by omega) (by omega)]
    · have ih := foldT_set (t := t) h1 h0 (m := m) (by omega) (fun k a b => h2 k (by omega) b) (fun k a b => hl k a (by omega))
      simp only [foldT, h2 m (by omega) (fun h => e h.symm)]
      cases hD : D m with
      | false => exact ih
      | true =>
        simp only [putT_get]
        simp only [putT_get] at ih
        by_cases em : (C m).c.dst = some t
        · by_cases ei : (C i).c.dst = some t
          · have := hl m (by omega) (by omega) (em.trans ei.symm) ei
            rw [hD] at this; cases this
          · simp [em, ei]
        · by_cases ei : (C i).c.dst = some t
          · simp [em, ei] at ih ⊢; exact ih
          · simp [em, ei] at ih ⊢; exact ih

theorem foldT_run {cl : Nat → List AV → H → Cr} {l : List DI} {S : Nat → TS} {G : Nat → H} (r : Run cl l C S G V) : ∀ {k : Nat}, k ≤ l.length → foldT (S 0) C V (fun _ => true) k = S k
  | 0, _ => rfl
  | k + 1, hk => by simp only [foldT, foldT_run r (k := k) (by omega), r.put k (by omega)]
end

structure Ctx (P : Program) (N : Nat) (ops : Array Oper) (l : List DI) (two : Option (Nat × Nat)) (cl : Nat → List AV → H → Cr) (C : Nat → DI) (S : Nat → TS) (G : Nat → H) (V : Nat → AV) : Prop where
  df : DF P N ops l two
  run : Run cl l C S G V
  ok : ClOk P cl
  held : ∀ k, k < l.length → isReads (C k).c = true → wantedA (S k) (C k).c = true → ∀ q ∈ winOf (C k) k l 0, q ≤ l.length → ∃ v' h', opA (S k) (G q) (C k).c.op = .val v' h' ∧ sameA (V k) v' = true
  two : ∀ j k, two = some (j, k) → ∃ b b' o o' s s' x x' z z', (C j).c.op = .store s x z ∧ evA (S j) x = .ptr b o ∧ (C k).c.op = .store s' x' z' ∧ evA (S k) x' = .ptr b' o' ∧ b ≠ b'
  nx0 : NX (G 0)

section
variable {P : Program} {N : Nat} {ops : Array Oper} {l : List DI} {two : Option (Nat × Nat)} {cl : Nat → List AV → H → Cr} {C : Nat → DI} {S : Nat → TS} {G : Nat → H} {V : Nat → AV}

theorem resD_grow (hcl : ClOk P cl) {o : CR} {ts : TS} {h h' : H} {v : AV} (e : resD cl o ts h = some (v, h')) : Grow h h' := by
  unfold resD at e
  split at e
  · cases e
  · split at e
    · injection e with e; injection e with e1 e2; subst e2; exact Grow.refl _
    · have := opA_grow ts h o.op
      split at e
      · rename_i q; injection e with e; injection e with e1 e2; subst e2; rw [q] at this; exact this
      · rename_i q; injection e with e; injection e with e1 e2; subst e2; rw [q] at this; exact this
      · rename_i q
        rw [q] at this
        split at e
        · rename_i q2; injection e with e; injection e with e1 e2; subst e2; exact Grow.trans this (hcl.grow _ _ _ _ _ q2)
        · cases e
      · cases e


theorem Ctx.grow1 (c : Ctx P N ops l two cl C S G V) {k : Nat} (hk : k < l.length) : Grow (G k) (G (k + 1)) := resD_grow c.ok (c.run.res k hk)

theorem Ctx.grow (c : Ctx P N ops l two cl C S G V) {j : Nat} : ∀ {k : Nat}, j ≤ k → k ≤ l.length → Grow (G j) (G k)
  | 0, h, _ => by have : j = 0 := by omega
                  subst this; exact Grow.refl _
  | k + 1, h, hk => by
    by_cases e : j = k + 1
    · subst e; exact Grow.refl _
    · exact (Ctx.grow c (k := k) (by omega) (by omega)).trans (c.grow1 (by omega))

theorem Ctx.nx (c : Ctx P N ops l two cl C S G V) {k : Nat} (hk : k ≤ l.length) : NX (G k) := (c.grow (Nat.zero_le k) hk).nx c.nx0

theorem Ctx.mem (c : Ctx P N ops l two cl C S G V) {k : Nat} (hk : k < l.length) : C k ∈ l := List.mem_of_getElem? (c.run.get k hk)

theorem Ctx.pair (c : Ctx P N ops l two cl C S G V) {j k : Nat} (hjk : j < k) (hk : k < l.length) : (C j).bef.testBit (C k).i = false ∧ (C j).i ≠ (C k).i ∧
    ((C k).bef.testBit (C j).i = true ∨ (apartC (C j).c (C k).c = true ∧ ((isActs (C j).c && isActs (C k).c) = false ∨ isTwo two j k = true) ∧ (isMakes (C j).c && isActs (C k).c) = false)) := by
  have := c.df.pair j k _ _ hjk (c.run.get j (by omega)) (c.run.get k hk)
  simp only [pairOk, Bool.and_eq_true, Bool.or_eq_true, Bool.not_eq_true'] at this
  obtain ⟨⟨h1, h2⟩, h3⟩ := this
  refine ⟨h1, (fun e => by rw [e, Nat.beq_refl] at h2; cases h2), ?_⟩
  rcases h3 with h3 | ⟨⟨h3, h4⟩, h5⟩
  · exact .inl h3
  · exact .inr ⟨h3, h4, h5⟩

/-- What doesn't act makes a block at most. -/
theorem Ctx.heap (c : Ctx P N ops l two cl C S G V) {k : Nat} (hk : k < l.length) (hna : isActs (C k).c = false) : G (k + 1) = G k ∨ ∃ x, G (k + 1) = (G k).new x ∧ isMakes (C k).c = true ∧ wantedA (S k) (C k).c = true := by
  have := c.run.res k hk
  unfold resD at this
  split at this
  · cases this
  · split at this
    · injection this with e; injection e with e1 e2; exact .inl e2.symm
    · rename_i hw
      have hb := c.df.nobar _ (c.mem hk)
      cases hc : (C k).c.op.cl with
      | pure =>
        rcases pure_cls hc (S k) (G k) with ⟨v, hv⟩ | hv
        · rw [hv (G k)] at this; injection this with e; injection e with e1 e2; exact .inl e2.symm
        · rw [hv] at this; cases this
      | reads =>
        rcases reads_cls hc (S k) (G k) with ⟨v, hv⟩ | hv
        · have := hv (G k).next
          change opA (S k) (G k) (C k).c.op = _ at this
          rename_i h0
          rw [this] at h0; injection h0 with e; injection e with e1 e2; exact .inl e2.symm
        · rw [hv] at this; cases this
      | makes =>
        rcases makes_cls hc (S k) (G k) with ⟨v, x, hv⟩ | hv
        · have h2 := hv (G k).m
          change opA (S k) (G k) (C k).c.op = _ at h2
          rw [h2] at this; injection this with e; injection e with e1 e2
          exact .inr ⟨x, e2.symm, by simp [isMakes, hc], hw⟩
        · rw [hv] at this; cases this
      | acts => simp [isActs, hc] at hna
      | bars => exact absurd hc hb

theorem Ctx.chain (c : Ctx P N ops l two cl C S G V) {j : Nat} : ∀ {k : Nat}, j ≤ k → k ≤ l.length → (∀ m, j ≤ m → m < k → isActs (C m).c = false) → ∀ b x, (G k).get b = some x ↔ (G j).get b = some x ∨ ∃ m, j ≤ m ∧ m < k ∧ b = (G m).next ∧ G (m + 1) = (G m).new x
  | 0, h, _, _, b, x => by
    have : j = 0 := by omega
    subst this
    exact ⟨.inl, fun h => h.elim id fun ⟨m, h1, h2, _⟩ => by omega⟩
  | k + 1, h, hk, hna, b, x => by
    by_cases e : j = k + 1
    · subst e
      exact ⟨.inl, fun h => h.elim id fun ⟨m, h1, h2, _⟩ => by omega⟩
    · have ih := Ctx.chain c (k := k) (by omega) (by omega) (fun m h1 h2 => hna m h1 (by omega)) b x
      have hnx := c.nx (k := k) (by omega)
      rcases c.heap (k := k) (by omega) (hna k (by omega) (by omega)) with he | ⟨y, he, _⟩
      · rw [he, ih]
        refine ⟨fun h => h.imp id fun ⟨m, h1, h2, h3⟩ => ⟨m, h1, by omega, h3⟩, fun h => h.imp id fun ⟨m, h1, h2, h3, h4⟩ => ⟨m, h1, ?_, h3, h4⟩⟩
        rcases Nat.lt_or_ge m k with q | q
        · exact q
        · have : m = k := by omega
          subst this
          rw [he] at h4
          have := congrArg H.next h4
          rw [H.next_new] at this; omega
      · rw [he, H.get_new]
        constructor
        · intro h
          split at h
          · rename_i hb; injection h with h; subst h; exact .inr ⟨k, by omega, by omega, hb, he⟩
          · exact (ih.1 h).imp id fun ⟨m, h1, h2, h3⟩ => ⟨m, h1, by omega, h3⟩
        · rintro (h | ⟨m, h1, h2, h3, h4⟩)
          · have h5 := hnx b x (ih.2 (.inl h))
            rw [if_neg (by omega)]; exact ih.2 (.inl h)
          · rcases Nat.lt_or_ge m k with q | q
            · have h5 := hnx b x (ih.2 (.inr ⟨m, h1, q, h3, h4⟩))
              rw [if_neg (by omega)]; exact ih.2 (.inr ⟨m, h1, q, h3, h4⟩)
            · have : m = k := by omega
              subst this
              rw [if_pos h3]
              rw [he] at h4
              have := congrArg (fun g => H.get g (G m).next) h4
              simpa [H.get_new] using this

theorem Ctx.nextAct (c : Ctx P N ops l two cl C S G V) : ∀ (d p : Nat), p + d = l.length → ∃ p', p ≤ p' ∧ p' ≤ l.length ∧ (p' < l.length → isActs (C p').c = true) ∧ ∀ m, p ≤ m → m < p' → isActs (C m).c = false
  | 0, p, h => ⟨p, Nat.le_refl _, by omega, fun h' => by omega, fun m h1 h2 => by omega⟩
  | d + 1, p, h => by
    cases e : isActs (C p).c with
    | true => exact ⟨p, Nat.le_refl _, by omega, fun _ => e, fun m h1 h2 => by omega⟩
    | false =>
      obtain ⟨p', h1, h2, h3, h4⟩ := Ctx.nextAct c d (p + 1) (by omega)
      refine ⟨p', by omega, h2, h3, fun m h5 h6 => ?_⟩
      by_cases q : m = p
      · rw [q]; exact e
      · exact h4 m (by omega) h6
end

/-! What is done. -/
def Dn (C : Nat → DI) (listed : Array Bool) (k : Nat) : Bool := listed.getD (C k).i false

/-- What is alive: the heap's blocks, and what was made ahead of its turn. -/
def Alive (G : Nat → H) (n : Nat) (g : H) (p : Nat) (D : Nat → Bool) (b : Nat) (y : Bk) : Prop :=
  g.get b = some y ∨ ∃ m, p ≤ m ∧ m < n ∧ D m = true ∧ b = (G m).next ∧ G (m + 1) = (G m).new y

structure Inv (N : Nat) (ops : Array Oper) (n : Nat) (C : Nat → DI) (S : Nat → TS) (G : Nat → H) (V : Nat → AV) (σ0 : Ren) (w0 : World) (a0 : Act) (listed : Array Bool) (a : Act) (w : World) (σ : Ren) (p : Nat) (g : H) : Prop where
  lsz : listed.size = ops.size
  cls : Closed (befs ops.toList []) listed
  hp : p ≤ n
  g1 : g.next = (G p).next
  gnx : NX g
  hr : HRP σ (Alive G n g p (Dn C listed)) w
  xp : XP σ0 (G 0) w0 (G n).next σ (Alive G n g p (Dn C listed)) w
  un : ∀ k, k < n → Dn C listed k = false → Fresh σ (G k).next (G (k + 1)).next
  tr : TR σ (foldT (S 0) C V (Dn C listed) n) a.tmps
  tsz : a.tmps.size = N
  ads : a.defers = a0.defers

def CaseA (n : Nat) (C : Nat → DI) (G : Nat → H) (D : Nat → Bool) (p : Nat) (g : H) : Prop :=
  g = G p ∧ (p < n → isActs (C p).c = true) ∧ (∀ k, k < p → isActs (C k).c = true → D k = true) ∧ (∀ k, p ≤ k → k < n → isActs (C k).c = true → D k = false)

def CaseB (n : Nat) (two : Option (Nat × Nat)) (cl : Nat → List AV → H → Cr) (C : Nat → DI) (S : Nat → TS) (G : Nat → H) (V : Nat → AV) (D : Nat → Bool) (p : Nat) (g : H) : Prop :=
  ∃ j k, two = some (j, k) ∧ j < n ∧ isActs (C j).c = true ∧ p = n ∧ D j = false ∧ (∀ m, m < n → isPure (C m).c = false → m ≠ j → D m = true) ∧
    ∃ g', resD cl (C j).c (S j) g = some (V j, g') ∧ (∀ b, g'.get b = (G n).get b) ∧ g'.next = (G n).next
end Go.Ab
