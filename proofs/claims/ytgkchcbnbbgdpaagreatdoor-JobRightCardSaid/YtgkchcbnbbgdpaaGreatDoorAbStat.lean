/- What the checks of a drawn region say. -/
import Derived.Test.YtgkchcbnbbgdpaaGreatDoorAbCls
import Derived.Orders
namespace Go.Ab

theorem wanted_ok {P : Program} {σ : Ren} {ts : TS} {a : Act} (htr : TR σ ts a.tmps) {N : Nat} {ops : Array Oper} {o : Oper} {c : CR} (hc : compOp P N ops o = some c) (hg : guardOk ts c = true) :
    Region.wanted o (yielded ops a.tmps) = wantedA ts c := by
  unfold compOp at hc
  split at hc
  · cases hc
  · split at hc
    · rename_i hgu
      injection hc with hc; subst hc
      simp [Region.wanted, hgu, wantedA]
    · rename_i g want hgu
      split at hc
      · rename_i d hd
        injection hc with hc; subst hc
        simp only [guardOk, wantedA] at hg ⊢
        simp only [Region.wanted, hgu, yielded, hd, Option.bind_some]
        cases e : ts.get d with
        | none => simp [e] at hg
        | some v =>
          obtain ⟨v', h1, h2⟩ := htr d v e
          simp only [h1]
          simp only [e] at hg
          cases h2 <;> first | (cases hg; done) | rfl | skip
      · cases hc

theorem compOp_dst {P : Program} {N : Nat} {ops : Array Oper} {o : Oper} {c : CR} (hc : compOp P N ops o = some c) : c.dst = o.dst ∧ dstOk N o.dst = true ∧ c.op = (comp1 P o.op).getD bad := by
  unfold compOp at hc
  split at hc
  · cases hc
  · rename_i hd
    split at hc
    · injection hc with hc; subst hc; exact ⟨rfl, hd, rfl⟩
    · split at hc
      · injection hc with hc; subst hc; exact ⟨rfl, hd, rfl⟩
      · cases hc

theorem op_ok' {P : Program} {σ : Ren} {h : H} {w : World} {o : Oper} {a : Act} {ts : TS} (htr : TR σ ts a.tmps) (r : HR σ h w) {N : Nat} {ops : Array Oper} {c : CR} (hc : compOp P N ops o = some c) : OpOk P σ h w o a (opA ts h c.op) := by
  rw [(compOp_dst hc).2.2]
  cases e : comp1 P o.op with
  | none => trivial
  | some co => exact op_ok htr r e

theorem all1_spec {f : Nat → DI → Bool} : ∀ {l : List DI} {s : Nat}, all1 f l s = true → ∀ (k : Nat) (y : DI), l[k]? = some y → f (s + k) y = true
  | [], s, _, k, y, hk => by simp at hk
  | x :: r, s, h, k, y, hk => by
    unfold all1 at h
    split at h
    · rename_i h1
      cases k with
      | zero => simp at hk; subst hk; simpa using h1
      | succ k => have := all1_spec h k y (by simpa using hk); rwa [Nat.add_assoc, Nat.add_comm 1 k] at this
    · cases h

theorem all2_spec {f : Nat → Nat → DI → DI → Bool} : ∀ {l : List DI} {s : Nat}, all2 f l s = true → ∀ (j k : Nat) (x y : DI), j < k → l[j]? = some x → l[k]? = some y → f (s + j) (s + k) x y = true
  | [], s, _, j, k, x, y, _, hj, _ => by simp at hj
  | z :: r, s, h, j, k, x, y, hjk, hj, hk => by
    unfold all2 at h
    split at h
    · rename_i h1
      cases k with
      | zero => omega
      | succ k =>
        simp at hk
        cases j with
        | zero =>
          simp at hj; subst hj
          have := all1_spec h1 k y hk
          rw [Nat.add_assoc, Nat.add_comm 1 k] at this
          exact this
        | succ j =>
          have := all2_spec h j k x y (by omega) (by simpa using hj) hk
          have e1 : s + 1 + j = s + (j + 1) := by omega
          have e2 : s + 1 + k = s + (k + 1) := by omega
          rwa [e1, e2] at this
    · cases h

theorem place_mem : ∀ (qs rem : List DI) (x : DI), x ∈ place qs rem → x ∈ qs ∨ x ∈ rem
  | [], rem, x, h => .inr h
  | q :: qs, rem, x, h => by
    simp only [place, List.mem_append, List.mem_cons, List.mem_filter] at h
    rcases h with h | h | h
    · exact .inr h.1
    · exact .inl (by simp [h])
    · rcases place_mem qs _ x h with h | h
      · exact .inl (by simp [h])
      · exact .inr (List.mem_filter.1 h).1

theorem reorder_mem {l : List DI} {x : DI} (h : x ∈ reorder l) : x ∈ l := by
  rcases place_mem _ _ x h with h | h <;> exact (List.mem_filter.1 h).1

theorem zipDI_mem : ∀ (os : List Oper) (cs : List CR) (bs : List Nat) (i : Nat) (x : DI), x ∈ zipDI os cs bs i → ∃ k, x.i = i + k ∧ os[k]? = some x.o ∧ cs[k]? = some x.c ∧ bs[k]? = some x.bef
  | [], _, _, _, _, h => by simp [zipDI] at h
  | _ :: _, [], _, _, _, h => by simp [zipDI] at h
  | _ :: _, _ :: _, [], _, _, h => by simp [zipDI] at h
  | o :: os, c :: cs, b :: bs, i, x, h => by
    simp only [zipDI, List.mem_cons] at h
    rcases h with h | h
    · subst h; exact ⟨0, rfl, rfl, rfl, rfl⟩
    · obtain ⟨k, h1, h2, h3, h4⟩ := zipDI_mem os cs bs (i + 1) x h
      exact ⟨k + 1, by omega, by simpa using h2, by simpa using h3, by simpa using h4⟩

theorem compOps_get {P : Program} {N : Nat} {ops : Array Oper} : ∀ {os : List Oper} {cs : List CR}, compOps P N ops os = some cs → ∀ (k : Nat) (o : Oper) (c : CR), os[k]? = some o → cs[k]? = some c → compOp P N ops o = some c
  | [], cs, h, k, o, c, ho, hc => by simp at ho
  | p :: os, cs, h, k, o, c, ho, hc => by
    simp only [compOps] at h
    split at h
    · rename_i c1 l1 h1 h2
      injection h with h; subst h
      cases k with
      | zero => simp at ho hc; subst ho; subst hc; exact h1
      | succ k => exact compOps_get h2 k o c (by simpa using ho) (by simpa using hc)
    · cases h

theorem compOps_len {P : Program} {N : Nat} {ops : Array Oper} : ∀ {os : List Oper} {cs : List CR}, compOps P N ops os = some cs → cs.length = os.length
  | [], cs, h => by simp [compOps] at h; subst h; rfl
  | p :: os, cs, h => by
    simp only [compOps] at h
    split at h
    · rename_i c1 l1 h1 h2
      injection h with h; subst h
      simp [compOps_len h2]
    · cases h

/-! What must stand ahead. -/
theorem befs_spec : ∀ (l : List Oper) (done : List Nat), ∃ t, befs l done = done ++ t ∧ t.length = l.length ∧ ∀ (k : Nat) (o : Oper), l[k]? = some o → (done ++ t)[done.length + k]? = some (befOf ((done ++ t).take (done.length + k)) o)
  | [], done => ⟨[], by simp [befs], rfl, fun k o h => by simp at h⟩
  | o :: r, done => by
    obtain ⟨t, h1, h2, h3⟩ := befs_spec r (done ++ [befOf done o])
    refine ⟨befOf done o :: t, by simp [befs, h1], by simp [h2], fun k p hk => ?_⟩
    cases k with
    | zero =>
      simp at hk; subst hk
      simp
    | succ k =>
      have := h3 k p (by simpa using hk)
      simpa [Nat.add_assoc, Nat.add_comm 1 k] using this

theorem fold_bits (g : Edge → Nat) (c : Edge → Bool) : ∀ (l : List Edge) (m j : Nat), (l.foldl (fun m e => if c e then m ||| 2 ^ e.on ||| g e else m) m).testBit j = true → m.testBit j = true ∨ ∃ e ∈ l, c e = true ∧ (j = e.on ∨ (g e).testBit j = true)
  | [], m, j, h => .inl h
  | e :: r, m, j, h => by
    simp only [List.foldl_cons] at h
    rcases fold_bits g c r _ j h with h | ⟨e', h1, h2⟩
    · split at h
      · rename_i hc
        simp only [Nat.testBit_or, Bool.or_eq_true] at h
        rcases h with (h | h) | h
        · exact .inl h
        · exact .inr ⟨e, by simp, hc, .inl (by rw [Nat.testBit_two_pow] at h; simpa using (of_decide_eq_true h).symm)⟩
        · exact .inr ⟨e, by simp, hc, .inr h⟩
      · exact .inl h
    · exact .inr ⟨e', by simp [h1], h2⟩

/-- What is done holds all that must stand ahead. -/
def Closed (B : List Nat) (listed : Array Bool) : Prop := ∀ (i m : Nat), B[i]? = some m → listed.getD i false = true → ∀ j, m.testBit j = true → listed.getD j false = true

theorem bef_ready {ops : Array Oper} {listed : Array Bool} (hcl : Closed (befs ops.toList []) listed) {i m : Nat} {o : Oper} (ho : ops[i]? = some o) (hm : (befs ops.toList [])[i]? = some m)
    (hr : ∀ e ∈ o.after, Region.binds .any e = true → listed.getD e.on false = true) : ∀ j, m.testBit j = true → listed.getD j false = true := by
  obtain ⟨t, h1, h2, h3⟩ := befs_spec ops.toList []
  intro j hj
  have := h3 i o (by simpa using ho)
  simp only [List.nil_append] at h1
  simp only [List.length_nil, Nat.zero_add, List.nil_append] at this
  rw [h1] at hm
  rw [hm] at this
  injection this with this
  subst this
  unfold befOf at hj
  rcases fold_bits (fun e => (t.take i).getD e.on 0) (Region.binds .any) _ _ _ hj with h | ⟨e, he, hb, h⟩
  · simp at h
  · have he' : listed.getD e.on false = true := hr e (by simpa using he) hb
    rcases h with h | h
    · rw [h]; exact he'
    · rw [List.getD_eq_getElem?_getD] at h
      cases q : (t.take i)[e.on]? with
      | none => simp [q] at h
      | some m' =>
        simp only [q, Option.getD_some] at h
        have : t[e.on]? = some m' := by
          rw [List.getElem?_take] at q
          split at q
          · exact q
          · cases q
        exact hcl e.on m' (by rw [h1]; exact this) he' j h

theorem closed_set {ops : Array Oper} {listed : Array Bool} (hcl : Closed (befs ops.toList []) listed) {i : Nat} (hr : ∀ m, (befs ops.toList [])[i]? = some m → ∀ j, m.testBit j = true → listed.getD j false = true) :
    Closed (befs ops.toList []) (listed.setIfInBounds i true) := by
  intro k m hm hk j hj
  by_cases e : i = k
  · subst e
    exact getD_set_true (hr m hm j hj)
  · rw [getD_set_ne false e] at hk
    exact getD_set_true (hcl k m hm hk j hj)

theorem wins_get : ∀ (l r : List DI) (k i : Nat), (wins l r k)[i]? = (r[i]?).map fun x => { x.c with win := winOf x (k + i) l 0 }
  | l, [], k, i => by simp [wins]
  | l, x :: r, k, i => by
    cases i with
    | zero => simp [wins]
    | succ i => simp only [wins, List.getElem?_cons_succ, wins_get l r (k + 1) i]; rw [Nat.add_assoc, Nat.add_comm 1 i]

theorem wins_len : ∀ (l r : List DI) (k : Nat), (wins l r k).length = r.length
  | l, [], k => rfl
  | l, x :: r, k => by simp [wins, wins_len l r (k + 1)]

theorem winOf_spec {x : DI} {k : Nat} : ∀ {l : List DI} {s i : Nat} {y : DI}, l[i]? = some y → isActs y.c = true →
    (s + i < k → x.bef.testBit y.i = false → s + i ∈ winOf x k l s) ∧ (k < s + i → y.bef.testBit x.i = false → s + i + 1 ∈ winOf x k l s)
  | [], s, i, y, h, _ => by simp at h
  | z :: r, s, i, y, h, ha => by
    cases i with
    | zero =>
      simp at h; subst h
      refine ⟨fun h1 h2 => ?_, fun h1 h2 => ?_⟩
      · have : Nat.blt s k = true := by rw [Nat.blt_eq]; simpa using h1
        simp [winOf, ha, this, h2]
      · have e1 : Nat.blt s k = false := by
          cases e : Nat.blt s k with
          | false => rfl
          | true => rw [Nat.blt_eq] at e; omega
        have e2 : Nat.beq s k = false := by
          cases e : Nat.beq s k with
          | false => rfl
          | true => have := Nat.eq_of_beq_eq_true e; omega
        simp [winOf, ha, e1, e2, h2]
    | succ i =>
      have := winOf_spec (x := x) (k := k) (l := r) (s := s + 1) (i := i) (y := y) (by simpa using h) ha
      rw [Nat.add_assoc, Nat.add_comm 1 i] at this
      refine ⟨fun h1 h2 => ?_, fun h1 h2 => ?_⟩
      · have h3 := this.1 h1 h2
        unfold winOf
        repeat' split
        all_goals first | exact h3 | exact List.mem_cons_of_mem _ h3
      · have h3 := this.2 h1 h2
        unfold winOf
        repeat' split
        all_goals first | exact h3 | exact List.mem_cons_of_mem _ h3

theorem hasN_false {d : Nat} : ∀ {l : List Nat}, hasN d l = false → d ∉ l
  | [], _ => by simp
  | x :: r, h => by
    unfold hasN at h
    split at h
    · cases h
    · rename_i e
      have : d ≠ x := by rintro rfl; simp [Nat.beq_refl] at e
      simp [this, hasN_false h]

theorem sameN_some {a : Option Nat} {d : Nat} (h : sameN a (some d) = false) : a ≠ some d := by
  rintro rfl
  simp [sameN, Nat.beq_refl] at h

theorem apartC_spec {x y : CR} (h : apartC x y = true) : (∀ d, x.dst = some d → d ∉ looksC y) ∧ (∀ d, x.dst = some d → y.dst ≠ some d) ∧ (∀ d, y.dst = some d → d ∉ looksC x) := by
  unfold apartC at h
  rw [Bool.and_eq_true] at h
  refine ⟨fun d hd => ?_, fun d hd => ?_, fun d hd => ?_⟩
  · have := h.1; simp only [hd, Bool.and_eq_true, Bool.not_eq_true'] at this; exact hasN_false this.1
  · have := h.1; simp only [hd, Bool.and_eq_true, Bool.not_eq_true'] at this; exact sameN_some this.2
  · have := h.2; simp only [hd, Bool.not_eq_true'] at this; exact hasN_false this

/-- What is known of a region that draws. -/
structure DF (P : Program) (N : Nat) (ops : Array Oper) (l : List DI) (two : Option (Nat × Nat)) : Prop where
  len : l.length = ops.size
  op : ∀ x ∈ l, ops[x.i]? = some x.o ∧ compOp P N ops x.o = some x.c ∧ (befs ops.toList [])[x.i]? = some x.bef
  cov : ∀ j, j < ops.size → ∃ x ∈ l, x.i = j
  back : ∀ x ∈ l, ∀ e ∈ x.o.after, Region.binds .any e = true → e.on < x.i
  nobar : ∀ x ∈ l, x.c.op.cl ≠ .bars
  pair : ∀ (j k : Nat) (x y : DI), j < k → l[j]? = some x → l[k]? = some y → pairOk two j k x y = true
  two : twoChk l two = true

theorem covers_spec {l : List DI} : ∀ {n : Nat}, covers l n = true → ∀ j, j < n → ∃ x ∈ l, x.i = j
  | 0, _, j, hj => by omega
  | n + 1, h, j, hj => by
    simp only [covers, Bool.and_eq_true] at h
    by_cases e : j = n
    · obtain ⟨x, hx, he⟩ := List.any_eq_true.1 h.1
      exact ⟨x, hx, by rw [e]; exact Nat.eq_of_beq_eq_true he⟩
    · exact covers_spec h.2 j (by omega)

theorem draw_facts {P : Program} {N : Nat} {ops : Array Oper} : compDraw P N ops = stuckC ∨ ∃ l two, compDraw P N ops = .draw (wins l l 0) two ∧ DF P N ops l two := by
  unfold compDraw
  split
  · exact .inl rfl
  · rename_i cs hcs
    unfold drawL
    split
    · rename_i hchk
      refine .inr ⟨_, _, rfl, ?_⟩
      generalize hl : reorder (zipDI ops.toList cs (befs ops.toList []) 0) = l at hchk ⊢
      generalize twoOf l = two at hchk ⊢
      simp only [chkD, Bool.and_eq_true] at hchk
      obtain ⟨⟨⟨⟨h1, h2⟩, h3⟩, h4⟩, h5⟩ := hchk
      have hone : ∀ x ∈ l, oneOk x = true := List.all_eq_true.1 h3
      refine ⟨Nat.eq_of_beq_eq_true h1, fun x hx => ?_, covers_spec h2, fun x hx e he hb => ?_, fun x hx => ?_, fun j k x y hjk hj hk => ?_, h5⟩
      · rw [← hl] at hx
        obtain ⟨k, k1, k2, k3, k4⟩ := zipDI_mem _ _ _ _ _ (reorder_mem hx)
        rw [Nat.zero_add] at k1
        rw [k1]
        exact ⟨by simpa using k2, compOps_get hcs k _ _ k2 k3, k4⟩
      · have := hone x hx
        simp only [oneOk, Bool.and_eq_true] at this
        have := List.all_eq_true.1 this.1 e (by simpa using he)
        simp only [hb, Bool.not_true, Bool.false_or] at this
        rwa [Nat.blt_eq] at this
      · have := hone x hx
        simp only [oneOk, Bool.and_eq_true] at this
        intro hc
        simp [hc] at this
      · have := all2_spec h4 j k x y hjk hj hk
        simpa using this
    · exact .inl rfl
end Go.Ab
