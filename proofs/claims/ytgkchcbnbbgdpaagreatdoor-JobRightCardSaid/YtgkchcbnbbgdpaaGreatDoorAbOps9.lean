/- Literals, maps, and the rest. -/
import Derived.Test.YtgkchcbnbbgdpaaGreatDoorAbOps8
namespace Go.Ab
section
variable {P : Program} {σ : Ren} {h : H} {w : World}

theorem mapM_places (P : Program) (w : World) : ∀ (l : List Field), (∀ f ∈ l, ∃ s, sizeT P f.type = some s) → ∃ r, (l.mapM (fun f => do pure (f.offset, ← sizeOf f.type) : Field → Sem (Nat × Nat))).run P w = .ok r w ∧ r.length = l.length ∧
    ∀ (i : Nat) (f : Field) (s : Nat), l[i]? = some f → sizeT P f.type = some s → r[i]? = some (f.offset, s)
  | [], _ => ⟨[], rfl, rfl, fun i f s h => by simp at h⟩
  | f :: l, h => by
    obtain ⟨s, hs⟩ := h f (by simp)
    obtain ⟨r, h1, h2, h3⟩ := mapM_places P w l fun g hg => h g (by simp [hg])
    refine ⟨(f.offset, s) :: r, ?_, by simp [h2], fun i g s' hi hs' => ?_⟩
    · simp only [List.mapM_cons, Sem.run_bind, run_sizeOf hs, Result.andThen_ok, Sem.run_pure, h1]
    · cases i with
      | zero => simp at hi; subst hi; rw [hs] at hs'; injection hs' with hs'; subst hs'; rfl
      | succ i => simp at hi; simpa using h3 i g s' hi hs'

theorem buildS_sim {ts : TS} {a : Act} (htr : TR σ ts a.tmps) {t : TypeId} {fs : Array Field} (ht : P.underlying t = some (.struct fs)) (hfs : ∀ f ∈ fs.toList, ∃ s, sizeT P f.type = some s) {z : List AV} (hz : cellsT P t = some z)
    {parts : List (Nat × Operand)} {rp : List (Nat × Nat × Opd)} (hp : partsS P fs parts = some rp) {out : List AV} (hf : fillA ts z rp = some out) :
    Gives P σ w (Instr.build t (parts.map fun p => (p.1, a.eval p.2)).toArray) (.agg out) := by
  obtain ⟨v, h1, h2⟩ := zero_cells (P := P) (σ := σ) (w := w) hz
  obtain ⟨r, m1, m2, m3⟩ := mapM_places P w fs.toList hfs
  obtain ⟨p1, p2⟩ := partsS_ok parts rp hp
  have hmap : (fs.mapM (fun f => do pure (f.offset, ← sizeOf f.type) : Field → Sem (Nat × Nat))).run P w = .ok r.toArray w := by
    rw [Array.mapM_eq_mapM_toList]
    simp only [bind_pure_comp] at m1 ⊢
    simp [m1]
  obtain ⟨arr, k1, k2, k3⟩ := fill_sim htr (r.toArray[·]?) parts rp z v.cells out (fun i p hi => by
    obtain ⟨f, s, g1, g2, g3⟩ := p2 i p hi
    exact ⟨_, g3, by simpa using m3 p.1 f s (by simpa using g1) g2, rfl⟩) p1.symm h2 hf
  refine ⟨.agg arr, ?_, VR.mk_agg' k2⟩
  simp only [Instr.build, Sem.run_bind, h1, Result.andThen_ok, run_underlying ht, hmap, k1]
  rfl

theorem buildA_sim {ts : TS} {a : Act} (htr : TR σ ts a.tmps) {t e : TypeId} {n s : Nat} (ht : P.underlying t = some (.array n e)) (hs : sizeT P e = some s) {z : List AV} (hz : cellsT P t = some z)
    {parts : List (Nat × Operand)} {out : List AV} (hf : fillA ts z (partsA s parts) = some out) : Gives P σ w (Instr.build t (parts.map fun p => (p.1, a.eval p.2)).toArray) (.agg out) := by
  obtain ⟨v, h1, h2⟩ := zero_cells (P := P) (σ := σ) (w := w) hz
  obtain ⟨p1, p2⟩ := partsA_ok s parts
  obtain ⟨arr, k1, k2, k3⟩ := fill_sim htr (fun i => some (i * s, s)) parts (partsA s parts) z v.cells out (fun i p hi => ⟨_, p2 i p hi, rfl, rfl⟩) p1.symm h2 hf
  refine ⟨.agg arr, ?_, VR.mk_agg' k2⟩
  simp only [Instr.build, Sem.run_bind, h1, Result.andThen_ok, run_underlying ht, run_sizeOf hs, k1]
  rfl

theorem bslice_sim (r : HR σ h w) {ts : TS} {a : Act} (htr : TR σ ts a.tmps) {t e : TypeId} {n s : Nat} (ht : P.underlying t = some (.slice e)) (hs : sizeT P e = some s) (hs0 : 0 < s) {cs : List AV} (hc : cellsT P e = some cs) (hl : cs.length = s) (hn : n * s ≤ 2 ^ 24)
    {parts : List (Nat × Operand)} {out : List AV} (hf : fillA ts (repA n cs) (partsA s parts) = some out) :
    Makes P σ h w (Instr.buildSlice t n (parts.map fun p => (p.1, a.eval p.2)).toArray) (.sl h.next 0 n none s) (h.new (.cells true out)) := by
  intro hfr
  obtain ⟨v, h1, h2⟩ := zero_cells (P := P) (σ := σ) (w := w) hc
  have hvs : v.cells.size = s := by rw [← Array.length_toList, ← h2.1, hl]
  have hrows := range_map_rep n v.cells (by omega)
  rw [hvs] at hrows
  obtain ⟨p1, p2⟩ := partsA_ok s parts
  obtain ⟨arr, k1, k2, k3⟩ := fill_sim htr (fun i => some (i * s, s)) parts (partsA s parts) (repA n cs) ((Array.range (n * s)).map (v.cells[· % s]!)) out (fun i p hi => ⟨_, p2 i p hi, rfl, rfl⟩) p1.symm (by rw [hrows]; exact LR.replicate h2 n) hf
  obtain ⟨σ', L, q1, q2, q3, q4, q5, q6⟩ := newRow_sim (P := P) (e := e) r k2 (List.append_nil _).symm (fresh_new hfr)
  have hasz : arr.size = n * s := by rw [k3]; simp
  refine ⟨σ', .slice (some ⟨L.blk, 0, none⟩) n n, _, ?_, .sl q2 (Nat.le_refl n) (by intro q hq; cases hq) hs0 (by rw [q4, hasz]; simp) (.inr (by rw [q3])), q5, q6⟩
  have h24 : ¬ (n * s > 2 ^ 24) := by omega
  by_cases hn0 : n * s = 0
  · have hn1 : n = 0 := by rcases Nat.mul_eq_zero.1 hn0 with h | h <;> omega
    subst hn1
    simp only [Nat.zero_mul] at k1
    simp only [Instr.buildSlice, Sem.run_bind, run_underlying ht, Result.andThen_ok, run_sizeOf hs, Nat.zero_mul]
    simp [show Array.range 0 = #[] from rfl] at k1 ⊢
    rw [k1]
    simp [q1]
  · simp only [Instr.buildSlice, Sem.run_bind, run_underlying ht, Result.andThen_ok, run_sizeOf hs]
    simp only [gt_iff_lt] at h24
    simp [h24, hn0, h1, hvs, k1, q1]

/-! Maps. -/

theorem keyT_kind {k : TypeId} {q : EqK} (hk : keyT P k = some q) : kindK P k = some q ∧ ((∃ i, P.underlying k = some (.int i) ∧ q = .int) ∨ (P.underlying k = some .string ∧ q = .str)) := by
  unfold keyT at hk
  unfold kindK
  split at hk <;> first | (cases hk; done) | (rename_i e; injection hk with hk; subst hk; rw [e]; simp)

theorem checkKey_ok {k : TypeId} {q : EqK} (hk : keyT P k = some q) {b : Bool} {n : Nat} {v : Value} : (Instr.checkKey b (n + 1) k v).run P w = .ok () w := by
  obtain ⟨_, ⟨i, e, _⟩ | ⟨e, _⟩⟩ := keyT_kind hk <;>
    simp only [Instr.checkKey, Sem.run_bind, run_underlying e, Result.andThen_ok] <;> cases v <;> rfl

theorem sameNow_ok {k : TypeId} {q : EqK} (hk : keyT P k = some q) {d : TypeDesc} (hd : P.underlying k = some d) {v u : AV} {x y : Value} (hx : VR σ v x) (hy : VR σ u y) {b : Bool} (he : eqK q v u = some b) : Instr.sameNow d x y = some b := by
  obtain ⟨_, ⟨i, e, rfl⟩ | ⟨e, rfl⟩⟩ := keyT_kind hk
  · rw [hd] at e; injection e with e; subst e
    cases hx <;> cases hy <;> simp only [eqK] at he <;> try (cases he; done)
    split at he
    · rename_i hkk
      have hkk := kindEq_iff hkk
      subst hkk
      injection he with he; subst he
      simp only [Instr.sameNow]
      rw [if_pos trivial]
      rfl
    · cases he
  · rw [hd] at e; injection e with e; subst e
    cases hx <;> cases hy <;> simp only [eqK] at he <;> try (cases he; done)
    injection he with he; subst he
    rw [str_eq, ← ba_beq]
    simp [Instr.sameNow]

def MR (σ : Ren) (es : List ME) (es' : List MapEntry) : Prop := es'.length = es.length ∧ ∀ (i : Nat) (e : ME) (e' : MapEntry), es[i]? = some e → es'[i]? = some e' → VR σ e.key e'.key ∧ VR σ e.val e'.val ∧ e.born = e'.born

theorem find_sim {k : TypeId} {q : EqK} (hk : keyT P k = some q) {d : TypeDesc} (hd : P.underlying k = some d) {v : AV} {x : Value} (hx : VR σ v x) : ∀ (es : List ME) (es' : List MapEntry) (i : Nat) (r : Option (Nat × AV)), MR σ es es' → findME q v es i = some r →
    ∃ r', Instr.findNow d x es' i = some r' ∧ (match r with | none => r' = none | some (j, u) => ∃ u', r' = some (j, u') ∧ VR σ u u' ∧ i ≤ j ∧ j - i < es.length)
  | [], es', i, r, hm, hf => by
    have : es' = [] := List.eq_nil_of_length_eq_zero hm.1
    subst this
    simp only [findME, Option.some.injEq] at hf
    subst hf
    exact ⟨none, rfl, rfl⟩
  | e :: es, es', i, r, hm, hf => by
    cases es' with
    | nil => have := hm.1; simp at this
    | cons e' es' =>
      obtain ⟨h1, h2, h3⟩ := hm.2 0 e e' rfl rfl
      simp only [findME] at hf
      split at hf
      · rename_i g
        injection hf with hf; subst hf
        have := sameNow_ok hk hd hx h1 g
        exact ⟨some (i, e'.val), by simp [Instr.findNow, this], e'.val, rfl, h2, Nat.le_refl i, by simp⟩
      · rename_i g
        have := sameNow_ok hk hd hx h1 g
        obtain ⟨r', k1, k2⟩ := find_sim hk hd hx es es' (i + 1) r ⟨by have := hm.1; simpa using this, fun j a b ha hb => hm.2 (j + 1) a b (by simpa using ha) (by simpa using hb)⟩ hf
        refine ⟨r', by simp [Instr.findNow, this, k1], ?_⟩
        cases r with
        | none => exact k2
        | some p =>
          obtain ⟨j, u⟩ := p
          obtain ⟨u', a, b, c, d⟩ := k2
          exact ⟨u', a, b, by omega, by simp; omega⟩
      · cases hf

theorem entries_ok (r : HR σ h w) {x : AV} {x' : Value} (hx : VR σ x x') {es : List ME} {c : Nat} (he : entriesA h x = some (es, c)) :
    (x = .mnil ∧ x' = .map none ∧ es = []) ∨ ∃ b L es', x = .map b ∧ σ b = some L ∧ x' = .map (some L.blk) ∧ h.get b = some (.map es c) ∧ w.heap[L.blk]? = some (.map es' c) ∧ MR σ es es'.toList := by
  cases hx with
  | mnil => simp [entriesA] at he; exact .inl ⟨rfl, rfl, he.1⟩
  | @map b L hL =>
    simp only [entriesA] at he
    split at he
    · rename_i es0 c0 g
      simp only [Option.some.injEq, Prod.mk.injEq] at he
      obtain ⟨e1, e2⟩ := he
      subst e1; subst e2
      obtain ⟨es', h1, h2, h3⟩ := r.blk b _ L g hL
      exact .inr ⟨b, L, es', rfl, hL, rfl, g, h1, ⟨by simpa using h2, fun i e e' a b => h3 i e e' a (by simpa using b)⟩⟩
    · cases he
  | _ => simp [entriesA] at he

theorem foundA_ok {q : EqK} {x k : AV} {es : List ME} {c : Nat} {r : Option (Nat × AV)} (hf : foundA q h x k = some (es, c, r)) : entriesA h x = some (es, c) ∧ findME q k es 0 = some r := by
  unfold foundA at hf
  split at hf
  · rename_i es0 c0 g
    split at hf
    · rename_i r0 g2
      simp only [Option.some.injEq, Prod.mk.injEq] at hf
      obtain ⟨e1, e2, e3⟩ := hf
      subst e1; subst e2; subst e3
      exact ⟨g, g2⟩
    · cases hf
  · cases hf

theorem run_getMap {b c : Nat} {es' : Array MapEntry} (hb : w.heap[b]? = some (.map es' c)) : (getObj b).run P w = .ok (.map es' c) w := by
  simp [getObj, Sem.run, hb]
theorem run_setMap {b c : Nat} {es' : Array MapEntry} {o : Obj} (hb : w.heap[b]? = some (.map es' c)) : (setObj b o).run P w = .ok () { w with heap := w.heap.setIfInBounds b o } := by
  simp [setObj, Sem.run, hb]

theorem findKey_run {k : TypeId} {d : TypeDesc} (hd : P.underlying k = some d) {x : Value} {es : List MapEntry} {r : Option (Nat × Value)} (hf : Instr.findNow d x es 0 = some r) : (Instr.findKey k x es).run P w = .ok r w := by
  simp [Instr.findKey, run_underlying hd, hf]

theorem look_sim (r : HR σ h w) {t kt e : TypeId} {q : EqK} {z : AV} (ht : P.underlying t = some (.map kt e)) (hk : keyT P kt = some q) (hz : zeroT P e = some z) {x k v : AV} {x' k' : Value} {ok : Bool} (hx : VR σ x x') (hkk : VR σ k k')
    (hv : lookA q z ok h x k = some v) : Gives P σ w (Instr.lookup t x' k' ok) v := by
  unfold lookA at hv
  split at hv
  · rename_i es c res hf
    obtain ⟨g1, g2⟩ := foundA_ok hf
    obtain ⟨zv, z1, z2⟩ := run_zero (P := P) (w := w) hz
    subst z2
    have hd : ∃ d, P.underlying kt = some d := by obtain ⟨_, ⟨i, e, _⟩ | ⟨e, _⟩⟩ := keyT_kind hk <;> exact ⟨_, e⟩
    obtain ⟨d, hd⟩ := hd
    have key : ∃ r', (Instr.lookup t x' k' ok).run P w = (match r' with | some (_, v) => (.ok (if ok then .tuple #[v, .bool true] else v) w : Result Value) | none => .ok (if ok then .tuple #[zv, .bool false] else zv) w) ∧
        (match res with | none => r' = none | some (j, u) => ∃ u', r' = some (j, u') ∧ VR σ u u' ∧ 0 ≤ j ∧ j - 0 < es.length) := by
      rcases entries_ok r hx g1 with ⟨rfl, rfl, rfl⟩ | ⟨b, L, es', rfl, hL, rfl, h1, h2, h3⟩
      · obtain ⟨r', k1, k2⟩ := find_sim (σ := σ) hk hd hkk [] [] 0 res ⟨rfl, fun i e e' a => by simp at a⟩ g2
        have hfk := findKey_run (P := P) (w := w) hd k1
        refine ⟨r', ?_, k2⟩
        simp only [Instr.lookup, Sem.run_bind, run_underlying ht, Result.andThen_ok, Sem.run_pure, checkKey_ok hk, hfk]
        cases r' with
        | none => cases ok <;> simp [z1]
        | some p => cases ok <;> simp
      · obtain ⟨r', k1, k2⟩ := find_sim hk hd hkk es es'.toList 0 res h3 g2
        have hfk := findKey_run (P := P) (w := w) hd k1
        refine ⟨r', ?_, k2⟩
        simp only [Instr.lookup, Sem.run_bind, run_underlying ht, Result.andThen_ok, run_getMap h2, Sem.run_pure, checkKey_ok hk, hfk]
        cases r' with
        | none => cases ok <;> simp [z1]
        | some p => cases ok <;> simp
    obtain ⟨r', hrun, k2⟩ := key
    cases res with
    | none =>
      simp only at hv k2
      subst k2
      injection hv with hv; subst hv
      refine ⟨_, hrun, ?_⟩
      cases ok
      · exact VR.ofV σ zv
      · exact VR.mk_tup (.cons (VR.ofV σ zv) (.one (.bool false)))
    | some p =>
      obtain ⟨j, u⟩ := p
      simp only at hv k2
      obtain ⟨u', rfl, hu, _⟩ := k2
      injection hv with hv; subst hv
      refine ⟨_, hrun, ?_⟩
      cases ok
      · exact hu
      · exact VR.mk_tup (.cons hu (.one (.bool true)))
  · cases hv

theorem sameBits_key {q : EqK} {v u : AV} {x y : Value} (hx : VR σ v x) (hy : VR σ u y) (he : eqK q v u = some true) (hq : q ≠ .bool) : Instr.sameBits 10000 y x = true := by
  cases hx <;> cases hy <;> cases q <;> simp only [eqK] at he <;> try (cases he; done)
  · exact absurd rfl hq
  · split at he
    · rename_i hkk
      have hkk := kindEq_iff hkk
      subst hkk
      injection he with he
      have := of_decide_eq_true he
      subst this
      simp [Instr.sameBits]
    · cases he
  · rename_i s u
    injection he with he
    rw [str_eq, ← ba_beq] at he
    have e : s = u := by
      have h1 : (s.data == u.data) = true := he
      have h2 : s.data = u.data := by simpa using h1
      cases s; cases u; simp at h2; subst h2; rfl
    subst e
    unfold Instr.sameBits
    exact he

theorem MR.setAt {es : List ME} {es' : List MapEntry} (hm : MR σ es es') {k v : AV} {k' v' : Value} (hk : VR σ k k') (hv : VR σ v v') (i : Nat) : MR σ (setAt k v es i) (es'.modify i fun e => { e with key := k', val := v' }) := by
  induction es generalizing es' i with
  | nil =>
    have : es' = [] := List.eq_nil_of_length_eq_zero hm.1
    subst this
    exact ⟨by simp [Ab.setAt], fun i e e' a => by simp [Ab.setAt] at a⟩
  | cons e es ih =>
    cases es' with
    | nil => have := hm.1; simp at this
    | cons e' es' =>
      have h0 := hm.2 0 e e' rfl rfl
      have ht : MR σ es es' := ⟨by have := hm.1; simpa using this, fun j a b ha hb => hm.2 (j + 1) a b (by simpa using ha) (by simpa using hb)⟩
      cases i with
      | zero =>
        refine ⟨by simp [Ab.setAt, ht.1], fun j a b ha hb => ?_⟩
        cases j with
        | zero => simp [Ab.setAt] at ha hb; subst ha; subst hb; exact ⟨hk, hv, h0.2.2⟩
        | succ j => simp [Ab.setAt] at ha hb; exact ht.2 j a b ha hb
      | succ i =>
        have := ih ht i
        refine ⟨by have := this.1; simpa [Ab.setAt] using this, fun j a b ha hb => ?_⟩
        cases j with
        | zero => simp [Ab.setAt] at ha hb; subst ha; subst hb; exact h0
        | succ j => simp [Ab.setAt] at ha hb; exact this.2 j a b ha (by simpa using hb)

/-- A map turns. -/
theorem mapTurn (r : HR σ h w) {b : Nat} {L : Loc} {es : List ME} {c c' : Nat} {es' ns' : Array MapEntry} {ns : List ME} (hL : σ b = some L) (hg : h.get b = some (.map es c)) (hb : w.heap[L.blk]? = some (.map es' c)) (hn : MR σ ns ns'.toList) :
    (setObj L.blk (.map ns' c')).run P w = .ok () { w with heap := w.heap.setIfInBounds L.blk (.map ns' c') } ∧ HR σ (h.put b (some (.map ns c'))) { w with heap := w.heap.setIfInBounds L.blk (.map ns' c') } ∧
      Ext σ σ h (h.put b (some (.map ns c'))) w { w with heap := w.heap.setIfInBounds L.blk (.map ns' c') } := by
  have hlt := r.bnd b L hL
  obtain ⟨k1, k2⟩ := r.change (w' := { w with heap := w.heap.setIfInBounds L.blk (.map ns' c') }) hL (.inr ⟨es, c, hg⟩) (.map ns c') (by simp) rfl rfl rfl
    (fun k hk => by simp [Array.getElem?_setIfInBounds, Ne.symm hk]) ⟨ns', by simp [Array.getElem?_setIfInBounds, hlt], by simpa using hn.1, fun i e e' a b => hn.2 i e e' a (by simpa using b)⟩
  exact ⟨run_setMap hb, k1, k2⟩
end
end Go.Ab
