/- Joined out of: AbOps7 AbOps8 AbOps9 AbOps10 AbOp AbOpAll AbMaster AbCls AbStat AbDraw AbDraw2 AbDraw3 AbDraw4 AbDraw5 AbDraw6 AbDraw7 AbReg AbRegS AbExec AbCall AbLev. -/
import Derived.Test.YtgkchcbnbbgdpaaGreatDoorJvA
import Derived.IntWalk
import Derived.Orders
import Derived.Recover
set_option linter.unusedVariables false
set_option linter.unusedSimpArgs false
namespace Go.Ab
section
variable {P : Program} {σ : Ren} {h : H} {w : World}
theorem append_zero {t tx ty e : TypeId} {i : TypeInfo} (ht : P.underlying t = some (.slice e)) (hi : P.info? e = some i) {base : Option Addr} {sLen sCap : Nat} (hl : sLen ≤ sCap) {x : Value} (hs : Src P i.size tx x 0 [] w) :
    (Builtin.append_ #[t, tx] ty #[.slice base sLen sCap, x]).run P w = .ok (.slice base sLen sCap) w := by
  have hc := hs.cells
  rcases hs.kind with ⟨e', hk⟩ | hk <;> cases base <;> simp [Builtin.append_, run_underlying ht, run_underlying hk, sizeOf, typeInfo, hi, hs.len, hl, hc, storeCells]
theorem append_sim (r : HR σ h w) {t tx ty e : TypeId} {i : TypeInfo} {zv : Value} (ht : P.underlying t = some (.slice e)) (hk : (∃ e', P.underlying tx = some (.slice e')) ∨ P.underlying tx = some .string) (hi : P.info? e = some i) (hz : i.zero = some zv) (hzc : zv.cells.size = i.size)
    (hz0 : 0 < i.size) {s x v : AV} {s' x' : Value} {h' : H} (hs : VR σ s s') (hx : VR σ x x') (ha : appendA i.size i.bytes h s x = some (v, h')) : Makes P σ h w (Builtin.append_ #[t, tx] ty #[s', x']) v h' := by
  intro hf
  unfold appendA at ha
  split at ha
  · rename_i old new n k gs g1 g2 g3 g4
    obtain ⟨n', olds, p1, p2, p3, p4, p5, p6, _⟩ := row_src r hs g1
    rw [g3] at p1; injection p1 with p1; subst p1
    obtain ⟨k', news, q1, q2, q3, q4, q5, q6, _⟩ := row_src r hx g2
    rw [g4] at q1; injection q1 with q1; subst q1
    have hslice : ∃ base c, s' = .slice base n c ∧ n ≤ c := by
      cases hs with
      | snil => simp only [lenA, Option.some.injEq] at g3; subst g3; exact ⟨none, 0, rfl, Nat.le_refl _⟩
      | sl a b => simp only [lenA, Option.some.injEq] at g3; subst g3; exact ⟨_, _, rfl, b⟩
      | str s => cases gs
      | _ => simp [lenA] at g3
    cases k with
    | zero =>
      simp only [Option.some.injEq, Prod.mk.injEq] at ha
      obtain ⟨e1, e2⟩ := ha
      subst e1; subst e2
      have : news = [] := List.eq_nil_of_length_eq_zero (by rw [q3]; simp)
      subst this
      obtain ⟨base, c, rfl, hc⟩ := hslice
      exact ⟨σ, _, w, append_zero ht hi hc ⟨hk, q4, q5, q6, by simp, fun u hu => by cases hu⟩, hs, r, Ext.refl σ h w⟩
    | succ k =>
      simp only at ha
      split at ha
      · rename_i c1 c2 c3
        have c1 := Nat.le_of_ble_eq_true c1
        have c2 := Nat.le_of_ble_eq_true c2
        have hsrc : Src P i.size tx x' (k + 1) news w := ⟨hk, q4, q5, q6, q3, q2.oneCell c3⟩
        cases hs with
        | snil =>
          simp only [lenA, Option.some.injEq] at g3
          subst g3
          simp only [rowA, Option.some.injEq] at g1
          subst g1
          simp only [growA, Option.some.injEq, Prod.mk.injEq] at ha
          obtain ⟨e1, e2⟩ := ha
          subst e1; subst e2
          have hon : olds = [] := p2.nil_inv
          subst hon
          obtain ⟨σ', v', w', k1, k2, k3, k4⟩ := grow_sim (ty := ty) r ht hi hz hzc hz0 (base := none) (sLen := 0) (sCap := 0) (run_firstCells_none w.drew _ 0 0 0) (by simp) p2 hsrc q2 (by omega) c1 c2 (fresh_new hf)
          exact ⟨σ', v', w', k1, k2, k3, k4⟩
        | @sl b o len z' off c cap L hL h1 hc hzz hss ho =>
          obtain ⟨cs, d1, d2, d3, d4⟩ := rowA_sl g1
          subst d2; subst d4
          simp only [lenA, Option.some.injEq] at g3
          subst g3
          simp only at ha
          split at ha
          · rename_i hcap
            simp only [growA, Option.some.injEq, Prod.mk.injEq] at ha
            obtain ⟨e1, e2⟩ := ha
            subst e1; subst e2
            have hlt : c < len + (k + 1) := by
              cases cap with
              | none => cases hcap
              | some q =>
                have h1 := hc _ rfl
                have h2 : q < len + (k + 1) := by simpa [Nat.blt_eq] using hcap
                omega
            obtain ⟨σ', v', w', k1, k2, k3, k4⟩ := grow_sim (ty := ty) r ht hi hz hzc hz0 (sCap := c) p6 p3 p2 hsrc q2 hlt c1 c2 (fresh_new hf)
            exact ⟨σ', v', w', k1, k2, k3, k4⟩
          · split at ha
            · rename_i h1' hdrop
              obtain ⟨⟨cs', hg⟩, rfl⟩ := dropA_ok hdrop
              have hcs : cs' = cs := by
                unfold H.cells at d1
                rw [hg] at d1
                injection d1
              subst hcs
              simp only [growA, Option.some.injEq, Prod.mk.injEq] at ha
              obtain ⟨e1, e2⟩ := ha
              subst e1; subst e2
              have hn : σ h.next = none := hf _ (Nat.le_refl _) (by rw [H.next_new, H.next_put]; omega)
              by_cases hroom : len + (k + 1) ≤ c
              · obtain ⟨σ', v', w', k1, k2, k3, k4⟩ := room_sim (ty := ty) r ht hi hz0 hL hss ho hg d3 hsrc q2 (by omega) hroom hn
                exact ⟨σ', v', w', k1, k2, k3, k4⟩
              · have hn' : σ (h.put b none).next = none := hn
                obtain ⟨σ', v', w', k1, k2, k3, k4⟩ := grow_sim (ty := ty) (r.gone b) ht hi hz hzc hz0 (sCap := c) p6 p3 p2 hsrc q2 (by omega) c1 c2 hn'
                exact ⟨σ', v', w', k1, k2, k3, (Ext.gone b).trans k4⟩
            · cases ha
        | str s => cases gs
        | _ => simp [lenA] at g3
      · cases ha
  · cases ha
theorem copy_sim (r : HR σ h w) {t tx ty e : TypeId} {z : Nat} (ht : P.underlying t = some (.slice e)) (hz : sizeT P e = some z) {d x v : AV} {d' x' : Value} {h' : H} (hd : VR σ d d') (hx : VR σ x x') (ha : copyA z h d x = some (v, h')) :
    Makes P σ h w (Builtin.copy_ #[t, tx] ty #[d', x']) v h' := by
  intro hf
  unfold copyA at ha
  split at ha
  · rename_i new k g1 g2
    obtain ⟨k', news, q1, q2, q3, q4, q5, q6, q7⟩ := row_src (P := P) r hx g1
    rw [g2] at q1; injection q1 with q1; subst q1
    cases hd with
    | snil =>
      simp only [Option.some.injEq, Prod.mk.injEq] at ha
      obtain ⟨e1, e2⟩ := ha
      subst e1; subst e2
      have := q7 0 (Nat.zero_le _)
      refine ⟨σ, .int .i64 0, w, ?_, .int _ _, r, Ext.refl σ h w⟩
      simp [Builtin.copy_, run_underlying ht, q4, run_sizeOf hz, this, goInt]
    | @sl b o n z' off c cap L hL h1 hc hzz hss ho =>
      replace ha : copySl z h new k b o n z' = some (v, h') := ha
      unfold copySl at ha
      split at ha
      · rename_i h2 e1 e2
        have e1 := Nat.eq_of_beq_eq_true e1
        subst e1
        simp only [Option.some.injEq, Prod.mk.injEq] at ha
        obtain ⟨f1, f2⟩ := ha
        subst f1; subst f2
        have hq := q7 (min k n) (Nat.min_le_left _ _)
        by_cases hm : min k n = 0
        · have hst : storeA h b o (new.take (min k n * z)) = some h2 := e2
          rw [hm] at hq hst
          simp only [Nat.zero_mul, List.take_zero] at hq hst
          unfold storeA at hst
          split at hst
          · rename_i cs hg
            split at hst
            · rename_i hle hok
              injection hst with hst
              have hsp : splice cs o [] = cs := by simp [splice]
              rw [hsp] at hst
              subst hst
              refine ⟨σ, .int .i64 0, w, ?_, by rw [hm]; exact .int _ _, ?_, ?_⟩
              · simp [Builtin.copy_, run_underlying ht, q4, run_sizeOf hz, show Nat.min k n = 0 from hm, hq, goInt, storeCells]
              · obtain ⟨k1, _⟩ := r.change (w' := w) hL (.inl ⟨cs, hg⟩) (.cells true cs) rfl rfl rfl rfl (fun _ _ => rfl) (r.blk b _ L hg hL)
                exact k1
              · obtain ⟨_, k2⟩ := r.change (w' := w) hL (.inl ⟨cs, hg⟩) (.cells true cs) rfl rfl rfl rfl (fun _ _ => rfl) (r.blk b _ L hg hL)
                exact k2
            · cases hst
          · cases hst
        · have hoff : off = L.base + o := by rcases ho with e | e <;> omega
          subst hoff
          obtain ⟨w', s1, s2, s3⟩ := storeCells_sim (P := P) r e2 hL (q2.take (min k n * z))
          refine ⟨σ, .int .i64 (Int.ofNat (min k n)), w', ?_, .int _ _, s2, s3⟩
          have : Nat.min k n = min k n := rfl
          simp [Builtin.copy_, run_underlying ht, q4, run_sizeOf hz, hq, goInt, s1, this]
      · cases ha
    | _ => simp at ha
  · cases ha
theorem range_map_rep (n : Nat) (z : Array Value) (hz : 0 < z.size) : ((Array.range (n * z.size)).map (z[· % z.size]!)).toList = (List.replicate n z.toList).flatten := by
  rw [Array.toList_map, Array.toList_range]
  induction n with
  | zero => simp
  | succ n ih =>
    rw [Nat.succ_mul, Nat.add_comm (n * z.size), List.range_add, List.map_append, List.replicate_succ, List.flatten_cons]
    congr 1
    · apply List.ext_getElem?
      intro i
      simp only [List.getElem?_map, Array.getElem?_toList]
      by_cases hi : i < z.size
      · simp [hi, Nat.mod_eq_of_lt hi, getElem!_pos]
      · simp [hi]
    · rw [← ih, List.map_map]
      apply List.map_congr_left
      intro i _
      simp [Nat.add_mod_left]
theorem zero_cells {e : TypeId} {cs : List AV} (hc : cellsT P e = some cs) : ∃ v, (zeroValue e).run P w = .ok v w ∧ LR σ cs v.cells.toList := by
  unfold cellsT at hc
  cases hzt : zeroT P e with
  | none => simp [hzt] at hc
  | some zv =>
    simp only [hzt, Option.map_some, Option.some.injEq] at hc
    obtain ⟨v, h1, h2⟩ := run_zero (P := P) (w := w) hzt
    subst h2; subst hc
    exact ⟨v, h1, LR.ofV_cells σ v⟩
theorem mkSl_sim (r : HR σ h w) {t e : TypeId} {i : TypeInfo} {cs : List AV} (ht : P.underlying t = some (.slice e)) (hi : P.info? e = some i) (hc : cellsT P e = some cs) (hl : cs.length = i.size) (hz0 : 0 < i.size) {n : Nat} {k k' : IntKind}
    (hb : n * i.bytes ≤ maxRow) (hm : n ≤ maxRow) : Makes P σ h w (Instr.makeSlice t (.int k (n : Int)) (.int k' (n : Int))) (.sl h.next 0 n none i.size) (h.new (.cells true (repA n cs))) := by
  intro hf
  unfold maxRow at hb hm
  obtain ⟨v, h1, h2⟩ := zero_cells (P := P) (σ := σ) (w := w) hc
  have hvs : v.cells.size = i.size := by rw [← Array.length_toList, ← h2.1, hl]
  have hw : IntKind.i64.wrap (n : Int) = (n : Int) := by
    exact IntWalk.i64_in _ ⟨by omega, by omega⟩
  have hrows := range_map_rep n v.cells (by omega)
  rw [hvs] at hrows
  obtain ⟨σ', L, k1, k2, k3, k4, k5, k6⟩ := newRow_sim (P := P) (e := e) r (LR.replicate h2 n) (arr := (Array.range (n * i.size)).map (v.cells[· % i.size]!)) (extra := []) (by rw [hrows]; simp) (fresh_new hf)
  refine ⟨σ', .slice (some ⟨L.blk, 0, none⟩) n n, _, ?_, .sl k2 (Nat.le_refl n) (by intro q hq; cases hq) hz0 (by rw [k4]; simp) (.inr (by rw [k3])), k5, k6⟩
  have hbytes : ¬ (((i.bytes : Int) * (n : Int)) > 2 ^ 48) := by
    have : ((n * i.bytes : Nat) : Int) = (i.bytes : Int) * (n : Int) := by rw [Nat.mul_comm]; simp
    omega
  have hroom : ¬ (n * i.bytes > roomBytes) := by unfold roomBytes; omega
  by_cases hn0 : n * i.size = 0
  · have harr : ((Array.range (n * i.size)).map (v.cells[· % i.size]!)) = #[] := by rw [hn0]; simp
    rw [harr] at k1 ⊢
    have hn1 : n = 0 := by rcases Nat.mul_eq_zero.1 hn0 with h | h <;> omega
    subst hn1
    have hw0 : IntKind.i64.wrap 0 = 0 := hw
    simp [Instr.makeSlice, hw0, show Array.range 0 = #[] from rfl, run_underlying ht, asInt, asIntOf, typeInfo, hi, sizeOf, hw, askRoom, roomBytes, k1]
  · simp [Instr.makeSlice, run_underlying ht, asInt, asIntOf, typeInfo, hi, sizeOf, hw, askRoom, hroom, hn0, h1, hvs, k1, show ¬ ((n : Int) < 0) by omega, hbytes]
    intro hlt
    exfalso
    omega
end
end Go.Ab
namespace Go.Ab
theorem foldl_fill (off : Nat) : ∀ (l : List Value) (k : Nat) (arr : Array Value), off + k + l.length ≤ arr.size →
    ((l.zipIdx k).foldl (fun cs p => cs.setIfInBounds (off + p.2) p.1) arr).toList = arr.toList.take (off + k) ++ l ++ arr.toList.drop (off + k + l.length)
  | [], k, arr, _ => by simp
  | v :: l, k, arr, h => by
    simp only [List.length_cons] at h
    rw [List.zipIdx_cons, List.foldl_cons, foldl_fill off l (k + 1) _ (by simp; omega)]
    have e := list_seg_step arr.toList (off + k) v l (by simp; omega)
    simpa [Array.toList_setIfInBounds, Nat.add_assoc, Nat.add_comm 1 l.length] using e
theorem VR.cells' {σ : Ren} {v : AV} {v' : Value} (h : VR σ v v') (hv : isAny v = false) : LR σ v.cells v'.cells.toList :=
  h.cells fun ds e => by
    subst e
    cases h with
    | agg => exact ⟨_, rfl⟩
    | any => cases hv
section
variable {P : Program} {σ : Ren} {h : H} {w : World}
theorem fill_sim {ts : TS} {a : Act} (htr : TR σ ts a.tmps) (place : Nat → Option (Nat × Nat)) : ∀ (parts : List (Nat × Operand)) (rp : List (Nat × Nat × Opd)) (cs : List AV) (ds : Array Value) (out : List AV),
    (∀ (i : Nat) (p : Nat × Operand), parts[i]? = some p → ∃ q, rp[i]? = some q ∧ place p.1 = some (q.1, q.2.1) ∧ q.2.2 = opd p.2) → parts.length = rp.length → LR σ cs ds.toList → fillA ts cs rp = some out →
    ∃ arr, Instr.fill place ds (parts.map fun p => (p.1, a.eval p.2)) = some arr ∧ LR σ out arr.toList ∧ arr.size = ds.size := by
  intro parts
  induction parts with
  | nil =>
    intro rp cs ds out _ hl hc hf
    cases rp with
    | nil =>
      simp only [fillA, Option.some.injEq] at hf
      subst hf
      exact ⟨ds, rfl, hc, rfl⟩
    | cons => simp at hl
  | cons p parts ih =>
    intro rp cs ds out hp hl hc hf
    cases rp with
    | nil => simp at hl
    | cons q rp =>
      obtain ⟨q', e1, e2, e3⟩ := hp 0 p rfl
      simp at e1
      subst e1
      obtain ⟨off, size, x⟩ := q
      simp only at e2 e3
      subst e3
      simp only [fillA] at hf
      split at hf
      · rename_i g1 g2 g3
        have hv := evA_ok htr p.2
        have hcv := hv.cells' g1
        have g2 := Nat.eq_of_beq_eq_true g2
        have g3 := Nat.le_of_ble_eq_true g3
        have hsz : (a.eval p.2).cells.size = size := by rw [← Array.length_toList, ← hcv.1, g2]
        have hlen := hc.1
        simp only [Array.length_toList] at hlen
        have hcond : ¬ ((a.eval p.2).cells.size ≠ size ∨ off + (a.eval p.2).cells.size > ds.size) := by
          intro hh; rcases hh with hh | hh <;> omega
        generalize hfo : (a.eval p.2).cells.zipIdx.foldl (fun (cs : Array Value) (p : Value × Nat) => cs.setIfInBounds (off + p.2) p.1) ds = nd
        have hnd : nd.toList = ds.toList.take off ++ (a.eval p.2).cells.toList ++ ds.toList.drop (off + (a.eval p.2).cells.toList.length) := by
          rw [← hfo, ← Array.foldl_toList, Array.toList_zipIdx]
          have := foldl_fill off (a.eval p.2).cells.toList 0 ds (by rw [Array.length_toList]; omega)
          simpa using this
        have hnsz : nd.size = ds.size := by
          rw [← Array.length_toList, hnd]; simp; omega
        obtain ⟨arr, k1, k2, k3⟩ := ih rp (splice cs off (evA ts (opd p.2)).cells) nd out (fun i p' hi => hp (i + 1) p' (by simpa using hi)) (by simpa using hl) (by rw [hnd]; exact hc.splice hcv off) hf
        refine ⟨arr, ?_, k2, by rw [k3, hnsz]⟩
        have hstep : Instr.fill place ds ((p.1, a.eval p.2) :: parts.map fun p => (p.1, a.eval p.2)) = Instr.fill place nd (parts.map fun p => (p.1, a.eval p.2)) := by
          simp only [Instr.fill, e2]
          rw [if_neg (by simp [hsz]; omega), ← hfo]
        rw [List.map_cons, hstep, k1]
      · cases hf
theorem partsA_ok (z : Nat) : ∀ (parts : List (Nat × Operand)), (partsA z parts).length = parts.length ∧ ∀ (i : Nat) (p : Nat × Operand), parts[i]? = some p → (partsA z parts)[i]? = some (p.1 * z, z, opd p.2)
  | [] => ⟨rfl, fun i p h => by simp at h⟩
  | (j, x) :: r => by
    obtain ⟨h1, h2⟩ := partsA_ok z r
    refine ⟨by simp [partsA, h1], fun i p h => ?_⟩
    cases i with
    | zero => simp at h; subst h; rfl
    | succ i => simp at h; simpa [partsA] using h2 i p h
theorem partsS_ok {fs : Array Field} : ∀ (parts : List (Nat × Operand)) (l : List (Nat × Nat × Opd)), partsS P fs parts = some l → l.length = parts.length ∧
    ∀ (i : Nat) (p : Nat × Operand), parts[i]? = some p → ∃ f s, fs[p.1]? = some f ∧ sizeT P f.type = some s ∧ l[i]? = some (f.offset, s, opd p.2)
  | [], l, h => by simp [partsS] at h; subst h; exact ⟨rfl, fun i p h => by simp at h⟩
  | (j, x) :: r, l, h => by
    simp only [partsS] at h
    split at h
    · rename_i f l' g1 g2
      split at h
      · rename_i s g3
        injection h with h; subst h
        obtain ⟨h1, h2⟩ := partsS_ok r l' g2
        refine ⟨by simp [h1], fun i p hp => ?_⟩
        cases i with
        | zero => simp at hp; subst hp; exact ⟨f, s, g1, g3, rfl⟩
        | succ i => simp at hp; simpa using h2 i p hp
      · cases h
    · cases h
end
end Go.Ab
namespace Go.Ab
section
variable {P : Program} {σ : Ren} {h : H} {w : World}
theorem mapM_places (P : Program) (w : World) : ∀ (l : List Field), (∀ f ∈ l, ∃ s, sizeT P f.type = some s) → ∃ r, (l.mapM (fun f => do pure (f.offset, ← sizeOf f.type) : Field → Sem (Nat × Nat))).run P w = .ok r w ∧ r.length = l.length ∧
    ∀ (i : Nat) (f : Field) (s : Nat), l[i]? = some f → sizeT P f.type = some s → r[i]? = some (f.offset, s)
  | [], _ => ⟨[], rfl, rfl, fun i f s h => by simp at h⟩
  | f :: l, h => by
    obtain ⟨s, hs⟩ := h f (by simp)
    obtain ⟨r, h1, h2, h3⟩ := mapM_places P w l fun g hg => h g (by simp [hg])
    refine ⟨(f.offset, s) :: r, ?_, by simp [h2], fun i g s' hi hs' => ?_⟩
    · simp only [List.mapM_cons, Sem.run_bind, run_sizeOf hs, Result.andThen_ok, Sem.run_pure, h1]
    · cases i with
      | zero => simp at hi; subst hi; rw [hs] at hs'; injection hs' with hs'; subst hs'; rfl
      | succ i => simp at hi; simpa using h3 i g s' hi hs'
theorem buildS_sim {ts : TS} {a : Act} (htr : TR σ ts a.tmps) {t : TypeId} {fs : Array Field} (ht : P.underlying t = some (.struct fs)) (hfs : ∀ f ∈ fs.toList, ∃ s, sizeT P f.type = some s) {z : List AV} (hz : cellsT P t = some z)
    {parts : List (Nat × Operand)} {rp : List (Nat × Nat × Opd)} (hp : partsS P fs parts = some rp) {out : List AV} (hf : fillA ts z rp = some out) :
    Gives P σ w (Instr.build t (parts.map fun p => (p.1, a.eval p.2)).toArray) (.agg out) := by
  obtain ⟨v, h1, h2⟩ := zero_cells (P := P) (σ := σ) (w := w) hz
  obtain ⟨r, m1, m2, m3⟩ := mapM_places P w fs.toList hfs
  obtain ⟨p1, p2⟩ := partsS_ok parts rp hp
  have hmap : (fs.mapM (fun f => do pure (f.offset, ← sizeOf f.type) : Field → Sem (Nat × Nat))).run P w = .ok r.toArray w := by
    rw [Array.mapM_eq_mapM_toList]
    simp only [bind_pure_comp] at m1 ⊢
    simp [m1]
  obtain ⟨arr, k1, k2, k3⟩ := fill_sim htr (r.toArray[·]?) parts rp z v.cells out (fun i p hi => by
    obtain ⟨f, s, g1, g2, g3⟩ := p2 i p hi
    exact ⟨_, g3, by simpa using m3 p.1 f s (by simpa using g1) g2, rfl⟩) p1.symm h2 hf
  refine ⟨.agg arr, ?_, VR.mk_agg' k2⟩
  simp only [Instr.build, Sem.run_bind, h1, Result.andThen_ok, run_underlying ht, hmap, k1]
  rfl
theorem buildA_sim {ts : TS} {a : Act} (htr : TR σ ts a.tmps) {t e : TypeId} {n s : Nat} (ht : P.underlying t = some (.array n e)) (hs : sizeT P e = some s) {z : List AV} (hz : cellsT P t = some z)
    {parts : List (Nat × Operand)} {out : List AV} (hf : fillA ts z (partsA s parts) = some out) : Gives P σ w (Instr.build t (parts.map fun p => (p.1, a.eval p.2)).toArray) (.agg out) := by
  obtain ⟨v, h1, h2⟩ := zero_cells (P := P) (σ := σ) (w := w) hz
  obtain ⟨p1, p2⟩ := partsA_ok s parts
  obtain ⟨arr, k1, k2, k3⟩ := fill_sim htr (fun i => some (i * s, s)) parts (partsA s parts) z v.cells out (fun i p hi => ⟨_, p2 i p hi, rfl, rfl⟩) p1.symm h2 hf
  refine ⟨.agg arr, ?_, VR.mk_agg' k2⟩
  simp only [Instr.build, Sem.run_bind, h1, Result.andThen_ok, run_underlying ht, run_sizeOf hs, k1]
  rfl
theorem bslice_sim (r : HR σ h w) {ts : TS} {a : Act} (htr : TR σ ts a.tmps) {t e : TypeId} {n s : Nat} (ht : P.underlying t = some (.slice e)) (hs : sizeT P e = some s) (hs0 : 0 < s) {cs : List AV} (hc : cellsT P e = some cs) (hl : cs.length = s) (hn : n * s ≤ 2 ^ 24)
    {parts : List (Nat × Operand)} {out : List AV} (hf : fillA ts (repA n cs) (partsA s parts) = some out) :
    Makes P σ h w (Instr.buildSlice t n (parts.map fun p => (p.1, a.eval p.2)).toArray) (.sl h.next 0 n none s) (h.new (.cells true out)) := by
  intro hfr
  obtain ⟨v, h1, h2⟩ := zero_cells (P := P) (σ := σ) (w := w) hc
  have hvs : v.cells.size = s := by rw [← Array.length_toList, ← h2.1, hl]
  have hrows := range_map_rep n v.cells (by omega)
  rw [hvs] at hrows
  obtain ⟨p1, p2⟩ := partsA_ok s parts
  obtain ⟨arr, k1, k2, k3⟩ := fill_sim htr (fun i => some (i * s, s)) parts (partsA s parts) (repA n cs) ((Array.range (n * s)).map (v.cells[· % s]!)) out (fun i p hi => ⟨_, p2 i p hi, rfl, rfl⟩) p1.symm (by rw [hrows]; exact LR.replicate h2 n) hf
  obtain ⟨σ', L, q1, q2, q3, q4, q5, q6⟩ := newRow_sim (P := P) (e := e) r k2 (List.append_nil _).symm (fresh_new hfr)
  have hasz : arr.size = n * s := by rw [k3]; simp
  refine ⟨σ', .slice (some ⟨L.blk, 0, none⟩) n n, _, ?_, .sl q2 (Nat.le_refl n) (by intro q hq; cases hq) hs0 (by rw [q4, hasz]; simp) (.inr (by rw [q3])), q5, q6⟩
  have h24 : ¬ (n * s > 2 ^ 24) := by omega
  by_cases hn0 : n * s = 0
  · have hn1 : n = 0 := by rcases Nat.mul_eq_zero.1 hn0 with h | h <;> omega
    subst hn1
    simp only [Nat.zero_mul] at k1
    simp only [Instr.buildSlice, Sem.run_bind, run_underlying ht, Result.andThen_ok, run_sizeOf hs, Nat.zero_mul]
    simp [show Array.range 0 = #[] from rfl] at k1 ⊢
    rw [k1]
    simp [q1]
  · simp only [Instr.buildSlice, Sem.run_bind, run_underlying ht, Result.andThen_ok, run_sizeOf hs]
    simp only [gt_iff_lt] at h24
    simp [h24, hn0, h1, hvs, k1, q1]
theorem keyT_kind {k : TypeId} {q : EqK} (hk : keyT P k = some q) : kindK P k = some q ∧ ((∃ i, P.underlying k = some (.int i) ∧ q = .int) ∨ (P.underlying k = some .string ∧ q = .str)) := by
  unfold keyT at hk
  unfold kindK
  split at hk <;> first | (cases hk; done) | (rename_i e; injection hk with hk; subst hk; rw [e]; simp)
theorem checkKey_ok {k : TypeId} {q : EqK} (hk : keyT P k = some q) {b : Bool} {n : Nat} {v : Value} : (Instr.checkKey b (n + 1) k v).run P w = .ok () w := by
  obtain ⟨_, ⟨i, e, _⟩ | ⟨e, _⟩⟩ := keyT_kind hk <;>
    simp only [Instr.checkKey, Sem.run_bind, run_underlying e, Result.andThen_ok] <;> cases v <;> rfl
theorem sameNow_ok {k : TypeId} {q : EqK} (hk : keyT P k = some q) {d : TypeDesc} (hd : P.underlying k = some d) {v u : AV} {x y : Value} (hx : VR σ v x) (hy : VR σ u y) {b : Bool} (he : eqK q v u = some b) : Instr.sameNow d x y = some b := by
  obtain ⟨_, ⟨i, e, rfl⟩ | ⟨e, rfl⟩⟩ := keyT_kind hk
  · rw [hd] at e; injection e with e; subst e
    cases hx <;> cases hy <;> simp only [eqK] at he <;> try (cases he; done)
    split at he
    · rename_i hkk
      have hkk := kindEq_iff hkk
      subst hkk
      injection he with he; subst he
      simp only [Instr.sameNow]
      rw [if_pos trivial]
      rfl
    · cases he
  · rw [hd] at e; injection e with e; subst e
    cases hx <;> cases hy <;> simp only [eqK] at he <;> try (cases he; done)
    injection he with he; subst he
    rw [str_eq, ← ba_beq]
    simp [Instr.sameNow]
def MR (σ : Ren) (es : List ME) (es' : List MapEntry) : Prop := es'.length = es.length ∧ ∀ (i : Nat) (e : ME) (e' : MapEntry), es[i]? = some e → es'[i]? = some e' → VR σ e.key e'.key ∧ VR σ e.val e'.val ∧ e.born = e'.born
theorem find_sim {k : TypeId} {q : EqK} (hk : keyT P k = some q) {d : TypeDesc} (hd : P.underlying k = some d) {v : AV} {x : Value} (hx : VR σ v x) : ∀ (es : List ME) (es' : List MapEntry) (i : Nat) (r : Option (Nat × AV)), MR σ es es' → findME q v es i = some r →
    ∃ r', Instr.findNow d x es' i = some r' ∧ (match r with | none => r' = none | some (j, u) => ∃ u', r' = some (j, u') ∧ VR σ u u' ∧ i ≤ j ∧ j - i < es.length)
  | [], es', i, r, hm, hf => by
    have : es' = [] := List.eq_nil_of_length_eq_zero hm.1
    subst this
    simp only [findME, Option.some.injEq] at hf
    subst hf
    exact ⟨none, rfl, rfl⟩
  | e :: es, es', i, r, hm, hf => by
    cases es' with
    | nil => have := hm.1; simp at this
    | cons e' es' =>
      obtain ⟨h1, h2, h3⟩ := hm.2 0 e e' rfl rfl
      simp only [findME] at hf
      split at hf
      · rename_i g
        injection hf with hf; subst hf
        have := sameNow_ok hk hd hx h1 g
        exact ⟨some (i, e'.val), by simp [Instr.findNow, this], e'.val, rfl, h2, Nat.le_refl i, by simp⟩
      · rename_i g
        have := sameNow_ok hk hd hx h1 g
        obtain ⟨r', k1, k2⟩ := find_sim hk hd hx es es' (i + 1) r ⟨by have := hm.1; simpa using this, fun j a b ha hb => hm.2 (j + 1) a b (by simpa using ha) (by simpa using hb)⟩ hf
        refine ⟨r', by simp [Instr.findNow, this, k1], ?_⟩
        cases r with
        | none => exact k2
        | some p =>
          obtain ⟨j, u⟩ := p
          obtain ⟨u', a, b, c, d⟩ := k2
          exact ⟨u', a, b, by omega, by simp; omega⟩
      · cases hf
theorem entries_ok (r : HR σ h w) {x : AV} {x' : Value} (hx : VR σ x x') {es : List ME} {c : Nat} (he : entriesA h x = some (es, c)) :
    (x = .mnil ∧ x' = .map none ∧ es = []) ∨ ∃ b L es', x = .map b ∧ σ b = some L ∧ x' = .map (some L.blk) ∧ h.get b = some (.map es c) ∧ w.heap[L.blk]? = some (.map es' c) ∧ MR σ es es'.toList := by
  cases hx with
  | mnil => simp [entriesA] at he; exact .inl ⟨rfl, rfl, he.1⟩
  | @map b L hL =>
    simp only [entriesA] at he
    split at he
    · rename_i es0 c0 g
      simp only [Option.some.injEq, Prod.mk.injEq] at he
      obtain ⟨e1, e2⟩ := he
      subst e1; subst e2
      obtain ⟨es', h1, h2, h3⟩ := r.blk b _ L g hL
      exact .inr ⟨b, L, es', rfl, hL, rfl, g, h1, ⟨by simpa using h2, fun i e e' a b => h3 i e e' a (by simpa using b)⟩⟩
    · cases he
  | _ => simp [entriesA] at he
theorem foundA_ok {q : EqK} {x k : AV} {es : List ME} {c : Nat} {r : Option (Nat × AV)} (hf : foundA q h x k = some (es, c, r)) : entriesA h x = some (es, c) ∧ findME q k es 0 = some r := by
  unfold foundA at hf
  split at hf
  · rename_i es0 c0 g
    split at hf
    · rename_i r0 g2
      simp only [Option.some.injEq, Prod.mk.injEq] at hf
      obtain ⟨e1, e2, e3⟩ := hf
      subst e1; subst e2; subst e3
      exact ⟨g, g2⟩
    · cases hf
  · cases hf
theorem run_getMap {b c : Nat} {es' : Array MapEntry} (hb : w.heap[b]? = some (.map es' c)) : (getObj b).run P w = .ok (.map es' c) w := by
  simp [getObj, Sem.run, hb]
theorem run_setMap {b c : Nat} {es' : Array MapEntry} {o : Obj} (hb : w.heap[b]? = some (.map es' c)) : (setObj b o).run P w = .ok () { w with heap := w.heap.setIfInBounds b o } := by
  simp [setObj, Sem.run, hb]
theorem findKey_run {k : TypeId} {d : TypeDesc} (hd : P.underlying k = some d) {x : Value} {es : List MapEntry} {r : Option (Nat × Value)} (hf : Instr.findNow d x es 0 = some r) : (Instr.findKey k x es).run P w = .ok r w := by
  simp [Instr.findKey, run_underlying hd, hf]
theorem look_sim (r : HR σ h w) {t kt e : TypeId} {q : EqK} {z : AV} (ht : P.underlying t = some (.map kt e)) (hk : keyT P kt = some q) (hz : zeroT P e = some z) {x k v : AV} {x' k' : Value} {ok : Bool} (hx : VR σ x x') (hkk : VR σ k k')
    (hv : lookA q z ok h x k = some v) : Gives P σ w (Instr.lookup t x' k' ok) v := by
  unfold lookA at hv
  split at hv
  · rename_i es c res hf
    obtain ⟨g1, g2⟩ := foundA_ok hf
    obtain ⟨zv, z1, z2⟩ := run_zero (P := P) (w := w) hz
    subst z2
    have hd : ∃ d, P.underlying kt = some d := by obtain ⟨_, ⟨i, e, _⟩ | ⟨e, _⟩⟩ := keyT_kind hk <;> exact ⟨_, e⟩
    obtain ⟨d, hd⟩ := hd
    have key : ∃ r', (Instr.lookup t x' k' ok).run P w = (match r' with | some (_, v) => (.ok (if ok then .tuple #[v, .bool true] else v) w : Result Value) | none => .ok (if ok then .tuple #[zv, .bool false] else zv) w) ∧
        (match res with | none => r' = none | some (j, u) => ∃ u', r' = some (j, u') ∧ VR σ u u' ∧ 0 ≤ j ∧ j - 0 < es.length) := by
      rcases entries_ok r hx g1 with ⟨rfl, rfl, rfl⟩ | ⟨b, L, es', rfl, hL, rfl, h1, h2, h3⟩
      · obtain ⟨r', k1, k2⟩ := find_sim (σ := σ) hk hd hkk [] [] 0 res ⟨rfl, fun i e e' a => by simp at a⟩ g2
        have hfk := findKey_run (P := P) (w := w) hd k1
        refine ⟨r', ?_, k2⟩
        simp only [Instr.lookup, Sem.run_bind, run_underlying ht, Result.andThen_ok, Sem.run_pure, checkKey_ok hk, hfk]
        cases r' with
        | none => cases ok <;> simp [z1]
        | some p => cases ok <;> simp
      · obtain ⟨r', k1, k2⟩ := find_sim hk hd hkk es es'.toList 0 res h3 g2
        have hfk := findKey_run (P := P) (w := w) hd k1
        refine ⟨r', ?_, k2⟩
        simp only [Instr.lookup, Sem.run_bind, run_underlying ht, Result.andThen_ok, run_getMap h2, Sem.run_pure, checkKey_ok hk, hfk]
        cases r' with
        | none => cases ok <;> simp [z1]
        | some p => cases ok <;> simp
    obtain ⟨r', hrun, k2⟩ := key
    cases res with
    | none =>
      simp only at hv k2
      subst k2
      injection hv with hv; subst hv
      refine ⟨_, hrun, ?_⟩
      cases ok
      · exact VR.ofV σ zv
      · exact VR.mk_tup (.cons (VR.ofV σ zv) (.one (.bool false)))
    | some p =>
      obtain ⟨j, u⟩ := p
      simp only at hv k2
      obtain ⟨u', rfl, hu, _⟩ := k2
      injection hv with hv; subst hv
      refine ⟨_, hrun, ?_⟩
      cases ok
      · exact hu
      · exact VR.mk_tup (.cons hu (.one (.bool true)))
  · cases hv
theorem sameBits_key {q : EqK} {v u : AV} {x y : Value} (hx : VR σ v x) (hy : VR σ u y) (he : eqK q v u = some true) (hq : q ≠ .bool) : Instr.sameBits 10000 y x = true := by
  cases hx <;> cases hy <;> cases q <;> simp only [eqK] at he <;> try (cases he; done)
  · exact absurd rfl hq
  · split at he
    · rename_i hkk
      have hkk := kindEq_iff hkk
      subst hkk
      injection he with he
      have := of_decide_eq_true he
      subst this
      simp [Instr.sameBits]
    · cases he
  · rename_i s u
    injection he with he
    rw [str_eq, ← ba_beq] at he
    have e : s = u := by
      have h1 : (s.data == u.data) = true := he
      have h2 : s.data = u.data := by simpa using h1
      cases s; cases u; simp at h2; subst h2; rfl
    subst e
    unfold Instr.sameBits
    exact he
theorem MR.setAt {es : List ME} {es' : List MapEntry} (hm : MR σ es es') {k v : AV} {k' v' : Value} (hk : VR σ k k') (hv : VR σ v v') (i : Nat) : MR σ (setAt k v es i) (es'.modify i fun e => { e with key := k', val := v' }) := by
  induction es generalizing es' i with
  | nil =>
    have : es' = [] := List.eq_nil_of_length_eq_zero hm.1
    subst this
    exact ⟨by simp [Ab.setAt], fun i e e' a => by simp [Ab.setAt] at a⟩
  | cons e es ih =>
    cases es' with
    | nil => have := hm.1; simp at this
    | cons e' es' =>
      have h0 := hm.2 0 e e' rfl rfl
      have ht : MR σ es es' := ⟨by have := hm.1; simpa using this, fun j a b ha hb => hm.2 (j + 1) a b (by simpa using ha) (by simpa using hb)⟩
      cases i with
      | zero =>
        refine ⟨by simp [Ab.setAt, ht.1], fun j a b ha hb => ?_⟩
        cases j with
        | zero => simp [Ab.setAt] at ha hb; subst ha; subst hb; exact ⟨hk, hv, h0.2.2⟩
        | succ j => simp [Ab.setAt] at ha hb; exact ht.2 j a b ha hb
      | succ i =>
        have := ih ht i
        refine ⟨by have := this.1; simpa [Ab.setAt] using this, fun j a b ha hb => ?_⟩
        cases j with
        | zero => simp [Ab.setAt] at ha hb; subst ha; subst hb; exact h0
        | succ j => simp [Ab.setAt] at ha hb; exact this.2 j a b ha (by simpa using hb)
theorem mapTurn (r : HR σ h w) {b : Nat} {L : Loc} {es : List ME} {c c' : Nat} {es' ns' : Array MapEntry} {ns : List ME} (hL : σ b = some L) (hg : h.get b = some (.map es c)) (hb : w.heap[L.blk]? = some (.map es' c)) (hn : MR σ ns ns'.toList) :
    (setObj L.blk (.map ns' c')).run P w = .ok () { w with heap := w.heap.setIfInBounds L.blk (.map ns' c') } ∧ HR σ (h.put b (some (.map ns c'))) { w with heap := w.heap.setIfInBounds L.blk (.map ns' c') } ∧
      Ext σ σ h (h.put b (some (.map ns c'))) w { w with heap := w.heap.setIfInBounds L.blk (.map ns' c') } := by
  have hlt := r.bnd b L hL
  obtain ⟨k1, k2⟩ := r.change (w' := { w with heap := w.heap.setIfInBounds L.blk (.map ns' c') }) hL (.inr ⟨es, c, hg⟩) (.map ns c') (by simp) rfl rfl rfl
    (fun k hk => by simp [Array.getElem?_setIfInBounds, Ne.symm hk]) ⟨ns', by simp [Array.getElem?_setIfInBounds, hlt], by simpa using hn.1, fun i e e' a b => hn.2 i e e' a (by simpa using b)⟩
  exact ⟨run_setMap hb, k1, k2⟩
end
end Go.Ab
namespace Go.Ab
section
variable {P : Program} {σ : Ren} {h : H} {w : World}
theorem findME_key {q : EqK} {k : AV} : ∀ (es : List ME) (i j : Nat) (u : AV), findME q k es i = some (some (j, u)) → i ≤ j ∧ ∃ e, es[j - i]? = some e ∧ eqK q k e.key = some true
  | [], i, j, u, h => by simp [findME] at h
  | e :: es, i, j, u, h => by
    simp only [findME] at h
    split at h
    · rename_i g
      simp only [Option.some.injEq, Prod.mk.injEq] at h
      obtain ⟨rfl, _⟩ := h
      exact ⟨Nat.le_refl _, e, by simp, g⟩
    · obtain ⟨h1, e', h2, h3⟩ := findME_key es (i + 1) j u h
      refine ⟨by omega, e', ?_, h3⟩
      have : j - i = (j - (i + 1)) + 1 := by omega
      rw [this]; simpa using h2
    · cases h
theorem upd_sim (r : HR σ h w) {t kt e : TypeId} {q : EqK} (ht : P.underlying t = some (.map kt e)) (hk : keyT P kt = some q) {x k v : AV} {x' k' v' : Value} (hx : VR σ x x') (hkk : VR σ k k') (hv : VR σ v v') {h' : H} (hu : updateA q h x k v = some h') :
    Does P σ h w (Instr.mapUpdate t x' k' v') h' := by
  intro _
  unfold updateA at hu
  split at hu
  · rename_i b
    split at hu
    · rename_i es c res hf
      obtain ⟨g1, g2⟩ := foundA_ok hf
      have hd : ∃ d, P.underlying kt = some d := by obtain ⟨_, ⟨i, e, _⟩ | ⟨e, _⟩⟩ := keyT_kind hk <;> exact ⟨_, e⟩
      obtain ⟨d, hd⟩ := hd
      rcases entries_ok r hx g1 with ⟨e1, _, _⟩ | ⟨b', L, es', e1, hL, rfl, h1, h2, h3⟩
      · cases e1
      injection e1 with e1; subst e1
      obtain ⟨r', k1, k2⟩ := find_sim hk hd hkk es es'.toList 0 res h3 g2
      have hfk := findKey_run (P := P) (w := w) hd k1
      cases res with
      | none =>
        simp only at hu k2
        subst k2
        injection hu with hu; subst hu
        have hm : MR σ (es ++ [⟨k, v, c⟩]) (es'.push { key := k', val := v', born := c }).toList := by
          refine ⟨by have := h3.1; simp at this ⊢; exact this, fun i a a' ha ha' => ?_⟩
          simp only [Array.toList_push] at ha'
          by_cases hi : i < es.length
          · rw [List.getElem?_append_left hi] at ha
            rw [List.getElem?_append_left (by rw [h3.1]; exact hi)] at ha'
            exact h3.2 i a a' ha ha'
          · rw [List.getElem?_append_right (by omega)] at ha
            rw [List.getElem?_append_right (by rw [h3.1]; omega), h3.1] at ha'
            cases hq : i - es.length with
            | zero => rw [hq] at ha ha'; simp at ha ha'; subst ha; subst ha'; exact ⟨hkk, hv, rfl⟩
            | succ n => rw [hq] at ha; simp at ha
        obtain ⟨s1, s2, s3⟩ := mapTurn (P := P) r (c' := c + 1) hL h1 h2 hm
        refine ⟨σ, _, ?_, s2, s3⟩
        simp only [Instr.mapUpdate, Sem.run_bind, run_underlying ht, Result.andThen_ok, run_getMap h2, checkKey_ok hk, hfk, s1]
      | some p =>
        obtain ⟨i, u⟩ := p
        simp only at hu k2
        obtain ⟨u', rfl, hu', hi1, hi2⟩ := k2
        injection hu with hu; subst hu
        obtain ⟨_, ee, f1, f2⟩ := findME_key es 0 i u g2
        simp only [Nat.sub_zero] at f1
        have hilt : i < es'.size := by have := h3.1; simp at this; omega
        obtain ⟨f3, f4, f5⟩ := h3.2 i ee es'[i] f1 (by simp [hilt])
        have hq : q ≠ .bool := by
          obtain ⟨_, ⟨_, _, rfl⟩ | ⟨_, rfl⟩⟩ := keyT_kind hk <;> intro e <;> cases e
        have hsb := sameBits_key hkk f3 f2 hq
        have hm := h3.setAt hkk hv i
        have hm' : MR σ (setAt k v es i) (es'.modify i fun e => { e with key := k', val := v' }).toList := by
          rw [Array.toList_modify]; exact hm
        obtain ⟨s1, s2, s3⟩ := mapTurn (P := P) r (c' := c) hL h1 h2 hm'
        refine ⟨σ, _, ?_, s2, s3⟩
        simp only [Instr.mapUpdate, Sem.run_bind, run_underlying ht, Result.andThen_ok, run_getMap h2, checkKey_ok hk, hfk]
        have hget : es'[i]? = some es'[i] := by simp [hilt]
        simp [hget, Instr.keyThatStays, hsb, s1]
    · cases hu
  · cases hu
theorem del_sim (r : HR σ h w) {t kt e ty u : TypeId} {q : EqK} {us : List TypeId} (ht : P.underlying t = some (.map kt e)) (hk : keyT P kt = some q) {x k : AV} {x' k' : Value} (hx : VR σ x x') (hkk : VR σ k k') {h' : H} (hu : deleteA q h x k = some h') :
    Makes P σ h w (Builtin.delete_ (t :: us).toArray ty #[x', k']) (.tup []) h' := by
  intro _
  unfold deleteA at hu
  split at hu
  · rename_i b
    split at hu
    · rename_i es c res hf
      obtain ⟨g1, g2⟩ := foundA_ok hf
      have hd : ∃ d, P.underlying kt = some d := by obtain ⟨_, ⟨i, e, _⟩ | ⟨e, _⟩⟩ := keyT_kind hk <;> exact ⟨_, e⟩
      obtain ⟨d, hd⟩ := hd
      rcases entries_ok r hx g1 with ⟨e1, _, _⟩ | ⟨b', L, es', e1, hL, rfl, h1, h2, h3⟩
      · cases e1
      injection e1 with e1; subst e1
      obtain ⟨r', k1, k2⟩ := find_sim hk hd hkk es es'.toList 0 res h3 g2
      have hfk := findKey_run (P := P) (w := w) hd k1
      cases res with
      | none =>
        simp only at hu k2
        subst k2
        injection hu with hu; subst hu
        have hself : ({ w with heap := w.heap.setIfInBounds L.blk (.map es' c) } : World) = w := by
          have hlt := r.bnd _ L hL
          have : w.heap.setIfInBounds L.blk (.map es' c) = w.heap := by
            apply Array.ext_getElem?
            intro i
            rw [Array.getElem?_setIfInBounds]
            split
            · rename_i e; subst e; exact h2.symm
            · rfl
          rw [this]
        obtain ⟨s1, s2, s3⟩ := mapTurn (P := P) r (c' := c) hL h1 h2 h3
        rw [hself] at s1
        refine ⟨σ, .tuple #[], w, ?_, VR.undef σ, r, Ext.refl σ h w⟩
        simp [Builtin.delete_, run_underlying ht, run_getMap h2, checkKey_ok hk, hfk, s1]
      | some p =>
        obtain ⟨i, u⟩ := p
        simp only at hu k2
        obtain ⟨u', rfl, hu', hi1, hi2⟩ := k2
        injection hu with hu; subst hu
        have hm : MR σ (es.take i ++ es.drop (i + 1)) (es'.eraseIdxIfInBounds i).toList := by
          have hilt : i < es'.size := by have := h3.1; simp at this; omega
          have e1 : (es'.eraseIdxIfInBounds i).toList = es'.toList.take i ++ es'.toList.drop (i + 1) := by
            rw [Array.eraseIdxIfInBounds_eq]
            simp [hilt, Array.toList_eraseIdx, List.eraseIdx_eq_take_drop_succ]
          rw [e1]
          have hlen := h3.1
          refine ⟨by simp [hlen], fun j a a' ha ha' => ?_⟩
          have hl1 : (es.take i).length = i := by simp; omega
          have hl2 : (es'.toList.take i).length = i := by simp; omega
          by_cases hj : j < i
          · rw [List.getElem?_append_left (by omega), List.getElem?_take, if_pos hj] at ha ha'
            exact h3.2 j a a' ha ha'
          · rw [List.getElem?_append_right (by omega), List.getElem?_drop] at ha ha'
            rw [hl1] at ha
            rw [hl2] at ha'
            exact h3.2 _ a a' ha ha'
        obtain ⟨s1, s2, s3⟩ := mapTurn (P := P) r (c' := c) hL h1 h2 hm
        refine ⟨σ, .tuple #[], _, ?_, VR.undef σ, s2, s3⟩
        simp [Builtin.delete_, run_underlying ht, run_getMap h2, checkKey_ok hk, hfk, s1]
    · cases hu
  · cases hu
theorem clear_sim (r : HR σ h w) {t e : TypeId} {ty : TypeId} {z : Nat} {zc : List AV} (ht : P.underlying t = some (.slice e)) (hz : sizeT P e = some z) (hz0 : 0 < z) (hc : cellsT P e = some zc) (hl : zc.length = z) {b o n : Nat} {cap : Option Nat} {x' : Value} (hx : VR σ (.sl b o n cap z) x')
    {h' : H} (hst : storeA h b o (repA n zc) = some h') : Makes P σ h w (Builtin.clear_ #[t] ty #[x']) (.tup []) h' := by
  intro _
  cases hx with
  | @sl _ _ _ _ off c _ L hL h1 hcap hzz hs ho =>
    obtain ⟨v, z1, z2⟩ := zero_cells (P := P) (σ := σ) (w := w) hc
    have hvs : v.cells.size = z := by rw [← Array.length_toList, ← z2.1, hl]
    by_cases hn : n = 0
    · subst hn
      have hst' : storeA h b o [] = some h' := by simpa [repA] using hst
      unfold storeA at hst'
      split at hst'
      · rename_i cs hg
        split at hst'
        · injection hst' with hst'
          have hsp : splice cs o [] = cs := by simp [splice]
          rw [hsp] at hst'
          subst hst'
          obtain ⟨k1, k2⟩ := r.change (w' := w) hL (.inl ⟨cs, hg⟩) (.cells true cs) rfl rfl rfl rfl (fun _ _ => rfl) (r.blk b _ L hg hL)
          refine ⟨σ, .tuple #[], w, ?_, VR.undef σ, k1, k2⟩
          simp [Builtin.clear_, run_underlying ht]
        · cases hst'
      · cases hst'
    · have hoff : off = L.base + o := by rcases ho with e | e <;> omega
      subst hoff
      obtain ⟨w', s1, s2, s3⟩ := storeCells_sim (P := P) r hst hL (LR.replicate z2 n)
      refine ⟨σ, .tuple #[], w', ?_, VR.undef σ, s2, s3⟩
      have hzc : (Builtin.zeroCells v.cells n).toList = (List.replicate n v.cells.toList).flatten := range_map_rep n v.cells (by omega)
      cases n with
      | zero => exact absurd rfl hn
      | succ n =>
        simp [Builtin.clear_, run_underlying ht, z1, hzc, s1]
theorem clearNil_sim {t e : TypeId} {ty : TypeId} (ht : P.underlying t = some (.slice e)) : Gives P σ w (Builtin.clear_ #[t] ty #[.slice none 0 0]) (.tup []) :=
  ⟨.tuple #[], by simp [Builtin.clear_, run_underlying ht], VR.undef σ⟩
theorem strBytes_ok : ∀ (l : List AV) (s : List Nat) (ds : List Value), LR σ l ds → strBytes l = some s → ∃ ns : List Int, ds = ns.map (.int .u8) ∧ (ns.map fun n => UInt8.ofNat n.toNat).map (·.toNat) = s
  | [], s, ds, hl, hs => by
    simp only [strBytes, Option.some.injEq] at hs
    subst hs
    exact ⟨[], by rw [hl.nil_inv]; rfl, rfl⟩
  | v :: l, s, ds, hl, hs => by
    obtain ⟨v', r, rfl, h1, h2⟩ := hl.cons_inv
    cases h1 <;> first | (simp [strBytes] at hs; done) | skip
    rename_i k n
    cases k <;> first | (simp [strBytes] at hs; done) | skip
    simp only [strBytes] at hs
    split at hs
    · rename_i m
      split at hs
      · rename_i l' g1 g2
        injection hs with hs; subst hs
        obtain ⟨ns, e1, e2⟩ := strBytes_ok l l' r h2 g2
        have g1 : m < 256 := by simpa [Nat.blt_eq] using g1
        refine ⟨(m : Int) :: ns, by rw [e1]; rfl, ?_⟩
        rw [List.map_cons, List.map_cons, e2]
        congr 1
        simp
        omega
      · cases hs
    · cases hs
theorem ofBytes_sim (r : HR σ h w) {src dst e : TypeId} (hs : P.underlying src = some (.slice e)) (he : P.underlying e = some (.int .u8)) (hd : P.underlying dst = some .string) {x : AV} {x' : Value} (hx : VR σ x x') (hns : isStr x = false) {cs : List AV} {l : List Nat} (hr : rowA 1 h x = some cs) (hl : strBytes cs = some l) :
    Gives P σ w (convert src dst x') (.str l) := by
  obtain ⟨n, news, p1, p2, p3, p4, p5, p6, _⟩ := row_src (P := P) r hx hr
  obtain ⟨ns, e1, e2⟩ := strBytes_ok cs l news p2 hl
  have hstr : VR σ (.str l) (.string (strOfNums ns)) := by
    have : (strOfNums ns).data.toList.map (·.toNat) = l := by
      rw [← e2]; simp [strOfNums]
    rw [← this]
    exact .str _
  cases hx with
  | str s => cases hns
  | snil =>
    simp only [rowA, Option.some.injEq] at hr
    subst hr
    simp only [strBytes, Option.some.injEq] at hl
    subst hl
    exact ⟨_, run_convert_bytes_nil w src e hs he 0 0 dst hd, VR.str (σ := σ) ByteArray.empty⟩
  | @sl b o len z off c cap L hL h1 hc hz hss ho =>
    simp only [lenA, Option.some.injEq] at p1
    subst p1
    have hload : (loadCells ⟨L.blk, off, none⟩ len).run P w = .ok (ns.map (Value.int .u8)).toArray w := by
      rw [← e1]
      simpa [Builtin.firstCells] using p5
    refine ⟨_, ?_, hstr⟩
    rw [run_convert_bytes_string w src dst e _ len c hs he hd, run_bytesToString w _ len c ns hload, foldl_push_bytes]
    simp [strOfNums, ByteArray.empty, ByteArray.emptyWithCapacity]
    rfl
  | _ => simp [rowA] at hr
end
end Go.Ab
namespace Go.Ab
def DR (σ : Ren) (p : Nat × List AV) (d : Deferred) : Prop := ∃ cap : Array Value, d.target = .fn (.func p.1) cap ∧ LR σ p.2 (d.args.toList ++ cap.toList)
def OpOk (P : Program) (σ : Ren) (h : H) (w : World) (o : Oper) (a : Act) : St → Prop
  | .val v h' => (∀ b, h.next ≤ b → b < h'.next → σ b = none) → ∃ σ' v' w', (execOp a.eval o).run P w = .ok (.value v') w' ∧ VR σ' v v' ∧ HR σ' h' w' ∧ Ext σ σ' h h' w w'
  | .skip h' => (∀ b, h.next ≤ b → b < h'.next → σ b = none) → ∃ σ' w', (execOp a.eval o).run P w = .ok .skip w' ∧ HR σ' h' w' ∧ Ext σ σ' h h' w w'
  | .call f args h' => h' = h ∧ ∃ args', LR σ args args' ∧ (execOp a.eval o).run P w = (callFunc f args'.toArray).run P w
  | .defer f args h' => h' = h ∧ ∃ d, (execOp a.eval o).run P w = .ok (.defer d) w ∧ DR σ (f, args) d
  | .recov h' => h' = h ∧ (execOp a.eval o).run P w = .ok .recover w
  | .pan v h' => h' = h ∧ ∃ v', (execOp a.eval o).run P w = .halt (.panic v') w ∧ VR σ v v'
  | .no => True
section
variable {P : Program} {σ : Ren} {h : H} {w : World} {o : Oper} {a : Act}
theorem OpOk.ofMakes {s : Sem Value} {v : AV} {h' : H} (hm : Makes P σ h w s v h') (he : execOp a.eval o = (do pure (.value (← s)))) : OpOk P σ h w o a (.val v h') := by
  intro hf
  obtain ⟨σ', v', w', h1, h2, h3, h4⟩ := hm hf
  exact ⟨σ', v', w', by rw [he]; simp [h1], h2, h3, h4⟩
theorem OpOk.ofGives (r : HR σ h w) {s : Sem Value} {v : AV} (hm : Gives P σ w s v) (he : execOp a.eval o = (do pure (.value (← s)))) : OpOk P σ h w o a (.val v h) :=
  OpOk.ofMakes (hm.makes r) he
theorem OpOk.ofDoes {s : Sem Unit} {h' : H} (hm : Does P σ h w s h') (he : execOp a.eval o = (do s; pure .skip)) : OpOk P σ h w o a (.skip h') := by
  intro hf
  obtain ⟨σ', w', h1, h2, h3⟩ := hm hf
  exact ⟨σ', w', by rw [he]; simp [h1], h2, h3⟩
theorem OpOk.ofO' {x : Option AV} (hm : ∀ v, x = some v → OpOk P σ h w o a (.val v h)) : OpOk P σ h w o a (Ab.ofO h x) := by
  cases x with
  | none => trivial
  | some v => exact hm v rfl
theorem args_map (a : Act) (args : Array Operand) : args.map a.eval = (args.toList.map a.eval).toArray := by
  apply Array.ext'; simp
theorem call_ok {ts : TS} (htr : TR σ ts a.tmps) {c : Call} {f : Operand} (ho : o.op = .call c) (hcal : c.callee = .value f) : OpOk P σ h w o a (oCall ts h (opd f) (c.args.toList.map opd)) := by
  unfold oCall
  have hf := evA_ok htr f
  have hargs := evL_ok htr c.args.toList
  split
  · rename_i g fst cap e
    rw [e] at hf
    generalize hF : a.eval f = F at hf
    cases hf with
    | @fn _ _ _ fst' cap' h1 h2 h3 h4 =>
      refine ⟨rfl, fst'.toList ++ c.args.toList.map a.eval ++ cap'.toList, ?_, ?_⟩
      · exact LR.append (LR.append ⟨by simpa using h1, fun i v v' x y => h2 i v v' x (by simpa using y)⟩ hargs) ⟨by simpa using h3, fun i v v' x y => h4 i v v' x (by simpa using y)⟩
      · simp only [execOp, ho, resolve, hcal, hF, Deferred.ofValue, Sem.run_bind, Sem.run_pure, Result.andThen_ok, invoke]
        congr 2
        apply Array.ext'
        simp
  · trivial
theorem defer_ok {ts : TS} (htr : TR σ ts a.tmps) {c : Call} {f : Operand} (ho : o.op = .defer c) (hcal : c.callee = .value f) : OpOk P σ h w o a (oDefer ts h (opd f) (c.args.toList.map opd)) := by
  unfold oDefer
  have hf := evA_ok htr f
  have hargs := evL_ok htr c.args.toList
  split
  · rename_i g fst cap e
    rw [e] at hf
    generalize hF : a.eval f = F at hf
    cases hf with
    | @fn _ _ _ fst' cap' h1 h2 h3 h4 =>
      refine ⟨rfl, ⟨.fn (.func g) cap', fst' ++ c.args.map a.eval⟩, ?_, cap', rfl, ?_⟩
      · simp only [execOp, ho, resolve, hcal, hF, Deferred.ofValue, Sem.run_bind, Sem.run_pure, Result.andThen_ok]
      · have := LR.append (LR.append (σ := σ) (a := fst) (a' := fst'.toList) ⟨by simpa using h1, fun i v v' x y => h2 i v v' x (by simpa using y)⟩ hargs) (b := cap) (b' := cap'.toList) ⟨by simpa using h3, fun i v v' x y => h4 i v v' x (by simpa using y)⟩
        simpa [args_map] using this
  · trivial
theorem pick_ok {ts : TS} (htr : TR σ ts a.tmps) (r : HR σ h w) {c x y : Operand} (ho : o.op = .pick c x y) : OpOk P σ h w o a (oPick ts h (opd c) (opd x) (opd y)) := by
  unfold oPick
  have hc := evA_ok htr c
  have hx := evA_ok htr x
  have hy := evA_ok htr y
  split
  · rename_i t e
    rw [e] at hc
    generalize hC : a.eval c = C at hc
    cases hc
    refine OpOk.ofGives r (s := do pure (if ← asBool (a.eval c) then a.eval x else a.eval y)) ?_ (by simp [execOp, ho])
    rw [hC]
    cases t
    · exact ⟨_, by simp [asBool], hy⟩
    · exact ⟨_, by simp [asBool], hx⟩
  · trivial
theorem nilc_ok {ts : TS} (htr : TR σ ts a.tmps) (r : HR σ h w) {x : Operand} (ho : o.op = .nilCheck x) : OpOk P σ h w o a (Ab.ofO h (nilcA (evA ts (opd x)))) := by
  have hx := evA_ok htr x
  refine OpOk.ofO' fun v hv => fun _ => ?_
  refine ⟨σ, a.eval x, w, ?_, ?_, r, Ext.refl σ h w⟩
  · generalize hX : a.eval x = X at hx
    unfold nilcA at hv
    split at hv <;> first | (cases hv; done) | skip
    all_goals
      rename_i e
      rw [e] at hx
      cases hx
      simp [execOp, ho, hX]
  · unfold nilcA at hv
    split at hv <;> first | (cases hv; done) | skip
    all_goals
      rename_i e
      injection hv with hv
      rw [← hv, ← e]
      exact hx
theorem un_ok {ts : TS} (htr : TR σ ts a.tmps) (r : HR σ h w) {op : UnOp} {t : TypeId} {x : Operand} (ho : o.op = .unOp op t x) : OpOk P σ h w o a (Ab.ofO h (unA op (evA ts (opd x)))) := by
  have hx := evA_ok htr x
  refine OpOk.ofO' fun v hv => OpOk.ofGives r (s := Op.unary op (a.eval x)) ?_ (by simp [execOp, ho])
  generalize hX : a.eval x = X at hx
  unfold unA at hv
  split at hv
  · rename_i k n e
    rw [e] at hx
    cases hx
    split at hv
    · injection hv with hv; subst hv; exact ⟨_, rfl, .int _ _⟩
    · simp only [intBin, Option.some.injEq] at hv
      subst hv
      exact ⟨_, rfl, .int _ _⟩
    · cases hv
  · rename_i b e
    rw [e] at hx
    cases hx
    split at hv
    · injection hv with hv; subst hv; exact ⟨_, rfl, .bool _⟩
    · cases hv
  · cases hv
theorem conv_ok {ts : TS} (htr : TR σ ts a.tmps) (r : HR σ h w) {src dst : TypeId} {x : Operand} {d : TypeDesc} {k : IntKind} (ho : o.op = .convert src dst x) (hs : P.underlying src = some d) (hd : P.underlying dst = some (.int k)) : OpOk P σ h w o a (oConv ts h k (opd x)) := by
  unfold oConv
  have hx := evA_ok htr x
  split
  · rename_i q n e
    rw [e] at hx
    generalize hX : a.eval x = X at hx
    cases hx
    refine OpOk.ofGives r (s := convert src dst (a.eval x)) ?_ (by simp [execOp, ho])
    rw [hX]
    refine ⟨.int k (k.wrap n), ?_, .int _ _⟩
    simp only [convert, Sem.run_bind, run_underlying hs, run_underlying hd, Result.andThen_ok]
    cases d <;> rfl
  · trivial
end
end Go.Ab
namespace Go.Ab
section
variable {P : Program} {σ : Ren} {h : H} {w : World} {o : Oper} {a : Act}
theorem builtin_exec {c : Call} {b : Builtin} (ho : o.op = .call c) (hc : c.callee = .builtin b) : execOp a.eval o = builtin b c.argTypes o.type (c.args.map fun | .const _ => true | _ => false) (c.args.map a.eval) := by
  simp only [execOp, ho, resolve, hc]
  rfl
theorem min_ok {x y v : AV} {x' y' : Value} (hx : VR σ x x') (hy : VR σ y y') (hv : minA x y = some v) {ts : Array TypeId} {ty : TypeId} : Gives P σ w (Builtin.min_ ts ty #[x', y']) v := by
  unfold minA at hv
  split at hv
  · cases hx; cases hy
    split at hv
    · rename_i hk
      have hk := kindEq_iff hk
      subst hk
      injection hv with hv; subst hv
      exact ⟨_, rfl, .int _ _⟩
    · cases hv
  · cases hv
theorem max_ok {x y v : AV} {x' y' : Value} (hx : VR σ x x') (hy : VR σ y y') (hv : maxA x y = some v) {ts : Array TypeId} {ty : TypeId} : Gives P σ w (Builtin.max_ ts ty #[x', y']) v := by
  unfold maxA at hv
  split at hv
  · cases hx; cases hy
    split at hv
    · rename_i hk
      have hk := kindEq_iff hk
      subst hk
      injection hv with hv; subst hv
      refine ⟨_, ?_, .int _ _⟩
      simp [Builtin.max_, Builtin.max2]
    · cases hv
  · cases hv
theorem lenStr_ok {x v : AV} {x' : Value} {t ty : TypeId} (ht : P.underlying t = some .string) (hx : VR σ x x') (hv : lenStr x = some v) : Gives P σ w (Builtin.len_ #[t] ty #[x']) v := by
  unfold lenStr at hv
  split at hv
  · injection hv with hv; subst hv
    cases hx
    rename_i s
    refine ⟨.int .i64 s.size, by simp [Builtin.len_, run_underlying ht, goInt], ?_⟩
    rw [str_size]; exact .int _ _
  · cases hv
theorem lenSl_ok {x v : AV} {x' : Value} {t ty e : TypeId} (ht : P.underlying t = some (.slice e)) (hx : VR σ x x') (hv : lenSl x = some v) : Gives P σ w (Builtin.len_ #[t] ty #[x']) v := by
  unfold lenSl at hv
  split at hv
  · injection hv with hv; subst hv
    cases hx
    exact ⟨.int .i64 0, by simp [Builtin.len_, run_underlying ht, goInt], .int _ _⟩
  · injection hv with hv; subst hv
    cases hx
    exact ⟨.int .i64 0, by simp [Builtin.len_, run_underlying ht, goInt], .int _ _⟩
  · injection hv with hv; subst hv
    cases hx
    exact ⟨_, by simp [Builtin.len_, run_underlying ht, goInt], .int _ _⟩
  · cases hv
theorem lenMp_ok (r : HR σ h w) {x v : AV} {x' : Value} {t ty k e : TypeId} (ht : P.underlying t = some (.map k e)) (hx : VR σ x x') (hv : lenMp h x = some v) : Gives P σ w (Builtin.len_ #[t] ty #[x']) v := by
  unfold lenMp at hv
  split at hv
  · injection hv with hv; subst hv
    cases hx
    exact ⟨.int .i64 0, by simp [Builtin.len_, run_underlying ht, goInt], .int _ _⟩
  · split at hv
    · rename_i b es c g
      injection hv with hv; subst hv
      cases hx with
      | @map _ L hL =>
        obtain ⟨es', h1, h2, h3⟩ := r.blk _ _ L g hL
        refine ⟨.int .i64 es'.size, by simp [Builtin.len_, run_underlying ht, run_getMap h1, goInt], ?_⟩
        rw [h2]; exact VR.int _ _
    · cases hv
  · cases hv
theorem ofMakesP {s : Sem Value} {x : Option (AV × H)} (hm : ∀ v h', x = some (v, h') → Makes P σ h w s v h') (he : execOp a.eval o = (do pure (.value (← s)))) : OpOk P σ h w o a (ofP x) := by
  cases x with
  | none => trivial
  | some p => exact OpOk.ofMakes (hm p.1 p.2 rfl) he
theorem compCall_ok {ts : TS} (htr : TR σ ts a.tmps) (r : HR σ h w) {c : Call} {co : CO} (ho : o.op = .call c) (hc : compCall P c = some co) : OpOk P σ h w o a (opA ts h co) := by
  unfold compCall at hc
  split at hc
  · rename_i f hcal
    injection hc with hc; subst hc
    exact call_ok htr ho hcal
  · cases hc
  · rename_i b hcal
    have hex := builtin_exec (a := a) ho hcal
    split at hc
    ·
      rename_i t u s x e1 e2
      have hat : c.argTypes = #[t, u] := by rw [← Array.toArray_toList (xs := c.argTypes), e1]
      have har : c.args.map a.eval = #[a.eval s, a.eval x] := by rw [args_map, e2]; rfl
      split at hc
      · rename_i e d hu1 hu2
        split at hc
        · rename_i i hd hi
          split at hc
          · rename_i z zv hsz hz
            split at hc
            · rename_i hzc
              injection hc with hc; subst hc
              refine ofMakesP (s := Builtin.append_ c.argTypes o.type (c.args.map a.eval)) (fun v h' hv => ?_) (by rw [hex]; rfl)
              rw [hat, har]
              have hk : (∃ e', P.underlying u = some (.slice e')) ∨ P.underlying u = some .string := by
                cases d <;> first | (cases hd; done) | exact .inr hu2 | exact .inl ⟨_, hu2⟩
              exact append_sim r hu1 hk hi hz (by rw [hzc, hsz]) (by rw [hsz]; omega) (evA_ok htr s) (evA_ok htr x) (by rw [hsz]; exact hv)
            · cases hc
          · cases hc
        · cases hc
      · cases hc
    ·
      rename_i t x e1 e2
      have hat : c.argTypes = #[t] := by rw [← Array.toArray_toList (xs := c.argTypes), e1]
      have har : c.args.map a.eval = #[a.eval x] := by rw [args_map, e2]; rfl
      have hexec : execOp a.eval o = (do pure (.value (← Builtin.len_ #[t] o.type #[a.eval x]))) := by rw [hex, hat, har]; rfl
      split at hc
      · rename_i hu; injection hc with hc; subst hc
        exact OpOk.ofO' fun v hv => OpOk.ofGives r (lenStr_ok hu (evA_ok htr x) hv) hexec
      · rename_i hu; injection hc with hc; subst hc
        exact OpOk.ofO' fun v hv => OpOk.ofGives r (lenSl_ok hu (evA_ok htr x) hv) hexec
      · rename_i hu; injection hc with hc; subst hc
        exact OpOk.ofO' fun v hv => OpOk.ofGives r (lenMp_ok r hu (evA_ok htr x) hv) hexec
      · rename_i n e hu; injection hc with hc; subst hc
        refine OpOk.ofGives r (s := Builtin.len_ #[t] o.type #[a.eval x]) ⟨.int .i64 (Int.ofNat n), ?_, .int _ _⟩ hexec
        simp [Builtin.len_, run_underlying hu, goInt]
      · cases hc
    ·
      rename_i t ts' d x e1 e2
      have har : c.args.map a.eval = #[a.eval d, a.eval x] := by rw [args_map, e2]; rfl
      split at hc
      · rename_i e hu
        split at hc
        · rename_i z hz
          injection hc with hc; subst hc
          refine ofMakesP (s := Builtin.copy_ c.argTypes o.type (c.args.map a.eval)) (fun v h' hv => ?_) (by rw [hex]; rfl)
          rw [har]
          have hat : c.argTypes[0]? = some t := by rw [← Array.getElem?_toList, e1]; rfl
          have := copy_sim (tx := 0) (ty := o.type) r hu hz (evA_ok htr d) (evA_ok htr x) hv
          intro hf
          obtain ⟨σ', v', w', k1, k2, k3, k4⟩ := this hf
          refine ⟨σ', v', w', ?_, k2, k3, k4⟩
          rw [← k1]
          simp only [Builtin.copy_, hat]
          rfl
        · cases hc
      · cases hc
    ·
      rename_i x y e2
      have har : c.args.map a.eval = #[a.eval x, a.eval y] := by rw [args_map, e2]; rfl
      injection hc with hc; subst hc
      exact OpOk.ofO' fun v hv => OpOk.ofGives r (min_ok (evA_ok htr x) (evA_ok htr y) hv) (by rw [hex, har]; rfl)
    · rename_i x y e2
      have har : c.args.map a.eval = #[a.eval x, a.eval y] := by rw [args_map, e2]; rfl
      injection hc with hc; subst hc
      exact OpOk.ofO' fun v hv => OpOk.ofGives r (max_ok (evA_ok htr x) (evA_ok htr y) hv) (by rw [hex, har]; rfl)
    ·
      rename_i t us m k e1 e2
      have hat : c.argTypes = (t :: us).toArray := by rw [← Array.toArray_toList (xs := c.argTypes), e1]
      have har : c.args.map a.eval = #[a.eval m, a.eval k] := by rw [args_map, e2]; rfl
      split at hc
      · rename_i kt e hu
        cases hk : keyT P kt with
        | none => simp [hk] at hc
        | some q =>
          simp only [hk, Option.map_some, Option.some.injEq] at hc
          subst hc
          show OpOk P σ h w o a (oDel h (deleteA q h (evA ts (opd m)) (evA ts (opd k))))
          cases hq : deleteA q h (evA ts (opd m)) (evA ts (opd k)) with
          | none => trivial
          | some h' => exact OpOk.ofMakes (del_sim (u := 0) r hu hk (evA_ok htr m) (evA_ok htr k) hq) (by rw [hex, hat, har]; rfl)
      · cases hc
    ·
      rename_i t x e1 e2
      have hat : c.argTypes = #[t] := by rw [← Array.toArray_toList (xs := c.argTypes), e1]
      have har : c.args.map a.eval = #[a.eval x] := by rw [args_map, e2]; rfl
      split at hc
      · rename_i e hu
        split at hc
        · rename_i z cs hz hcs
          split at hc
          · rename_i hl
            injection hc with hc; subst hc
            show OpOk P σ h w o a (oClear ts h (z + 1) cs (opd x))
            unfold oClear
            have hx := evA_ok htr x
            split
            · rename_i e3
              rw [e3] at hx
              have hX : a.eval x = .slice none 0 0 := by
                generalize a.eval x = X at hx
                cases hx; rfl
              exact OpOk.ofGives r (clearNil_sim (ty := o.type) hu) (by rw [hex, hat, har, hX]; rfl)
            · rename_i b o' n c' z' e3
              rw [e3] at hx
              split
              · rename_i h' g1 g2
                have g1 := Nat.eq_of_beq_eq_true g1
                subst g1
                exact OpOk.ofMakes (clear_sim (ty := o.type) r hu hz (by omega) hcs hl hx g2) (by rw [hex, hat, har]; rfl)
              · trivial
            · trivial
          · cases hc
        · cases hc
      · cases hc
    ·
      rename_i e1 e2
      injection hc with hc; subst hc
      exact ⟨rfl, by rw [hex]; rfl⟩
    · cases hc
end
end Go.Ab
namespace Go.Ab
section
variable {P : Program} {σ : Ren} {h : H} {w : World} {o : Oper} {a : Act} {ts : TS}
theorem parts_map (a : Act) (parts : Array (Nat × Operand)) : (parts.map fun (i, x) => (i, a.eval x)) = (parts.toList.map fun p => (p.1, a.eval p.2)).toArray := by
  apply Array.ext'; simp
theorem load_ok (htr : TR σ ts a.tmps) (r : HR σ h w) {t : TypeId} {x : Operand} {s : Nat} {g : Bool} (ho : o.op = .load t x) (hs : sizeT P t = some s) (hg : isAggT P t = some g) : OpOk P σ h w o a (oLoad ts h s g (opd x)) := by
  unfold oLoad
  have hx := evA_ok htr x
  split
  · rename_i b o' e
    rw [e] at hx
    exact OpOk.ofO' fun v hv => OpOk.ofGives r (load_sim r hs hg hx hv) (by simp [execOp, ho])
  · trivial
theorem store_ok (htr : TR σ ts a.tmps) (r : HR σ h w) {t : TypeId} {x y : Operand} {s : Nat} (ho : o.op = .store t x y) (hs : sizeT P t = some s) : OpOk P σ h w o a (oStore ts h s (opd x) (opd y)) := by
  unfold oStore
  have hx := evA_ok htr x
  split
  · rename_i b o' e
    rw [e] at hx
    split
    · rename_i h' h1 h2
      exact OpOk.ofDoes (store_sim r hs hx (evA_ok htr y) (Nat.eq_of_beq_eq_true h1) h2) (by simp [execOp, ho])
    · trivial
  · trivial
theorem not_any {v : AV} {v' : Value} (hx : VR σ v v') (hn : isAny v = false) : ∀ ds, v' = .agg ds → ∃ cs, v = .agg cs := by
  intro ds hd
  subst hd
  cases hx with
  | agg h1 h2 => exact ⟨_, rfl⟩
  | any => cases hn
theorem box_ok (htr : TR σ ts a.tmps) (r : HR σ h w) {t : TypeId} {x : Operand} (ho : o.op = .box t x) : OpOk P σ h w o a (oBox ts h (opd x)) := by
  unfold oBox
  have hx := evA_ok htr x
  split
  · rename_i e
    exact OpOk.ofMakes (box_sim (e := t) r hx (not_any hx e)) (by simp [execOp, ho])
  · trivial
theorem ofBytes_ok (htr : TR σ ts a.tmps) (r : HR σ h w) {src dst e : TypeId} {x : Operand} (ho : o.op = .convert src dst x) (hs : P.underlying src = some (.slice e)) (he : P.underlying e = some (.int .u8)) (hd : P.underlying dst = some .string) : OpOk P σ h w o a (oOfBytes ts h (opd x)) := by
  unfold oOfBytes
  have hx := evA_ok htr x
  split
  · trivial
  · rename_i hn
    split
    · rename_i cs h1
      split
      · rename_i l h2
        have hns : isStr (evA ts (opd x)) = false := by
          generalize evA ts (opd x) = X at hn
          cases X <;> first | rfl | exact absurd rfl (hn _)
        exact OpOk.ofGives r (ofBytes_sim r hs he hd hx hns h1 h2) (by simp [execOp, ho])
      · trivial
    · trivial
theorem convS_ok (htr : TR σ ts a.tmps) (r : HR σ h w) {src dst : TypeId} {x : Operand} (ho : o.op = .convert src dst x) (hs : P.underlying src = some .string) (hd : P.underlying dst = some .string) : OpOk P σ h w o a (oConvS ts h (opd x)) := by
  unfold oConvS
  have hx := evA_ok htr x
  split
  · rename_i s e
    rw [e] at hx
    refine OpOk.ofGives r (s := convert src dst (a.eval x)) ?_ (by simp [execOp, ho])
    generalize a.eval x = X at hx
    cases hx
    exact ⟨_, by simp [convert, run_underlying hs, run_underlying hd], .str _⟩
  · trivial
theorem mkSl_ok (htr : TR σ ts a.tmps) (r : HR σ h w) {t e : TypeId} {i : TypeInfo} {cs : List AV} {l c : Operand} (ho : o.op = .makeSlice t l c) (ht : P.underlying t = some (.slice e)) (hi : P.info? e = some i) (hc : cellsT P e = some cs) (hl : cs.length = i.size) (hz0 : 0 < i.size) :
    OpOk P σ h w o a (oMkSl ts h i.size i.bytes cs (opd l) (opd c)) := by
  unfold oMkSl
  have h1 := evA_ok htr l
  have h2 := evA_ok htr c
  split
  · rename_i n m e1 e2
    obtain ⟨k, hk⟩ := asNat_ok h1 e1
    obtain ⟨k', hk'⟩ := asNat_ok h2 e2
    split
    · rename_i g1 g2 g3
      have g1 := Nat.eq_of_beq_eq_true g1
      subst g1
      exact OpOk.ofMakes (mkSl_sim (k := k) (k' := k') r ht hi hc hl hz0 (Nat.le_of_ble_eq_true g2) (Nat.le_of_ble_eq_true g3)) (by simp [execOp, ho, hk, hk'])
    · trivial
  · trivial
theorem slArr_ok (htr : TR σ ts a.tmps) (r : HR σ h w) {t e : TypeId} {n z : Nat} {x : Operand} {lo hi mx : Option Operand} (ho : o.op = .slice t x lo hi mx) (ht : P.underlying t = some (.array n e)) (hz : sizeT P e = some z) (hz0 : 0 < z) :
    OpOk P σ h w o a (oSlArr ts h n z (opd x) (lo.map opd) (hi.map opd) (mx.map opd)) := by
  unfold oSlArr
  have hx := evA_ok htr x
  split
  · rename_i b o' l r' e1 e2 e3
    rw [e1] at hx
    have hmx : mx = none := by cases mx <;> simp_all
    subst hmx
    obtain ⟨b1, b2, b3, b4⟩ := boundsA_ok e2
    split
    · rename_i cs hcs
      split
      · rename_i hle
        refine OpOk.ofO' fun v hv => OpOk.ofGives r (slArr_sim ht hz hz0 hx (fun L hL => ?_) (optNat_ok htr b1) (optNat_ok htr b2) b3 b4 hv) (by simp [execOp, ho])
        have hcs' : ∃ own, h.get b = some (.cells own cs) := by
          unfold H.cells at hcs
          split at hcs
          · rename_i own cs' hg; injection hcs with hcs; subst hcs; exact ⟨own, hg⟩
          · cases hcs
        obtain ⟨own, hg⟩ := hcs'
        obtain ⟨arr, t', fr, k1, ⟨k2, k3⟩, k4, k5⟩ := r.blk _ _ L hg hL
        have := Nat.le_of_ble_eq_true hle
        omega
      · trivial
    · trivial
  · trivial
theorem slStr_ok (htr : TR σ ts a.tmps) (r : HR σ h w) {t : TypeId} {x : Operand} {lo hi : Option Operand} (ho : o.op = .slice t x lo hi none) (ht : P.underlying t = some .string) :
    OpOk P σ h w o a (oSlStr ts h (opd x) (lo.map opd) (hi.map opd)) := by
  unfold oSlStr
  have hx := evA_ok htr x
  split
  · rename_i s e1
    rw [e1] at hx
    split
    · rename_i l r' e2
      obtain ⟨b1, b2, b3, b4⟩ := boundsA_ok e2
      have k1 := optNat_ok htr b1
      have k2 := optNat_ok htr b2
      refine OpOk.ofGives r (s := Instr.sliceAt t (a.eval x) (lo.map a.eval) (hi.map a.eval) none) ?_ (by simp [execOp, ho])
      generalize a.eval x = X at hx
      cases hx
      rename_i s'
      rw [str_size] at k2 b4
      exact slStr_sim ht k1 k2 b3 b4
    · trivial
  · trivial
theorem sl_ok (htr : TR σ ts a.tmps) (r : HR σ h w) {t e : TypeId} {z : Nat} {x : Operand} {lo hi mx : Option Operand} (ho : o.op = .slice t x lo hi mx) (ht : P.underlying t = some (.slice e)) (hz : sizeT P e = some z) (hmx : mx.isSome = true → hi.isSome = true) :
    OpOk P σ h w o a (oSl ts h z (opd x) (lo.map opd) (hi.map opd) (mx.map opd)) := by
  unfold oSl
  have hx := evA_ok htr x
  have hex : execOp a.eval o = (do pure (.value (← Instr.sliceAt t (a.eval x) (lo.map a.eval) (hi.map a.eval) (mx.map a.eval)))) := by simp [execOp, ho]
  split
  · rename_i e1
    rw [e1] at hx
    split
    · rename_i p e2
      obtain ⟨l, r'⟩ := p
      obtain ⟨b1, b2, b3, b4⟩ := boundsA_ok e2
      split
      · rename_i e3
        refine OpOk.ofGives r (slNil_sim ht hz hx (optNat_ok htr b1) (optNat_ok htr b2) b3 b4 ?_) hex
        rcases optNat_ok htr e3 with ⟨g1, _⟩ | ⟨k, g1⟩
        · exact .inl g1
        · refine .inr ⟨⟨k, g1⟩, ?_⟩
          have hs : mx.isSome = true := by cases mx <;> simp_all
          have hh := hmx hs
          rcases optNat_ok htr b2 with ⟨g2, _⟩ | g2
          · cases hi <;> simp_all
          · exact g2
      · trivial
    · trivial
  · rename_i b o' n cap z' e1
    rw [e1] at hx
    split
    · rename_i l r' e0 e2
      have e0 := Nat.eq_of_beq_eq_true e0
      subst e0
      obtain ⟨b1, b2, b3, b4⟩ := boundsA_ok e2
      split
      · rename_i e3
        have hm : mx = none := by cases mx <;> simp_all
        subst hm
        exact OpOk.ofO' fun v hv => OpOk.ofGives r (sl_sim ht hz hx (optNat_ok htr b1) (optNat_ok htr b2) b3 b4 hv) hex
      · rename_i m e3
        split
        · rename_i m' e4
          cases mx with
          | none => cases e3
          | some m0 =>
            simp only [Option.map_some, Option.some.injEq] at e3
            subst e3
            obtain ⟨k, hk⟩ := asNat_ok (evA_ok htr m0) e4
            refine OpOk.ofO' fun v hv => OpOk.ofGives r (s := Instr.sliceAt t (a.eval x) (lo.map a.eval) (hi.map a.eval) (some (a.eval m0))) ?_ hex
            rw [hk]
            have hh := hmx rfl
            refine sl_sim3 ht hz hx (optNat_ok htr b1) ?_ b3 b4 hv
            rcases optNat_ok htr b2 with ⟨g2, _⟩ | g2
            · cases hi <;> simp_all
            · exact g2
        · trivial
    · trivial
  · trivial
theorem fieldA_ok (htr : TR σ ts a.tmps) (r : HR σ h w) {t : TypeId} {fs : Array Field} {f : Nat} {fd : Field} {s : Nat} {x : Operand} (ho : o.op = .fieldAddr t x f) (ht : P.underlying t = some (.struct fs)) (hf : fs[f]? = some fd) (hs : sizeT P fd.type = some (s + 1)) :
    OpOk P σ h w o a (oFieldA ts h fd.offset (opd x)) := by
  unfold oFieldA
  have hx := evA_ok htr x
  split
  · rename_i b o' e
    rw [e] at hx
    exact OpOk.ofGives r (fieldA_sim ht hf hs hx) (by simp [execOp, ho])
  · trivial
theorem field_ok (htr : TR σ ts a.tmps) (r : HR σ h w) {t : TypeId} {fs : Array Field} {f : Nat} {fd : Field} {s : Nat} {g : Bool} {x : Operand} (ho : o.op = .field t x f) (ht : P.underlying t = some (.struct fs)) (hf : fs[f]? = some fd) (hs : sizeT P fd.type = some s) (hg : isAggT P fd.type = some g) :
    OpOk P σ h w o a (oField ts h fd.offset s g (opd x)) := by
  unfold oField
  have hx := evA_ok htr x
  split
  · rename_i cs e
    rw [e] at hx
    exact OpOk.ofO' fun v hv => OpOk.ofGives r (field_sim ht hf hs hg hx hv) (by simp [execOp, ho])
  · trivial
theorem idxArr_ok (htr : TR σ ts a.tmps) (r : HR σ h w) {t e : TypeId} {n z : Nat} {x i : Operand} (ho : o.op = .indexAddr t x i) (ht : P.underlying t = some (.array n e)) (hz : sizeT P e = some z) : OpOk P σ h w o a (oIdxArr ts h n z (opd x) (opd i)) := by
  unfold oIdxArr
  have hx := evA_ok htr x
  have hi := evA_ok htr i
  split
  · rename_i b o' j e1 e2
    rw [e1] at hx
    obtain ⟨k, hk⟩ := asNat_ok hi e2
    split
    · rename_i hlt
      exact OpOk.ofGives r (idxArr_sim (k := k) ht hz hx (by simpa [Nat.blt_eq] using hlt)) (by simp [execOp, ho, hk])
    · trivial
  · trivial
theorem idxSl_ok (htr : TR σ ts a.tmps) (r : HR σ h w) {t e : TypeId} {z : Nat} {x i : Operand} (ho : o.op = .indexAddr t x i) (ht : P.underlying t = some (.slice e)) (hz : sizeT P e = some z) : OpOk P σ h w o a (oIdxSl ts h z (opd x) (opd i)) := by
  unfold oIdxSl
  have hx := evA_ok htr x
  have hi := evA_ok htr i
  split
  · rename_i b o' n c z' j e1 e2
    rw [e1] at hx
    obtain ⟨k, hk⟩ := asNat_ok hi e2
    split
    · rename_i hlt hzz
      have hzz := Nat.eq_of_beq_eq_true hzz
      subst hzz
      exact OpOk.ofGives r (idxSl_sim (k := k) ht hz hx (by simpa [Nat.blt_eq] using hlt)) (by simp [execOp, ho, hk])
    · trivial
  · trivial
theorem ixAgg_ok (htr : TR σ ts a.tmps) (r : HR σ h w) {t e : TypeId} {n z : Nat} {g : Bool} {x i : Operand} (ho : o.op = .index t x i) (ht : P.underlying t = some (.array n e)) (hz : sizeT P e = some z) (hg : isAggT P e = some g) : OpOk P σ h w o a (oIxAgg ts h n z z g (opd x) (opd i)) := by
  unfold oIxAgg
  have hx := evA_ok htr x
  have hi := evA_ok htr i
  split
  · rename_i cs j e1 e2
    rw [e1] at hx
    obtain ⟨k, hk⟩ := asNat_ok hi e2
    split
    · rename_i hlt
      exact OpOk.ofO' fun v hv => OpOk.ofGives r (ixAgg_sim (k := k) ht hz hg hx (by simpa [Nat.blt_eq] using hlt) hv) (by simp [execOp, ho, hk])
    · trivial
  · trivial
theorem ixStr_ok (htr : TR σ ts a.tmps) (r : HR σ h w) {t : TypeId} {x i : Operand} (ho : o.op = .index t x i) (ht : P.underlying t = some .string) : OpOk P σ h w o a (oIxStr ts h (opd x) (opd i)) := by
  unfold oIxStr
  have hx := evA_ok htr x
  have hi := evA_ok htr i
  split
  · rename_i s j e1 e2
    rw [e1] at hx
    obtain ⟨k, hk⟩ := asNat_ok hi e2
    split
    · rename_i c hc
      refine OpOk.ofGives r (s := Instr.index t (a.eval x) (a.eval i)) ?_ (by simp [execOp, ho])
      rw [hk]
      generalize a.eval x = X at hx
      cases hx
      exact ixStr_sim (k := k) ht hc
    · trivial
  · trivial
theorem ext_ok (htr : TR σ ts a.tmps) (r : HR σ h w) {i : Nat} {x : Operand} (ho : o.op = .extract x i) : OpOk P σ h w o a (oExt ts h i (opd x)) := by
  unfold oExt
  have hx := evA_ok htr x
  split
  · rename_i vs e
    rw [e] at hx
    exact OpOk.ofO' fun v hv => OpOk.ofGives r (ext_sim hx hv) (by simp [execOp, ho])
  · trivial
theorem tass_ok (htr : TR σ ts a.tmps) (r : HR σ h w) {xt t : TypeId} {z : AV} {ok : Bool} {x : Operand} {d : TypeDesc} (ho : o.op = .typeAssert x xt t ok) (ht : P.underlying t = some d) (hd : ∀ ms, d ≠ .interface ms) (hz : zeroT P t = some z) : OpOk P σ h w o a (oTass ts h t z ok (opd x)) := by
  unfold oTass
  have hx := evA_ok htr x
  obtain ⟨zv, hzv, hzz⟩ := run_zero (w := w) hz
  have hzr : VR σ z zv := by rw [hzz]; exact VR.ofV σ zv
  have hex : execOp a.eval o = (do pure (.value (← Instr.typeAssert (a.eval x) xt t ok))) := by simp [execOp, ho]
  split
  · rename_i e
    rw [e] at hx
    split
    · refine OpOk.ofGives r (s := Instr.typeAssert (a.eval x) xt t true) ?_ hex
      generalize a.eval x = X at hx
      cases hx
      refine ⟨.tuple #[zv, .bool false], ?_, VR.mk_tup (.cons hzr (.one (.bool _)))⟩
      rw [tass_run ht hd]
      simp [hzv]
    · trivial
  · rename_i t' v e
    rw [e] at hx
    have hg : ∀ u, (match Nat.beq t' t, ok with
        | true, true => some (AV.tup [v, .bool true])
        | true, false => some v
        | false, true => some (.tup [z, .bool false])
        | false, false => none) = some u → Gives P σ w (Instr.typeAssert (a.eval x) xt t ok) u := by
      intro u hu
      generalize a.eval x = X at hx
      cases hx with
      | @ifc _ _ v' hv =>
      unfold Gives
      rw [tass_run ht hd]
      split at hu
      · rename_i g1
        have g1 := Nat.eq_of_beq_eq_true g1
        subst g1
        injection hu with hu; subst hu
        exact ⟨.tuple #[v', .bool true], by simp, VR.mk_tup (.cons hv (.one (.bool _)))⟩
      · rename_i g1
        have g1 := Nat.eq_of_beq_eq_true g1
        subst g1
        injection hu with hu; subst hu
        exact ⟨v', by simp, hv⟩
      · rename_i g1
        have g1 : t' ≠ t := by rintro rfl; simp [Nat.beq_refl] at g1
        injection hu with hu; subst hu
        exact ⟨.tuple #[zv, .bool false], by simp [g1, hzv], VR.mk_tup (.cons hzr (.one (.bool _)))⟩
      · cases hu
    split
    · rename_i g1; exact OpOk.ofGives r (hg _ (by rw [g1])) hex
    · rename_i g1; exact OpOk.ofGives r (hg _ (by rw [g1])) hex
    · rename_i g1; exact OpOk.ofGives r (hg _ (by rw [g1])) hex
    · trivial
  · trivial
theorem panic_ok (htr : TR σ ts a.tmps) {x : Operand} (ho : o.op = .panic x) : OpOk P σ h w o a (oPanic ts h (opd x)) := by
  unfold oPanic
  have hx := evA_ok htr x
  split
  · rename_i t v e
    rw [e] at hx
    refine ⟨rfl, a.eval x, ?_, hx⟩
    generalize hX : a.eval x = X at hx
    cases hx
    simp [execOp, ho, hX, Instr.panic, goPanic]
  · trivial
theorem mkIfc_ok (htr : TR σ ts a.tmps) (r : HR σ h w) {t : TypeId} {x : Operand} {d : TypeDesc} (ho : o.op = .makeInterface t x) (ht : P.underlying t = some d) (hd : ∀ ms, d ≠ .interface ms) : OpOk P σ h w o a (.val (.ifc t (evA ts (opd x))) h) := by
  refine OpOk.ofGives r (s := Instr.makeInterface t (a.eval x)) ⟨.iface t (a.eval x), ?_, .ifc (evA_ok htr x)⟩ (by simp [execOp, ho])
  simp only [Instr.makeInterface, Sem.run_bind, run_underlying ht, Result.andThen_ok]
  cases d <;> first | rfl | exact absurd rfl (hd _)
theorem mkFn_ok (htr : TR σ ts a.tmps) (r : HR σ h w) {f : FuncId} {fst cap : Array Operand} (ho : o.op = .makeFunc (.func f) fst cap) : OpOk P σ h w o a (.val (.fn f ((fst.toList.map opd).map (evA ts)) ((cap.toList.map opd).map (evA ts))) h) := by
  have h1 := evL_ok htr fst.toList
  have h2 := evL_ok htr cap.toList
  refine OpOk.ofGives r (s := Instr.makeFunc (.func f) (fst.map a.eval) (cap.map a.eval)) ⟨.func (.func f) (fst.map a.eval) (cap.map a.eval), rfl, ?_⟩ (by simp [execOp, ho])
  rw [args_map a fst, args_map a cap]
  exact .fn (by simp) (fun i v v' x y => h1.2 i v v' x (by simpa using y)) (by simp) (fun i v v' x y => h2.2 i v v' x (by simpa using y))
theorem build_ok (htr : TR σ ts a.tmps) (r : HR σ h w) {t : TypeId} {parts : Array (Nat × Operand)} {co : CO} (ho : o.op = .build t parts) (hc : comp1 P (.build t parts) = some co) : OpOk P σ h w o a (opA ts h co) := by
  have hex : execOp a.eval o = (do pure (.value (← Instr.build t (parts.toList.map fun p => (p.1, a.eval p.2)).toArray))) := by rw [← parts_map]; simp [execOp, ho]
  simp only [comp1] at hc
  split at hc
  · rename_i fs z ht hz
    split at hc
    · rename_i hfs
      cases hp : partsS P fs parts.toList with
      | none => simp [hp] at hc
      | some rp =>
        simp only [hp, Option.map_some, Option.some.injEq] at hc
        subst hc
        show OpOk P σ h w o a (oBuild ts h z rp)
        unfold oBuild
        split
        · rename_i cs hcs
          refine OpOk.ofGives r (buildS_sim htr ht (fun f hf => ?_) hz hp hcs) hex
          have := List.all_eq_true.1 hfs f hf
          exact Option.isSome_iff_exists.1 this
        · trivial
    · cases hc
  · rename_i n e z ht hz
    cases hs : sizeT P e with
    | none => simp [hs] at hc
    | some s =>
      simp only [hs, Option.map_some, Option.some.injEq] at hc
      subst hc
      show OpOk P σ h w o a (oBuild ts h z (partsA s parts.toList))
      unfold oBuild
      split
      · rename_i cs hcs
        exact OpOk.ofGives r (buildA_sim htr ht hs hz hcs) hex
      · trivial
  · cases hc
theorem bslice_ok (htr : TR σ ts a.tmps) (r : HR σ h w) {t : TypeId} {n : Nat} {parts : Array (Nat × Operand)} {co : CO} (ho : o.op = .buildSlice t n parts) (hc : comp1 P (.buildSlice t n parts) = some co) : OpOk P σ h w o a (opA ts h co) := by
  have hex : execOp a.eval o = (do pure (.value (← Instr.buildSlice t n (parts.toList.map fun p => (p.1, a.eval p.2)).toArray))) := by rw [← parts_map]; simp [execOp, ho]
  simp only [comp1] at hc
  split at hc
  · rename_i e ht
    split at hc
    · rename_i z cs hz hcs
      split at hc
      · rename_i hl
        injection hc with hc; subst hc
        show OpOk P σ h w o a (oBslice ts h n (z + 1) (repA n cs) (partsA (z + 1) parts.toList))
        unfold oBslice
        split
        · rename_i out ho'
          exact OpOk.ofMakes (bslice_sim r htr ht hz (by omega) hcs hl.1 hl.2 ho') hex
        · trivial
      · cases hc
    · cases hc
  · cases hc
theorem op_ok (htr : TR σ ts a.tmps) (r : HR σ h w) {co : CO} (hc : comp1 P o.op = some co) : OpOk P σ h w o a (opA ts h co) := by
  cases ho : o.op <;> rw [ho] at hc
  case move x => injection hc with hc; subst hc; exact OpOk.ofGives r (s := pure (a.eval x)) (.pure (evA_ok htr x)) (by simp [execOp, ho])
  case assign x => injection hc with hc; subst hc; exact OpOk.ofGives r (s := pure (a.eval x)) (.pure (evA_ok htr x)) (by simp [execOp, ho])
  case pick c x y => injection hc with hc; subst hc; exact pick_ok htr r ho
  case alloc e =>
    simp only [comp1] at hc
    cases hz : cellsT P e with
    | none => simp [hz] at hc
    | some z => simp only [hz, Option.map_some, Option.some.injEq] at hc; subst hc; exact OpOk.ofMakes (alloc_sim r hz) (by simp [execOp, ho])
  case box e x => injection hc with hc; subst hc; exact box_ok htr r ho
  case build t parts => exact build_ok htr r ho hc
  case buildSlice t n parts => exact bslice_ok htr r ho hc
  case load t x =>
    simp only [comp1] at hc
    split at hc
    · rename_i s g h1 h2; injection hc with hc; subst hc; exact load_ok htr r ho h1 h2
    · cases hc
  case store t x y =>
    simp only [comp1] at hc
    cases hz : sizeT P t with
    | none => simp [hz] at hc
    | some z => simp only [hz, Option.map_some, Option.some.injEq] at hc; subst hc; exact store_ok htr r ho hz
  case nilCheck x => injection hc with hc; subst hc; exact nilc_ok htr r ho
  case binOp op t x y k =>
    simp only [comp1] at hc
    cases hz : eqC P op t x y with
    | none => simp [hz] at hc
    | some z => simp only [hz, Option.map_some, Option.some.injEq] at hc; subst hc; exact OpOk.ofO' fun v hv => OpOk.ofGives r (bin_sim htr r hz hv) (by simp [execOp, ho])
  case unOp op t x => injection hc with hc; subst hc; exact un_ok htr r ho
  case convert s d x =>
    simp only [comp1] at hc
    split at hc
    · rename_i k h1 h2; injection hc with hc; subst hc; exact conv_ok htr r ho h1 h2
    · rename_i h1 h2; injection hc with hc; subst hc; exact convS_ok htr r ho h1 h2
    · rename_i e h1 h2
      split at hc
      · rename_i h3; injection hc with hc; subst hc; exact ofBytes_ok htr r ho h1 h3 h2
      · cases hc
    · cases hc
  case makeInterface t x =>
    simp only [comp1] at hc
    split at hc
    · cases hc
    · rename_i d hn h1; injection hc with hc; subst hc; exact mkIfc_ok htr r ho h1 (fun ms e => hn ms e)
    · cases hc
  case makeFunc f fst cap =>
    cases f with
    | func f => injection hc with hc; subst hc; exact mkFn_ok htr r ho
    | _ => cases hc
  case makeMap t n =>
    cases n with
    | none => injection hc with hc; subst hc; exact OpOk.ofMakes (mkMap_sim (t := t) r) (by simp [execOp, ho])
    | some n => cases hc
  case makeSlice t l c =>
    simp only [comp1] at hc
    split at hc
    · rename_i e ht
      split at hc
      · rename_i i cs hi hcs
        split at hc
        · rename_i z hz
          split at hc
          · rename_i hl
            injection hc with hc; subst hc
            have := mkSl_ok (o := o) (w := w) htr r (l := l) (c := c) ho ht hi hcs (by omega) (by omega)
            rw [hz] at this
            exact this
          · cases hc
        · cases hc
      · cases hc
    · cases hc
  case slice t x lo hi mx =>
    simp only [comp1] at hc
    split at hc
    · rename_i n e ht
      split at hc
      · rename_i z hz; injection hc with hc; subst hc; exact slArr_ok htr r ho ht hz (by omega)
      · cases hc
    · rename_i ht
      split at hc
      · injection hc with hc; subst hc; exact slStr_ok htr r ho ht
      · cases hc
    · rename_i e ht
      split at hc
      · rename_i z hz hb
        injection hc with hc; subst hc
        refine sl_ok htr r ho ht hz (fun hm => ?_)
        cases hi <;> cases mx <;> simp_all [mxOk]
      · cases hc
    · cases hc
  case fieldAddr t x f =>
    simp only [comp1] at hc
    split at hc
    · rename_i fs ht
      split at hc
      · rename_i fd hf
        split at hc
        · rename_i z hz; injection hc with hc; subst hc; exact fieldA_ok htr r ho ht hf hz
        · cases hc
      · cases hc
    · cases hc
  case field t x f =>
    simp only [comp1] at hc
    split at hc
    · rename_i fs ht
      split at hc
      · rename_i fd hf
        split at hc
        · rename_i s g hz hg; injection hc with hc; subst hc; exact field_ok htr r ho ht hf hz hg
        · cases hc
      · cases hc
    · cases hc
  case indexAddr t x i =>
    simp only [comp1] at hc
    split at hc
    · rename_i n e ht
      cases hz : sizeT P e with
      | none => simp [hz] at hc
      | some z => simp only [hz, Option.map_some, Option.some.injEq] at hc; subst hc; exact idxArr_ok htr r ho ht hz
    · rename_i e ht
      split at hc
      · rename_i z hz; injection hc with hc; subst hc; exact idxSl_ok htr r ho ht hz
      · cases hc
    · cases hc
  case index t x i =>
    simp only [comp1] at hc
    split at hc
    · rename_i n e ht
      split at hc
      · rename_i s g hz hg; injection hc with hc; subst hc; exact ixAgg_ok htr r ho ht hz hg
      · cases hc
    · rename_i ht; injection hc with hc; subst hc; exact ixStr_ok htr r ho ht
    · cases hc
  case lookup t x k ok =>
    simp only [comp1] at hc
    split at hc
    · rename_i kt e ht
      split at hc
      · rename_i q z hq hz
        injection hc with hc; subst hc
        exact OpOk.ofO' fun v hv => OpOk.ofGives r (look_sim r ht hq hz (evA_ok htr x) (evA_ok htr k) hv) (by simp [execOp, ho])
      · cases hc
    · cases hc
  case mapUpdate t m k x =>
    simp only [comp1] at hc
    split at hc
    · rename_i kt e ht
      cases hq : keyT P kt with
      | none => simp [hq] at hc
      | some q =>
        simp only [hq, Option.map_some, Option.some.injEq] at hc
        subst hc
        show OpOk P σ h w o a (ofH (updateA q h (evA ts (opd m)) (evA ts (opd k)) (evA ts (opd x))))
        cases hu : updateA q h (evA ts (opd m)) (evA ts (opd k)) (evA ts (opd x)) with
        | none => trivial
        | some h' => exact OpOk.ofDoes (upd_sim r ht hq (evA_ok htr m) (evA_ok htr k) (evA_ok htr x) hu) (by simp [execOp, ho])
    · cases hc
  case insert t m k x =>
    simp only [comp1] at hc
    split at hc
    · rename_i kt e ht
      cases hq : keyT P kt with
      | none => simp [hq] at hc
      | some q =>
        simp only [hq, Option.map_some, Option.some.injEq] at hc
        subst hc
        show OpOk P σ h w o a (ofH (updateA q h (evA ts (opd m)) (evA ts (opd k)) (evA ts (opd x))))
        cases hu : updateA q h (evA ts (opd m)) (evA ts (opd k)) (evA ts (opd x)) with
        | none => trivial
        | some h' => exact OpOk.ofDoes (upd_sim r ht hq (evA_ok htr m) (evA_ok htr k) (evA_ok htr x) hu) (by simp [execOp, ho])
    · cases hc
  case extract x i => injection hc with hc; subst hc; exact ext_ok htr r ho
  case typeAssert x xt t ok =>
    simp only [comp1] at hc
    split at hc
    · cases hc
    · rename_i d hn h1
      cases hz : zeroT P t with
      | none => simp [hz] at hc
      | some z => simp only [hz, Option.map_some, Option.some.injEq] at hc; subst hc; exact tass_ok htr r ho h1 (fun ms e => hn ms e) hz
    · cases hc
  case call c => exact compCall_ok htr r ho hc
  case defer c =>
    simp only [comp1] at hc
    split at hc
    · rename_i f hf; injection hc with hc; subst hc; exact defer_ok htr ho hf
    · cases hc
  case panic x => injection hc with hc; subst hc; exact panic_ok htr ho
  all_goals cases hc
end
end Go.Ab
namespace Go.Ab
def SameOn (l : List Nat) (ts ts' : TS) : Prop := ∀ t ∈ l, ts.get t = ts'.get t
theorem SameOn.left {a b : List Nat} {ts ts' : TS} (h : SameOn (a ++ b) ts ts') : SameOn a ts ts' := fun t ht => h t (List.mem_append_left _ ht)
theorem SameOn.right {a b : List Nat} {ts ts' : TS} (h : SameOn (a ++ b) ts ts') : SameOn b ts ts' := fun t ht => h t (List.mem_append_right _ ht)
theorem evA_same {x : Opd} {ts ts' : TS} (h : SameOn x.sl ts ts') : evA ts x = evA ts' x := by
  cases x with
  | t n => simp only [evA, h n (by simp [Opd.sl])]
  | k v => rfl
theorem slL_same : ∀ {l : List Opd} {ts ts' : TS}, SameOn (slL l) ts ts' → l.map (evA ts) = l.map (evA ts')
  | [], _, _, _ => rfl
  | x :: r, ts, ts', h => by simp only [List.map_cons, evA_same h.left, slL_same h.right]
theorem optNat_same {d : Nat} {x : Option Opd} {ts ts' : TS} (h : SameOn (slOp x) ts ts') : optNat ts d x = optNat ts' d x := by
  cases x with
  | none => rfl
  | some x => simp only [optNat, evA_same h]
theorem fillA_same : ∀ {ps : List (Nat × Nat × Opd)} {cs : List AV} {ts ts' : TS}, SameOn (slP ps) ts ts' → fillA ts cs ps = fillA ts' cs ps
  | [], _, _, _, _ => rfl
  | (a, b, x) :: r, cs, ts, ts', h => by
    simp only [fillA, evA_same h.left]
    split
    · exact fillA_same h.right
    · rfl
theorem opA_congr {co : CO} {ts ts' : TS} {h : H} (hs : SameOn co.slots ts ts') : opA ts h co = opA ts' h co := by
  cases co <;> simp only [CO.slots] at hs <;> simp only [opA]
  case mv x => rw [evA_same hs]
  case pick c a b => simp only [oPick, evA_same hs.left, evA_same hs.right.left, evA_same hs.right.right]
  case box x => simp only [oBox, evA_same hs]
  case build z ps => simp only [oBuild, fillA_same hs]
  case bslice n z cs ps => simp only [oBslice, fillA_same hs]
  case load s g x => simp only [oLoad, evA_same hs]
  case store s x y => simp only [oStore, evA_same hs.left, evA_same hs.right]
  case nilc x => rw [evA_same hs]
  case bin op c x y => rw [evA_same hs.left, evA_same hs.right]
  case un op x => rw [evA_same hs]
  case conv k x => simp only [oConv, evA_same hs]
  case ofBytes x => simp only [oOfBytes, evA_same hs]
  case convS x => simp only [oConvS, evA_same hs]
  case mkIfc t x => rw [evA_same hs]
  case mkFn f a c => rw [slL_same hs.left, slL_same hs.right]
  case mkSl z b ze l c => simp only [oMkSl, evA_same hs.left, evA_same hs.right]
  case slArr n z x lo hi mx => simp only [oSlArr, evA_same hs.left, optNat_same hs.right.left, optNat_same hs.right.right.left]
  case slStr x lo hi => simp only [oSlStr, evA_same hs.left, optNat_same hs.right.left, optNat_same hs.right.right]
  case sl z x lo hi mx =>
    have h4 := hs.right.right.right
    cases mx with
    | none => simp only [oSl, evA_same hs.left, optNat_same hs.right.left, optNat_same hs.right.right.left, optNat_same h4]
    | some m => simp only [oSl, evA_same hs.left, optNat_same hs.right.left, optNat_same hs.right.right.left, optNat_same h4, evA_same (x := m) h4]
  case fieldA o x => simp only [oFieldA, evA_same hs]
  case field o s g x => simp only [oField, evA_same hs]
  case idxArr n z x i => simp only [oIdxArr, evA_same hs.left, evA_same hs.right]
  case idxSl z x i => simp only [oIdxSl, evA_same hs.left, evA_same hs.right]
  case ixAgg n z s g x i => simp only [oIxAgg, evA_same hs.left, evA_same hs.right]
  case ixStr x i => simp only [oIxStr, evA_same hs.left, evA_same hs.right]
  case look q z x k ok => rw [evA_same hs.left, evA_same hs.right]
  case upd q m k v => rw [evA_same hs.left, evA_same hs.right.left, evA_same hs.right.right]
  case ext i x => simp only [oExt, evA_same hs]
  case tass a z ok x => simp only [oTass, evA_same hs]
  case call f as => simp only [oCall, evA_same hs.left, slL_same hs.right]
  case append z b s x => rw [evA_same hs.left, evA_same hs.right]
  case lenS x => rw [evA_same hs]
  case lenL x => rw [evA_same hs]
  case lenM x => rw [evA_same hs]
  case copy z d x => rw [evA_same hs.left, evA_same hs.right]
  case min x y => rw [evA_same hs.left, evA_same hs.right]
  case max x y => rw [evA_same hs.left, evA_same hs.right]
  case del q m k => rw [evA_same hs.left, evA_same hs.right]
  case clear z ze x => simp only [oClear, evA_same hs]
  case defer f as => simp only [oDefer, evA_same hs.left, slL_same hs.right]
  case panic x => simp only [oPanic, evA_same hs]
def NX (h : H) : Prop := ∀ b x, h.get b = some x → b < h.next
structure Grow (h h' : H) : Prop where
  next : h.next ≤ h'.next
  nx : NX h → NX h'
theorem Grow.refl (h : H) : Grow h h := ⟨Nat.le_refl _, id⟩
theorem Grow.trans {a b c : H} (x : Grow a b) (y : Grow b c) : Grow a c := ⟨Nat.le_trans x.next y.next, fun h => y.nx (x.nx h)⟩
theorem Grow.new (h : H) (x : Bk) : Grow h (h.new x) := by
  refine ⟨Nat.le_succ _, fun hn b y hb => ?_⟩
  rw [H.get_new] at hb
  rw [H.next_new]
  split at hb
  · omega
  · have := hn b y hb; omega
theorem Grow.put {h : H} {b : Nat} {y : Bk} (hb : h.get b = some y) (x : Option Bk) : Grow h (h.put b x) := by
  refine ⟨Nat.le_refl _, fun hn c z hc => ?_⟩
  rw [H.get_put] at hc
  rw [H.next_put]
  by_cases e : c = b
  · rw [e]; exact hn b y hb
  · rw [if_neg e] at hc; exact hn c z hc
def St.grow (g : H) : St → Prop
  | .val _ h => Grow g h
  | .skip h => Grow g h
  | .call _ _ h => Grow g h
  | .defer _ _ h => Grow g h
  | .recov h => Grow g h
  | .pan _ h => Grow g h
  | .no => True
theorem ofO_grow {h : H} {x : Option AV} : (ofO h x).grow h := by cases x <;> first | trivial | exact Grow.refl _
theorem storeA_grow {h h' : H} {b o : Nat} {vs : List AV} (e : storeA h b o vs = some h') : Grow h h' := by
  unfold storeA at e
  split at e
  · rename_i cs hb
    split at e
    · injection e with e; subst e; exact Grow.put hb _
    · cases e
  · cases e
theorem dropA_grow {h h' : H} {b : Nat} (e : dropA h b = some h') : Grow h h' := by
  unfold dropA at e
  split at e
  · rename_i cs hb; injection e with e; subst e; exact Grow.put hb _
  · cases e
theorem appendA_grow {z b : Nat} {h h' : H} {s x v : AV} (e : appendA z b h s x = some (v, h')) : Grow h h' := by
  unfold appendA at e
  split at e
  · split at e
    · injection e with e; injection e with e1 e2; subst e2; exact Grow.refl _
    · split at e
      · split at e
        · injection e with e; injection e with e1 e2; subst e2; exact Grow.new _ _
        · split at e
          · injection e with e; injection e with e1 e2; subst e2; exact Grow.new _ _
          · split at e
            · rename_i h2 hd
              injection e with e; injection e with e1 e2; subst e2
              exact (dropA_grow hd).trans (Grow.new _ _)
            · cases e
        · cases e
      · cases e
  · cases e
theorem copyA_grow {z : Nat} {h h' : H} {d x v : AV} (e : copyA z h d x = some (v, h')) : Grow h h' := by
  unfold copyA at e
  split at e
  · split at e
    · unfold copySl at e
      split at e
      · rename_i g1 g2; injection e with e; injection e with e1 e2; subst e2; exact storeA_grow g2
      · cases e
    · injection e with e; injection e with e1 e2; subst e2; exact Grow.refl _
    · cases e
  · cases e
theorem foundA_map {q : EqK} {h : H} {b : Nat} {k : AV} {es : List ME} {c : Nat} {r : Option (Nat × AV)} (hf : foundA q h (.map b) k = some (es, c, r)) : ∃ y, h.get b = some y := by
  obtain ⟨h1, _⟩ := foundA_ok hf
  simp only [entriesA] at h1
  split at h1
  · rename_i es' c' hg; exact ⟨_, hg⟩
  · cases h1
theorem updateA_grow {q : EqK} {h h' : H} {x k v : AV} (e : updateA q h x k v = some h') : Grow h h' := by
  unfold updateA at e
  split at e
  · split at e
    · rename_i es c r hf
      obtain ⟨y, hy⟩ := foundA_map hf
      split at e <;> (injection e with e; subst e; exact Grow.put hy _)
    · cases e
  · cases e
theorem deleteA_grow {q : EqK} {h h' : H} {x k : AV} (e : deleteA q h x k = some h') : Grow h h' := by
  unfold deleteA at e
  split at e
  · split at e
    · rename_i es c r hf
      obtain ⟨y, hy⟩ := foundA_map hf
      split at e
      · injection e with e; subst e; exact Grow.put hy _
      · injection e with e; subst e; exact Grow.refl _
    · cases e
  · cases e
theorem opA_grow (ts : TS) (h : H) (co : CO) : (opA ts h co).grow h := by
  cases co <;> simp only [opA]
  case store s x y =>
    unfold oStore
    split
    · split
      · rename_i g1 g2; exact storeA_grow g2
      · trivial
    · trivial
  case upd q m k v =>
    cases e : updateA q h (evA ts m) (evA ts k) (evA ts v) with
    | none => trivial
    | some h' => exact updateA_grow e
  case append z b s x =>
    cases e : appendA z b h (evA ts s) (evA ts x) with
    | none => trivial
    | some p => exact appendA_grow e
  case copy z s x =>
    cases e : copyA z h (evA ts s) (evA ts x) with
    | none => trivial
    | some p => exact copyA_grow e
  case del q m k =>
    cases e : deleteA q h (evA ts m) (evA ts k) with
    | none => trivial
    | some h' => exact deleteA_grow e
  case clear z ze x =>
    unfold oClear
    split
    · exact Grow.refl _
    · split
      · rename_i g1 g2; exact storeA_grow g2
      · trivial
    · trivial
  all_goals first
    | exact ofO_grow
    | exact Grow.refl _
    | exact Grow.new _ _
    | skip
  case pick => unfold oPick; split <;> first | trivial | exact Grow.refl _
  case box => unfold oBox; split <;> first | trivial | exact Grow.new _ _
  case build => unfold oBuild; split <;> first | trivial | exact Grow.refl _
  case bslice => unfold oBslice; split <;> first | trivial | exact Grow.new _ _
  case load => unfold oLoad; split <;> first | trivial | exact ofO_grow
  case conv => unfold oConv; split <;> first | trivial | exact Grow.refl _
  case ofBytes => unfold oOfBytes; split <;> (try split) <;> (try split) <;> first | trivial | exact Grow.refl _
  case convS => unfold oConvS; split <;> first | trivial | exact Grow.refl _
  case mkSl => unfold oMkSl; split <;> (try split) <;> first | trivial | exact Grow.new _ _
  case slArr => unfold oSlArr; split <;> (try split) <;> (try split) <;> first | trivial | exact ofO_grow
  case slStr => unfold oSlStr; split <;> (try split) <;> first | trivial | exact Grow.refl _
  case sl => unfold oSl; repeat' split
             all_goals first | trivial | exact Grow.refl _ | exact ofO_grow
  case fieldA => unfold oFieldA; split <;> first | trivial | exact Grow.refl _
  case field => unfold oField; split <;> first | trivial | exact ofO_grow
  case idxArr => unfold oIdxArr; split <;> (try split) <;> first | trivial | exact Grow.refl _
  case idxSl => unfold oIdxSl; split <;> (try split) <;> first | trivial | exact Grow.refl _
  case ixAgg => unfold oIxAgg; split <;> (try split) <;> first | trivial | exact ofO_grow
  case ixStr => unfold oIxStr; split <;> (try split) <;> first | trivial | exact Grow.refl _
  case ext => unfold oExt; split <;> first | trivial | exact ofO_grow
  case tass => unfold oTass; split <;> (try split) <;> first | trivial | exact Grow.refl _
  case call => unfold oCall; split <;> first | trivial | exact Grow.refl _
  case defer => unfold oDefer; split <;> first | trivial | exact Grow.refl _
  case panic => unfold oPanic; split <;> first | trivial | exact Grow.refl _
theorem pure_cls {co : CO} (hc : co.cl = .pure) (ts : TS) (h : H) : (∃ v, ∀ g, opA ts g co = .val v g) ∨ opA ts h co = .no := by
  have ofO' : ∀ x : Option AV, (∃ v, ∀ g, ofO g x = .val v g) ∨ ofO h x = .no := by
    intro x
    cases x with
    | none => exact .inr rfl
    | some v => exact .inl ⟨v, fun _ => rfl⟩
  cases co <;> first | (cases hc; done) | skip
  case bin op c x y =>
    have hne : c ≠ .ptr := by rintro rfl; cases hc
    simp only [opA]
    have : ∀ g, binA g op c (evA ts x) (evA ts y) = binA h op c (evA ts x) (evA ts y) := by
      intro g
      unfold binA
      split
      · rfl
      · rfl
      · have : equalA g c (evA ts x) (evA ts y) = equalA h c (evA ts x) (evA ts y) := by
          generalize evA ts x = X
          generalize evA ts y = Y
          cases c <;> first | exact absurd rfl hne | (cases X <;> cases Y <;> rfl)
        rw [this]
    rcases ofO' (binA h op c (evA ts x) (evA ts y)) with ⟨v, hv⟩ | hv
    · exact .inl ⟨v, fun g => by rw [this g]; exact hv g⟩
    · exact .inr hv
  all_goals simp only [opA]
  case mv => exact .inl ⟨_, fun _ => rfl⟩
  case pick => unfold oPick; split <;> first | exact .inr rfl | exact .inl ⟨_, fun _ => rfl⟩
  case build => unfold oBuild; split <;> first | exact .inr rfl | exact .inl ⟨_, fun _ => rfl⟩
  case nilc => exact ofO' _
  case un => exact ofO' _
  case conv => unfold oConv; split <;> first | exact .inr rfl | exact .inl ⟨_, fun _ => rfl⟩
  case convS => unfold oConvS; split <;> first | exact .inr rfl | exact .inl ⟨_, fun _ => rfl⟩
  case mkIfc => exact .inl ⟨_, fun _ => rfl⟩
  case mkFn => exact .inl ⟨_, fun _ => rfl⟩
  case slStr => unfold oSlStr; split <;> (try split) <;> first | exact .inr rfl | exact .inl ⟨_, fun _ => rfl⟩
  case sl => unfold oSl; repeat' split
             all_goals first | exact .inr rfl | exact .inl ⟨_, fun _ => rfl⟩ | exact ofO' _
  case fieldA => unfold oFieldA; split <;> first | exact .inr rfl | exact .inl ⟨_, fun _ => rfl⟩
  case field => unfold oField; split <;> first | exact .inr rfl | exact ofO' _
  case idxArr => unfold oIdxArr; split <;> (try split) <;> first | exact .inr rfl | exact .inl ⟨_, fun _ => rfl⟩
  case idxSl => unfold oIdxSl; split <;> (try split) <;> first | exact .inr rfl | exact .inl ⟨_, fun _ => rfl⟩
  case ixAgg => unfold oIxAgg; split <;> (try split) <;> first | exact .inr rfl | exact ofO' _
  case ixStr => unfold oIxStr; split <;> (try split) <;> first | exact .inr rfl | exact .inl ⟨_, fun _ => rfl⟩
  case ext => unfold oExt; split <;> first | exact .inr rfl | exact ofO' _
  case tass => unfold oTass; split <;> (try split) <;> first | exact .inr rfl | exact .inl ⟨_, fun _ => rfl⟩
  case lenS => exact ofO' _
  case lenL => exact ofO' _
  case lenK => exact .inl ⟨_, fun _ => rfl⟩
  case min => exact ofO' _
  case max => exact ofO' _
theorem reads_cls {co : CO} (hc : co.cl = .reads) (ts : TS) (h : H) : (∃ v, ∀ n, opA ts ⟨n, h.m⟩ co = .val v ⟨n, h.m⟩) ∨ opA ts h co = .no := by
  have ofO' : ∀ x : Option AV, (∃ v, ∀ n, ofO (⟨n, h.m⟩ : H) x = .val v ⟨n, h.m⟩) ∨ ofO h x = .no := by
    intro x
    cases x with
    | none => exact .inr rfl
    | some v => exact .inl ⟨v, fun _ => rfl⟩
  cases co <;> first | (cases hc; done) | skip
  case bin op c x y =>
    have he : c = .ptr := by cases c <;> first | rfl | cases hc
    subst he
    exact ofO' (binA h op .ptr (evA ts x) (evA ts y))
  all_goals simp only [opA]
  case load s g a => unfold oLoad; split <;> first | exact .inr rfl | exact ofO' (loadA s g h _ _)
  case look q z x k ok => exact ofO' (lookA q z ok h (evA ts x) (evA ts k))
  case lenM x => exact ofO' (lenMp h (evA ts x))
  case ofBytes x =>
    unfold oOfBytes
    split
    · exact .inr rfl
    · have : ∀ n, rowA 1 (⟨n, h.m⟩ : H) (evA ts x) = rowA 1 h (evA ts x) := fun n => rfl
      cases e : rowA 1 h (evA ts x) with
      | none => exact .inr rfl
      | some cs =>
        cases e2 : strBytes cs with
        | none => exact .inr (by simp [e2])
        | some l => exact .inl ⟨.str l, fun n => by simp [this n, e, e2]⟩
  case slArr n z x lo hi mx =>
    unfold oSlArr
    split
    · rename_i mx' b o l r' e1 e2
      have : ∀ n, H.cells (⟨n, h.m⟩ : H) b = H.cells h b := fun n => rfl
      cases e : H.cells h b with
      | none => exact .inr rfl
      | some cs =>
        simp only
        split
        · rename_i e4
          rcases ofO' (sliceA z b o n none l r' none) with ⟨v, hv⟩ | hv
          · exact .inl ⟨v, fun m => by simp only [this m, e, e4]; exact hv m⟩
          · exact .inr hv
        · exact .inr rfl
    · exact .inr rfl
theorem makes_cls {co : CO} (hc : co.cl = .makes) (ts : TS) (h : H) : (∃ v x, ∀ m, opA ts ⟨h.next, m⟩ co = .val v (H.new ⟨h.next, m⟩ x)) ∨ opA ts h co = .no := by
  cases co <;> first | (cases hc; done) | skip
  case bin op c x y => cases c <;> cases hc
  all_goals simp only [opA]
  case alloc z => exact .inl ⟨.ptr h.next 0, .cells true z, fun _ => rfl⟩
  case box x =>
    unfold oBox
    split
    · exact .inl ⟨.ptr h.next 0, .cells true (evA ts x).cells, fun _ => rfl⟩
    · exact .inr rfl
  case bslice n z cs ps =>
    unfold oBslice
    split
    · rename_i cs' e; exact .inl ⟨.sl h.next 0 n none z, .cells true cs', fun _ => rfl⟩
    · exact .inr rfl
  case mkMap => exact .inl ⟨.map h.next, .map [] 0, fun _ => rfl⟩
  case mkSl z b ze l c =>
    unfold oMkSl
    split
    · rename_i n m e1 e2
      split
      · exact .inl ⟨.sl h.next 0 n none z, .cells true (repA n ze), fun _ => rfl⟩
      · exact .inr rfl
    · exact .inr rfl
end Go.Ab
namespace Go.Ab
theorem wanted_ok {P : Program} {σ : Ren} {ts : TS} {a : Act} (htr : TR σ ts a.tmps) {N : Nat} {ops : Array Oper} {o : Oper} {c : CR} (hc : compOp P N ops o = some c) (hg : guardOk ts c = true) :
    Region.wanted o (yielded ops a.tmps) = wantedA ts c := by
  unfold compOp at hc
  split at hc
  · cases hc
  · split at hc
    · rename_i hgu
      injection hc with hc; subst hc
      simp [Region.wanted, hgu, wantedA]
    · rename_i g want hgu
      split at hc
      · rename_i d hd
        injection hc with hc; subst hc
        simp only [guardOk, wantedA] at hg ⊢
        simp only [Region.wanted, hgu, yielded, hd, Option.bind_some]
        cases e : ts.get d with
        | none => simp [e] at hg
        | some v =>
          obtain ⟨v', h1, h2⟩ := htr d v e
          simp only [h1]
          simp only [e] at hg
          cases h2 <;> first | (cases hg; done) | rfl | skip
      · cases hc
theorem compOp_dst {P : Program} {N : Nat} {ops : Array Oper} {o : Oper} {c : CR} (hc : compOp P N ops o = some c) : c.dst = o.dst ∧ dstOk N o.dst = true ∧ c.op = (comp1 P o.op).getD bad := by
  unfold compOp at hc
  split at hc
  · cases hc
  · rename_i hd
    split at hc
    · injection hc with hc; subst hc; exact ⟨rfl, hd, rfl⟩
    · split at hc
      · injection hc with hc; subst hc; exact ⟨rfl, hd, rfl⟩
      · cases hc
theorem op_ok' {P : Program} {σ : Ren} {h : H} {w : World} {o : Oper} {a : Act} {ts : TS} (htr : TR σ ts a.tmps) (r : HR σ h w) {N : Nat} {ops : Array Oper} {c : CR} (hc : compOp P N ops o = some c) : OpOk P σ h w o a (opA ts h c.op) := by
  rw [(compOp_dst hc).2.2]
  cases e : comp1 P o.op with
  | none => trivial
  | some co => exact op_ok htr r e
theorem all1_spec {f : Nat → DI → Bool} : ∀ {l : List DI} {s : Nat}, all1 f l s = true → ∀ (k : Nat) (y : DI), l[k]? = some y → f (s + k) y = true
  | [], s, _, k, y, hk => by simp at hk
  | x :: r, s, h, k, y, hk => by
    unfold all1 at h
    split at h
    · rename_i h1
      cases k with
      | zero => simp at hk; subst hk; simpa using h1
      | succ k => have := all1_spec h k y (by simpa using hk); rwa [Nat.add_assoc, Nat.add_comm 1 k] at this
    · cases h
theorem all2_spec {f : Nat → Nat → DI → DI → Bool} : ∀ {l : List DI} {s : Nat}, all2 f l s = true → ∀ (j k : Nat) (x y : DI), j < k → l[j]? = some x → l[k]? = some y → f (s + j) (s + k) x y = true
  | [], s, _, j, k, x, y, _, hj, _ => by simp at hj
  | z :: r, s, h, j, k, x, y, hjk, hj, hk => by
    unfold all2 at h
    split at h
    · rename_i h1
      cases k with
      | zero => omega
      | succ k =>
        simp at hk
        cases j with
        | zero =>
          simp at hj; subst hj
          have := all1_spec h1 k y hk
          rw [Nat.add_assoc, Nat.add_comm 1 k] at this
          exact this
        | succ j =>
          have := all2_spec h j k x y (by omega) (by simpa using hj) hk
          have e1 : s + 1 + j = s + (j + 1) := by omega
          have e2 : s + 1 + k = s + (k + 1) := by omega
          rwa [e1, e2] at this
    · cases h
theorem place_mem : ∀ (qs rem : List DI) (x : DI), x ∈ place qs rem → x ∈ qs ∨ x ∈ rem
  | [], rem, x, h => .inr h
  | q :: qs, rem, x, h => by
    simp only [place, List.mem_append, List.mem_cons, List.mem_filter] at h
    rcases h with h | h | h
    · exact .inr h.1
    · exact .inl (by simp [h])
    · rcases place_mem qs _ x h with h | h
      · exact .inl (by simp [h])
      · exact .inr (List.mem_filter.1 h).1
theorem reorder_mem {l : List DI} {x : DI} (h : x ∈ reorder l) : x ∈ l := by
  rcases place_mem _ _ x h with h | h <;> exact (List.mem_filter.1 h).1
theorem zipDI_mem : ∀ (os : List Oper) (cs : List CR) (bs : List Nat) (i : Nat) (x : DI), x ∈ zipDI os cs bs i → ∃ k, x.i = i + k ∧ os[k]? = some x.o ∧ cs[k]? = some x.c ∧ bs[k]? = some x.bef
  | [], _, _, _, _, h => by simp [zipDI] at h
  | _ :: _, [], _, _, _, h => by simp [zipDI] at h
  | _ :: _, _ :: _, [], _, _, h => by simp [zipDI] at h
  | o :: os, c :: cs, b :: bs, i, x, h => by
    simp only [zipDI, List.mem_cons] at h
    rcases h with h | h
    · subst h; exact ⟨0, rfl, rfl, rfl, rfl⟩
    · obtain ⟨k, h1, h2, h3, h4⟩ := zipDI_mem os cs bs (i + 1) x h
      exact ⟨k + 1, by omega, by simpa using h2, by simpa using h3, by simpa using h4⟩
theorem compOps_get {P : Program} {N : Nat} {ops : Array Oper} : ∀ {os : List Oper} {cs : List CR}, compOps P N ops os = some cs → ∀ (k : Nat) (o : Oper) (c : CR), os[k]? = some o → cs[k]? = some c → compOp P N ops o = some c
  | [], cs, h, k, o, c, ho, hc => by simp at ho
  | p :: os, cs, h, k, o, c, ho, hc => by
    simp only [compOps] at h
    split at h
    · rename_i c1 l1 h1 h2
      injection h with h; subst h
      cases k with
      | zero => simp at ho hc; subst ho; subst hc; exact h1
      | succ k => exact compOps_get h2 k o c (by simpa using ho) (by simpa using hc)
    · cases h
theorem compOps_len {P : Program} {N : Nat} {ops : Array Oper} : ∀ {os : List Oper} {cs : List CR}, compOps P N ops os = some cs → cs.length = os.length
  | [], cs, h => by simp [compOps] at h; subst h; rfl
  | p :: os, cs, h => by
    simp only [compOps] at h
    split at h
    · rename_i c1 l1 h1 h2
      injection h with h; subst h
      simp [compOps_len h2]
    · cases h
theorem befs_spec : ∀ (l : List Oper) (done : List Nat), ∃ t, befs l done = done ++ t ∧ t.length = l.length ∧ ∀ (k : Nat) (o : Oper), l[k]? = some o → (done ++ t)[done.length + k]? = some (befOf ((done ++ t).take (done.length + k)) o)
  | [], done => ⟨[], by simp [befs], rfl, fun k o h => by simp at h⟩
  | o :: r, done => by
    obtain ⟨t, h1, h2, h3⟩ := befs_spec r (done ++ [befOf done o])
    refine ⟨befOf done o :: t, by simp [befs, h1], by simp [h2], fun k p hk => ?_⟩
    cases k with
    | zero =>
      simp at hk; subst hk
      simp
    | succ k =>
      have := h3 k p (by simpa using hk)
      simpa [Nat.add_assoc, Nat.add_comm 1 k] using this
theorem fold_bits (g : Edge → Nat) (c : Edge → Bool) : ∀ (l : List Edge) (m j : Nat), (l.foldl (fun m e => if c e then m ||| 2 ^ e.on ||| g e else m) m).testBit j = true → m.testBit j = true ∨ ∃ e ∈ l, c e = true ∧ (j = e.on ∨ (g e).testBit j = true)
  | [], m, j, h => .inl h
  | e :: r, m, j, h => by
    simp only [List.foldl_cons] at h
    rcases fold_bits g c r _ j h with h | ⟨e', h1, h2⟩
    · split at h
      · rename_i hc
        simp only [Nat.testBit_or, Bool.or_eq_true] at h
        rcases h with (h | h) | h
        · exact .inl h
        · exact .inr ⟨e, by simp, hc, .inl (by rw [Nat.testBit_two_pow] at h; simpa using (of_decide_eq_true h).symm)⟩
        · exact .inr ⟨e, by simp, hc, .inr h⟩
      · exact .inl h
    · exact .inr ⟨e', by simp [h1], h2⟩
def Closed (B : List Nat) (listed : Array Bool) : Prop := ∀ (i m : Nat), B[i]? = some m → listed.getD i false = true → ∀ j, m.testBit j = true → listed.getD j false = true
theorem bef_ready {ops : Array Oper} {listed : Array Bool} (hcl : Closed (befs ops.toList []) listed) {i m : Nat} {o : Oper} (ho : ops[i]? = some o) (hm : (befs ops.toList [])[i]? = some m)
    (hr : ∀ e ∈ o.after, Region.binds .any e = true → listed.getD e.on false = true) : ∀ j, m.testBit j = true → listed.getD j false = true := by
  obtain ⟨t, h1, h2, h3⟩ := befs_spec ops.toList []
  intro j hj
  have := h3 i o (by simpa using ho)
  simp only [List.nil_append] at h1
  simp only [List.length_nil, Nat.zero_add, List.nil_append] at this
  rw [h1] at hm
  rw [hm] at this
  injection this with this
  subst this
  unfold befOf at hj
  rcases fold_bits (fun e => (t.take i).getD e.on 0) (Region.binds .any) _ _ _ hj with h | ⟨e, he, hb, h⟩
  · simp at h
  · have he' : listed.getD e.on false = true := hr e (by simpa using he) hb
    rcases h with h | h
    · rw [h]; exact he'
    · rw [List.getD_eq_getElem?_getD] at h
      cases q : (t.take i)[e.on]? with
      | none => simp [q] at h
      | some m' =>
        simp only [q, Option.getD_some] at h
        have : t[e.on]? = some m' := by
          rw [List.getElem?_take] at q
          split at q
          · exact q
          · cases q
        exact hcl e.on m' (by rw [h1]; exact this) he' j h
theorem closed_set {ops : Array Oper} {listed : Array Bool} (hcl : Closed (befs ops.toList []) listed) {i : Nat} (hr : ∀ m, (befs ops.toList [])[i]? = some m → ∀ j, m.testBit j = true → listed.getD j false = true) :
    Closed (befs ops.toList []) (listed.setIfInBounds i true) := by
  intro k m hm hk j hj
  by_cases e : i = k
  · subst e
    exact getD_set_true (hr m hm j hj)
  · rw [getD_set_ne false e] at hk
    exact getD_set_true (hcl k m hm hk j hj)
theorem wins_get : ∀ (l r : List DI) (k i : Nat), (wins l r k)[i]? = (r[i]?).map fun x => { x.c with win := winOf x (k + i) l 0 }
  | l, [], k, i => by simp [wins]
  | l, x :: r, k, i => by
    cases i with
    | zero => simp [wins]
    | succ i => simp only [wins, List.getElem?_cons_succ, wins_get l r (k + 1) i]; rw [Nat.add_assoc, Nat.add_comm 1 i]
theorem wins_len : ∀ (l r : List DI) (k : Nat), (wins l r k).length = r.length
  | l, [], k => rfl
  | l, x :: r, k => by simp [wins, wins_len l r (k + 1)]
theorem winOf_spec {x : DI} {k : Nat} : ∀ {l : List DI} {s i : Nat} {y : DI}, l[i]? = some y → isActs y.c = true →
    (s + i < k → x.bef.testBit y.i = false → s + i ∈ winOf x k l s) ∧ (k < s + i → y.bef.testBit x.i = false → s + i + 1 ∈ winOf x k l s)
  | [], s, i, y, h, _ => by simp at h
  | z :: r, s, i, y, h, ha => by
    cases i with
    | zero =>
      simp at h; subst h
      refine ⟨fun h1 h2 => ?_, fun h1 h2 => ?_⟩
      · have : Nat.blt s k = true := by rw [Nat.blt_eq]; simpa using h1
        simp [winOf, ha, this, h2]
      · have e1 : Nat.blt s k = false := by
          cases e : Nat.blt s k with
          | false => rfl
          | true => rw [Nat.blt_eq] at e; omega
        have e2 : Nat.beq s k = false := by
          cases e : Nat.beq s k with
          | false => rfl
          | true => have := Nat.eq_of_beq_eq_true e; omega
        simp [winOf, ha, e1, e2, h2]
    | succ i =>
      have := winOf_spec (x := x) (k := k) (l := r) (s := s + 1) (i := i) (y := y) (by simpa using h) ha
      rw [Nat.add_assoc, Nat.add_comm 1 i] at this
      refine ⟨fun h1 h2 => ?_, fun h1 h2 => ?_⟩
      · have h3 := this.1 h1 h2
        unfold winOf
        repeat' split
        all_goals first | exact h3 | exact List.mem_cons_of_mem _ h3
      · have h3 := this.2 h1 h2
        unfold winOf
        repeat' split
        all_goals first | exact h3 | exact List.mem_cons_of_mem _ h3
theorem hasN_false {d : Nat} : ∀ {l : List Nat}, hasN d l = false → d ∉ l
  | [], _ => by simp
  | x :: r, h => by
    unfold hasN at h
    split at h
    · cases h
    · rename_i e
      have : d ≠ x := by rintro rfl; simp [Nat.beq_refl] at e
      simp [this, hasN_false h]
theorem sameN_some {a : Option Nat} {d : Nat} (h : sameN a (some d) = false) : a ≠ some d := by
  rintro rfl
  simp [sameN, Nat.beq_refl] at h
theorem apartC_spec {x y : CR} (h : apartC x y = true) : (∀ d, x.dst = some d → d ∉ looksC y) ∧ (∀ d, x.dst = some d → y.dst ≠ some d) ∧ (∀ d, y.dst = some d → d ∉ looksC x) := by
  unfold apartC at h
  rw [Bool.and_eq_true] at h
  refine ⟨fun d hd => ?_, fun d hd => ?_, fun d hd => ?_⟩
  · have := h.1; simp only [hd, Bool.and_eq_true, Bool.not_eq_true'] at this; exact hasN_false this.1
  · have := h.1; simp only [hd, Bool.and_eq_true, Bool.not_eq_true'] at this; exact sameN_some this.2
  · have := h.2; simp only [hd, Bool.not_eq_true'] at this; exact hasN_false this
structure DF (P : Program) (N : Nat) (ops : Array Oper) (l : List DI) (two : Option (Nat × Nat)) : Prop where
  len : l.length = ops.size
  op : ∀ x ∈ l, ops[x.i]? = some x.o ∧ compOp P N ops x.o = some x.c ∧ (befs ops.toList [])[x.i]? = some x.bef
  cov : ∀ j, j < ops.size → ∃ x ∈ l, x.i = j
  back : ∀ x ∈ l, ∀ e ∈ x.o.after, Region.binds .any e = true → e.on < x.i
  nobar : ∀ x ∈ l, x.c.op.cl ≠ .bars
  pair : ∀ (j k : Nat) (x y : DI), j < k → l[j]? = some x → l[k]? = some y → pairOk two j k x y = true
  two : twoChk l two = true
theorem covers_spec {l : List DI} : ∀ {n : Nat}, covers l n = true → ∀ j, j < n → ∃ x ∈ l, x.i = j
  | 0, _, j, hj => by omega
  | n + 1, h, j, hj => by
    simp only [covers, Bool.and_eq_true] at h
    by_cases e : j = n
    · obtain ⟨x, hx, he⟩ := List.any_eq_true.1 h.1
      exact ⟨x, hx, by rw [e]; exact Nat.eq_of_beq_eq_true he⟩
    · exact covers_spec h.2 j (by omega)
theorem draw_facts {P : Program} {N : Nat} {ops : Array Oper} : compDraw P N ops = stuckC ∨ ∃ l two, compDraw P N ops = .draw (wins l l 0) two ∧ DF P N ops l two := by
  unfold compDraw
  split
  · exact .inl rfl
  · rename_i cs hcs
    unfold drawL
    split
    · rename_i hchk
      refine .inr ⟨_, _, rfl, ?_⟩
      generalize hl : reorder (zipDI ops.toList cs (befs ops.toList []) 0) = l at hchk ⊢
      generalize twoOf l = two at hchk ⊢
      simp only [chkD, Bool.and_eq_true] at hchk
      obtain ⟨⟨⟨⟨h1, h2⟩, h3⟩, h4⟩, h5⟩ := hchk
      have hone : ∀ x ∈ l, oneOk x = true := List.all_eq_true.1 h3
      refine ⟨Nat.eq_of_beq_eq_true h1, fun x hx => ?_, covers_spec h2, fun x hx e he hb => ?_, fun x hx => ?_, fun j k x y hjk hj hk => ?_, h5⟩
      · rw [← hl] at hx
        obtain ⟨k, k1, k2, k3, k4⟩ := zipDI_mem _ _ _ _ _ (reorder_mem hx)
        rw [Nat.zero_add] at k1
        rw [k1]
        exact ⟨by simpa using k2, compOps_get hcs k _ _ k2 k3, k4⟩
      · have := hone x hx
        simp only [oneOk, Bool.and_eq_true] at this
        have := List.all_eq_true.1 this.1 e (by simpa using he)
        simp only [hb, Bool.not_true, Bool.false_or] at this
        rwa [Nat.blt_eq] at this
      · have := hone x hx
        simp only [oneOk, Bool.and_eq_true] at this
        intro hc
        simp [hc] at this
      · have := all2_spec h4 j k x y hjk hj hk
        simpa using this
    · exact .inl rfl
end Go.Ab
namespace Go.Ab
def Fresh (σ : Ren) (a b : Nat) : Prop := ∀ c, a ≤ c → c < b → σ c = none
def CallRet (P : Program) (σ : Ren) (h : H) (w : World) (f : Nat) (args' : Array Value) (v : AV) (h' : H) : Prop :=
  (callFunc f args').run P w = .ok (.enter f args') w ∧ Calls P f args' w fun e w' => ∃ v' σ', e = .returned v' ∧ VR σ' v v' ∧ HR σ' h' w' ∧ Ext σ σ' h h' w w'
structure ClOk (P : Program) (cl : Nat → List AV → H → Cr) : Prop where
  grow : ∀ f args h v h', cl f args h = .ret v h' → Grow h h'
  ret : ∀ f args h v h', cl f args h = .ret v h' → ∀ σ w args', HR σ h w → LR σ args args' → Fresh σ h.next h'.next → CallRet P σ h w f args'.toArray v h'
theorem guard_same {c : CR} {ts ts' : TS} (hs : SameOn (looksC c) ts ts') : guardOk ts c = guardOk ts' c ∧ wantedA ts c = wantedA ts' c := by
  have := hs.right
  unfold guardOk wantedA
  cases e : c.guard with
  | none => exact ⟨rfl, rfl⟩
  | some p =>
    obtain ⟨d, want⟩ := p
    have hd : ts.get d = ts'.get d := this d (by simp [e])
    simp only [hd]
    exact ⟨trivial, trivial⟩
section
variable {P : Program} {N : Nat} {ops : Array Oper} {cl : Nat → List AV → H → Cr}
theorem do_op (hcl : ClOk P cl) {σ : Ren} {h h' : H} {w : World} {a : Act} {ts Si : TS} {x : DI} {v : AV} (htr : TR σ ts a.tmps) (hsame : SameOn (looksC x.c) ts Si) (r : HR σ h w)
    (ho : ops[x.i]? = some x.o) (hc : compOp P N ops x.o = some x.c) (hres : resD cl x.c Si h = some (v, h')) (hf : Fresh σ h.next h'.next) {K : Act → World → Prop} {Q : Exit → Act → World → Prop}
    (hk : ∀ σ' v' w', VR σ' v v' → HR σ' h' w' → Ext σ σ' h h' w w' → K (a.put x.o.dst v') w') : wpOp P ops Q x.i K a w := by
  unfold wpOp
  simp only [ho]
  unfold resD at hres
  obtain ⟨g1, g2⟩ := guard_same hsame
  split at hres
  · cases hres
  · rename_i hg
    rw [wanted_ok htr hc (by rw [g1, hg]), g2]
    split at hres
    · rename_i hw
      injection hres with hres; injection hres with e1 e2; subst e1; subst e2
      simp only [hw, Bool.false_eq_true, if_false]
      exact hk σ undef w (VR.undef σ) r (Ext.refl σ h w)
    · rename_i hw
      simp only [hw, if_true]
      refine .inl ?_
      have hop := op_ok' htr r hc
      rw [opA_congr hsame.left] at hop
      unfold Oper.wp
      split at hres
      · rename_i v1 h1 e
        injection hres with hres; injection hres with e1 e2; subst e1; subst e2
        rw [e] at hop
        obtain ⟨σ', v', w', k1, k2, k3, k4⟩ := hop hf
        rw [k1, Oper.upon_value]
        exact hk σ' v' w' k2 k3 k4
      · rename_i h1 e
        injection hres with hres; injection hres with e1 e2; subst e1; subst e2
        rw [e] at hop
        obtain ⟨σ', w', k1, k3, k4⟩ := hop hf
        rw [k1, Oper.upon_skip]
        exact hk σ' undef w' (VR.undef σ') k3 k4
      · rename_i f args h1 e
        rw [e] at hop
        obtain ⟨rfl, args', k1, k2⟩ := hop
        split at hres
        · rename_i v1 h2 e2
          injection hres with hres; injection hres with e3 e4; subst e3; subst e4
          obtain ⟨m1, m2⟩ := hcl.ret _ _ _ _ _ e2 σ w args' r k1 hf
          rw [k2, m1, Oper.upon_enter]
          refine Calls.mono m2 fun e' w' he => ?_
          obtain ⟨v', σ', rfl, q1, q2, q3⟩ := he
          exact hk σ' v' w' q1 q2 q3
        · cases hres
      · cases hres
end
def ownB : Bk → Bool
  | .cells o _ => o
  | .map .. => true
theorem own_iff {h : H} {b : Nat} : Own h b ↔ ∃ x, h.get b = some x ∧ ownB x = true := by
  constructor
  · rintro (⟨cs, e⟩ | ⟨es, c, e⟩)
    · exact ⟨_, e, rfl⟩
    · exact ⟨_, e, rfl⟩
  · rintro ⟨x, e, ho⟩
    cases x with
    | cells o cs =>
      have : o = true := ho
      subst this
      exact .inl ⟨cs, e⟩
    | map es c => exact .inr ⟨es, c, e⟩
structure HRP (σ : Ren) (A : Nat → Bk → Prop) (w : World) : Prop where
  bnd : ∀ b L, σ b = some L → L.blk < w.heap.size
  blk : ∀ b x L, A b x → σ b = some L → BR σ x L w
  inj : ∀ b b' x x' L L', b ≠ b' → A b x → ownB x = true → A b' x' → σ b = some L → σ b' = some L' → L.blk ≠ L'.blk
theorem HRP.of {σ : Ren} {h : H} {w : World} (r : HR σ h w) : HRP σ (fun b x => h.get b = some x) w :=
  ⟨r.bnd, r.blk, fun b b' x x' L L' hne hb ho hb' hs hs' => r.inj b b' L L' hne (own_iff.2 ⟨x, hb, ho⟩) (by simp [hb']) hs hs'⟩
theorem HRP.to {σ : Ren} {A : Nat → Bk → Prop} {w : World} (r : HRP σ A w) {h : H} (hs : ∀ b x, h.get b = some x → A b x) (hn : ∀ b x, h.get b = some x → b < h.next) : HR σ h w := by
  refine ⟨r.bnd, fun b x L hg hL => r.blk b x L (hs b x hg) hL, fun b b' L L' hne ho hg hL hL' => ?_, fun b hg => ?_⟩
  · obtain ⟨x, e, hx⟩ := own_iff.1 ho
    obtain ⟨x', e'⟩ := Option.isSome_iff_exists.1 hg
    exact r.inj b b' x x' L L' hne (hs b x e) hx (hs b' x' e') hL hL'
  · obtain ⟨x', e'⟩ := Option.isSome_iff_exists.1 hg
    exact hn b x' e'
structure XP (σ0 : Ren) (h0 : H) (w0 : World) (X : Nat) (σ : Ren) (A : Nat → Bk → Prop) (w : World) : Prop where
  out : ∀ b, ¬ (h0.next ≤ b ∧ b < X) → σ b = σ0 b
  os : w.os = w0.os
  tape : w.tape = w0.tape
  output : w.output = w0.output
  size : w0.heap.size ≤ w.heap.size
  keep : ∀ c, c < w0.heap.size → (∀ b L, Own h0 b → σ0 b = some L → L.blk ≠ c) → w.heap[c]? = w0.heap[c]?
  own : ∀ b x L, A b x → ownB x = true → σ b = some L → w0.heap.size ≤ L.blk ∨ ∃ b0 L0, Own h0 b0 ∧ σ0 b0 = some L0 ∧ L0.blk = L.blk
  live : ∀ b x L, A b x → σ b = some L → w0.heap.size ≤ L.blk ∨ ∃ b0 L0, (h0.get b0).isSome = true ∧ σ0 b0 = some L0 ∧ L0.blk = L.blk
section
variable {σ σ' : Ren} {A A' : Nat → Bk → Prop} {h h' : H} {w w' : World}
def Turn (σ σ' : Ren) (A A' : Nat → Bk → Prop) (h h' : H) : Prop :=
  ∀ b x L, A' b x → σ' b = some L → h'.get b = some x ∨ (A b x ∧ h.get b = none ∧ σ b = some L)
theorem HRP.frame (q : HRP σ A w) (hsub : ∀ b x, h.get b = some x → A b x) (e : Ext σ σ' h h' w w') (r' : HR σ' h' w') (hl : Turn σ σ' A A' h h') : HRP σ' A' w' := by
  have hown : ∀ b x L, A b x → h.get b = none → σ b = some L → ∀ b0 L0, Own h b0 → σ b0 = some L0 → L0.blk ≠ L.blk := by
    intro b x L hA hn hs b0 L0 ho hs0
    obtain ⟨x0, e0, hx0⟩ := own_iff.1 ho
    have : b0 ≠ b := by rintro rfl; rw [hn] at e0; cases e0
    exact q.inj b0 b x0 x L0 L this (hsub _ _ e0) hx0 hA hs0 hs
  refine ⟨r'.bnd, fun b x L hA hs => ?_, fun b b' x x' L L' hne hA ho hA' hs hs' => ?_⟩
  · rcases hl b x L hA hs with hg | ⟨k1, k2, k3⟩
    · exact r'.blk b x L hg hs
    · exact ((q.blk b x L k1 k3).mono e.le).heap (e.keep L.blk (q.bnd b L k3) (hown b x L k1 k2 k3))
  · rcases hl b x L hA hs with hg | ⟨k1, k2, k3⟩
    · rcases hl b' x' L' hA' hs' with hg' | ⟨m1, m2, m3⟩
      · exact r'.inj b b' L L' hne (own_iff.2 ⟨x, hg, ho⟩) (by simp [hg']) hs hs'
      · rcases e.own b L (own_iff.2 ⟨x, hg, ho⟩) hs with h1 | ⟨b0, L0, h1, h2, h3⟩
        · have := q.bnd b' L' m3; omega
        · rw [← h3]; exact hown b' x' L' m1 m2 m3 b0 L0 h1 h2
    · rcases hl b' x' L' hA' hs' with hg' | ⟨m1, m2, m3⟩
      · rcases e.live b' L' (by simp [hg']) hs' with h1 | ⟨b0, L0, h1, h2, h3⟩
        · have := q.bnd b L k3; omega
        · obtain ⟨x0, e0⟩ := Option.isSome_iff_exists.1 h1
          have : b ≠ b0 := by rintro rfl; rw [k2] at e0; cases e0
          rw [← h3]
          exact q.inj b b0 x x0 L L0 this k1 ho (hsub _ _ e0) k3 h2
      · exact q.inj b b' x x' L L' hne k1 ho m1 k3 m3
theorem XP.frame {σ0 : Ren} {h0 : H} {w0 : World} {X : Nat} (q : XP σ0 h0 w0 X σ A w) (hsub : ∀ b x, h.get b = some x → A b x) (e : Ext σ σ' h h' w w') (h1 : h0.next ≤ h.next) (h2 : h'.next ≤ X) (hl : Turn σ σ' A A' h h') : XP σ0 h0 w0 X σ' A' w' := by
  refine ⟨fun b hb => ?_, e.os.trans q.os, e.tape.trans q.tape, e.output.trans q.output, Nat.le_trans q.size e.size, fun c hc hn => ?_, fun b x L hA ho hs => ?_, fun b x L hA hs => ?_⟩
  · rw [e.out b (fun hh => hb ⟨by omega, by omega⟩)]; exact q.out b hb
  · rw [← q.keep c hc hn]
    refine e.keep c (Nat.lt_of_lt_of_le hc q.size) fun b L ho hs => ?_
    obtain ⟨x, e0, hx⟩ := own_iff.1 ho
    rcases q.own b x L (hsub _ _ e0) hx hs with g | ⟨b0, L0, g1, g2, g3⟩
    · omega
    · rw [← g3]; exact hn b0 L0 g1 g2
  · rcases hl b x L hA hs with hg | ⟨k1, k2, k3⟩
    · rcases e.own b L (own_iff.2 ⟨x, hg, ho⟩) hs with g | ⟨b0, L0, g1, g2, g3⟩
      · exact .inl (Nat.le_trans q.size g)
      · obtain ⟨x0, e0, hx0⟩ := own_iff.1 g1
        rcases q.own b0 x0 L0 (hsub _ _ e0) hx0 g2 with g | ⟨b1, L1, m1, m2, m3⟩
        · exact .inl (by rw [← g3]; exact g)
        · exact .inr ⟨b1, L1, m1, m2, m3.trans g3⟩
    · exact q.own b x L k1 ho k3
  · rcases hl b x L hA hs with hg | ⟨k1, k2, k3⟩
    · rcases e.live b L (by simp [hg]) hs with g | ⟨b0, L0, g1, g2, g3⟩
      · exact .inl (Nat.le_trans q.size g)
      · obtain ⟨x0, e0⟩ := Option.isSome_iff_exists.1 g1
        rcases q.live b0 x0 L0 (hsub _ _ e0) g2 with g | ⟨b1, L1, m1, m2, m3⟩
        · exact .inl (by rw [← g3]; exact g)
        · exact .inr ⟨b1, L1, m1, m2, m3.trans g3⟩
    · exact q.live b x L k1 k3
theorem XP.start {σ0 : Ren} {h0 : H} {w0 w : World} {X : Nat} (e : Ext σ0 σ0 h0 h0 w0 w) : XP σ0 h0 w0 X σ0 (fun b x => h0.get b = some x) w :=
  ⟨fun _ _ => rfl, e.os, e.tape, e.output, e.size, e.keep, fun b x L hA ho hs => e.own b L (own_iff.2 ⟨x, hA, ho⟩) hs, fun b x L hA hs => e.live b L (by simp [hA]) hs⟩
theorem XP.done {σ0 : Ren} {h0 hn : H} {w0 : World} (q : XP σ0 h0 w0 hn.next σ (fun b x => hn.get b = some x) w) (hle : h0.next ≤ hn.next) (hf : Fresh σ0 h0.next hn.next) : Ext σ0 σ h0 hn w0 w :=
  ⟨hle, q.out, hf, q.os, q.tape, q.output, q.size, q.keep, fun b L ho hs => (let ⟨x, e, hx⟩ := own_iff.1 ho; q.own b x L e hx hs), fun b L hg hs => (let ⟨x, e⟩ := Option.isSome_iff_exists.1 hg; q.live b x L e hs)⟩
end
end Go.Ab
namespace Go.Ab
structure Run (cl : Nat → List AV → H → Cr) (l : List DI) (C : Nat → DI) (S : Nat → TS) (G : Nat → H) (V : Nat → AV) : Prop where
  get : ∀ k, k < l.length → l[k]? = some (C k)
  res : ∀ k, k < l.length → resD cl (C k).c (S k) (G k) = some (V k, G (k + 1))
  put : ∀ k, k < l.length → S (k + 1) = putT (S k) (C k).c.dst (V k)
def foldT (S0 : TS) (C : Nat → DI) (V : Nat → AV) (D : Nat → Bool) : Nat → TS
  | 0 => S0
  | k + 1 => match D k with
    | true => putT (foldT S0 C V D k) (C k).c.dst (V k)
    | false => foldT S0 C V D k
theorem putT_get (ts : TS) (d : Option Nat) (v : AV) (t : Nat) : (putT ts d v).get t = if d = some t then some v else ts.get t := by
  cases d with
  | none => simp [putT]
  | some d =>
    simp only [putT, Tr.get_set, Option.some.injEq]
    by_cases e : t = d
    · simp [e]
    · rw [if_neg e, if_neg (fun h => e h.symm)]
section
variable {S0 : TS} {C : Nat → DI} {V : Nat → AV} {D D' : Nat → Bool}
theorem foldT_agree {t : Nat} : ∀ {m : Nat}, (∀ k, k < m → (C k).c.dst = some t → D k = D' k) → (foldT S0 C V D m).get t = (foldT S0 C V D' m).get t
  | 0, _ => rfl
  | m + 1, h => by
    have ih := foldT_agree (m := m) (fun k hk => h k (by omega))
    simp only [foldT]
    by_cases e : (C m).c.dst = some t
    · rw [h m (by omega) e]
      cases D' m <;> simp [putT_get, e, ih]
    · cases D m <;> cases D' m <;> simp [putT_get, e, ih]
theorem foldT_upto (i : Nat) : ∀ m, foldT S0 C V (fun k => decide (k < i)) m = foldT S0 C V (fun _ => true) (Min.min m i)
  | 0 => by simp [foldT]
  | m + 1 => by
    simp only [foldT, foldT_upto i m]
    by_cases e : m < i
    · have e1 : Min.min (m + 1) i = m + 1 := by omega
      have e2 : Min.min m i = m := by omega
      simp [e, e1, e2, foldT]
    · have e1 : Min.min (m + 1) i = i := by omega
      have e2 : Min.min m i = i := by omega
      simp [e, e1, e2]
theorem foldT_set {i : Nat} {t : Nat} (h1 : D' i = true) (h0 : D i = false) : ∀ {m : Nat}, i < m → (∀ k, k < m → k ≠ i → D' k = D k) → (∀ k, i < k → k < m → (C k).c.dst = (C i).c.dst → (C i).c.dst = some t → D k = false) →
    (foldT S0 C V D' m).get t = (putT (foldT S0 C V D m) (C i).c.dst (V i)).get t
  | 0, hi, _, _ => by omega
  | m + 1, hi, h2, hl => by
    by_cases e : i = m
    · subst e
      simp only [foldT, h1, h0]
      rw [putT_get, putT_get, foldT_agree (D' := D) fun k hk _ => h2 k (by omega) (by omega)]
    · have ih := foldT_set (t := t) h1 h0 (m := m) (by omega) (fun k a b => h2 k (by omega) b) (fun k a b => hl k a (by omega))
      simp only [foldT, h2 m (by omega) (fun h => e h.symm)]
      cases hD : D m with
      | false => exact ih
      | true =>
        simp only [putT_get]
        simp only [putT_get] at ih
        by_cases em : (C m).c.dst = some t
        · by_cases ei : (C i).c.dst = some t
          · have := hl m (by omega) (by omega) (em.trans ei.symm) ei
            rw [hD] at this; cases this
          · simp [em, ei]
        · by_cases ei : (C i).c.dst = some t
          · simp [em, ei] at ih ⊢; exact ih
          · simp [em, ei] at ih ⊢; exact ih
theorem foldT_run {cl : Nat → List AV → H → Cr} {l : List DI} {S : Nat → TS} {G : Nat → H} (r : Run cl l C S G V) : ∀ {k : Nat}, k ≤ l.length → foldT (S 0) C V (fun _ => true) k = S k
  | 0, _ => rfl
  | k + 1, hk => by simp only [foldT, foldT_run r (k := k) (by omega), r.put k (by omega)]
end
structure Ctx (P : Program) (N : Nat) (ops : Array Oper) (l : List DI) (two : Option (Nat × Nat)) (cl : Nat → List AV → H → Cr) (C : Nat → DI) (S : Nat → TS) (G : Nat → H) (V : Nat → AV) : Prop where
  df : DF P N ops l two
  run : Run cl l C S G V
  ok : ClOk P cl
  held : ∀ k, k < l.length → isReads (C k).c = true → wantedA (S k) (C k).c = true → ∀ q ∈ winOf (C k) k l 0, q ≤ l.length → ∃ v' h', opA (S k) (G q) (C k).c.op = .val v' h' ∧ sameA (V k) v' = true
  two : ∀ j k, two = some (j, k) → ∃ b b' o o' s s' x x' z z', (C j).c.op = .store s x z ∧ evA (S j) x = .ptr b o ∧ (C k).c.op = .store s' x' z' ∧ evA (S k) x' = .ptr b' o' ∧ b ≠ b'
  nx0 : NX (G 0)
section
variable {P : Program} {N : Nat} {ops : Array Oper} {l : List DI} {two : Option (Nat × Nat)} {cl : Nat → List AV → H → Cr} {C : Nat → DI} {S : Nat → TS} {G : Nat → H} {V : Nat → AV}
theorem resD_grow (hcl : ClOk P cl) {o : CR} {ts : TS} {h h' : H} {v : AV} (e : resD cl o ts h = some (v, h')) : Grow h h' := by
  unfold resD at e
  split at e
  · cases e
  · split at e
    · injection e with e; injection e with e1 e2; subst e2; exact Grow.refl _
    · have := opA_grow ts h o.op
      split at e
      · rename_i q; injection e with e; injection e with e1 e2; subst e2; rw [q] at this; exact this
      · rename_i q; injection e with e; injection e with e1 e2; subst e2; rw [q] at this; exact this
      · rename_i q
        rw [q] at this
        split at e
        · rename_i q2; injection e with e; injection e with e1 e2; subst e2; exact Grow.trans this (hcl.grow _ _ _ _ _ q2)
        · cases e
      · cases e
theorem Ctx.grow1 (c : Ctx P N ops l two cl C S G V) {k : Nat} (hk : k < l.length) : Grow (G k) (G (k + 1)) := resD_grow c.ok (c.run.res k hk)
theorem Ctx.grow (c : Ctx P N ops l two cl C S G V) {j : Nat} : ∀ {k : Nat}, j ≤ k → k ≤ l.length → Grow (G j) (G k)
  | 0, h, _ => by have : j = 0 := by omega
                  subst this; exact Grow.refl _
  | k + 1, h, hk => by
    by_cases e : j = k + 1
    · subst e; exact Grow.refl _
    · exact (Ctx.grow c (k := k) (by omega) (by omega)).trans (c.grow1 (by omega))
theorem Ctx.nx (c : Ctx P N ops l two cl C S G V) {k : Nat} (hk : k ≤ l.length) : NX (G k) := (c.grow (Nat.zero_le k) hk).nx c.nx0
theorem Ctx.mem (c : Ctx P N ops l two cl C S G V) {k : Nat} (hk : k < l.length) : C k ∈ l := List.mem_of_getElem? (c.run.get k hk)
theorem Ctx.pair (c : Ctx P N ops l two cl C S G V) {j k : Nat} (hjk : j < k) (hk : k < l.length) : (C j).bef.testBit (C k).i = false ∧ (C j).i ≠ (C k).i ∧
    ((C k).bef.testBit (C j).i = true ∨ (apartC (C j).c (C k).c = true ∧ ((isActs (C j).c && isActs (C k).c) = false ∨ isTwo two j k = true) ∧ (isMakes (C j).c && isActs (C k).c) = false)) := by
  have := c.df.pair j k _ _ hjk (c.run.get j (by omega)) (c.run.get k hk)
  simp only [pairOk, Bool.and_eq_true, Bool.or_eq_true, Bool.not_eq_true'] at this
  obtain ⟨⟨h1, h2⟩, h3⟩ := this
  refine ⟨h1, (fun e => by rw [e, Nat.beq_refl] at h2; cases h2), ?_⟩
  rcases h3 with h3 | ⟨⟨h3, h4⟩, h5⟩
  · exact .inl h3
  · exact .inr ⟨h3, h4, h5⟩
theorem Ctx.heap (c : Ctx P N ops l two cl C S G V) {k : Nat} (hk : k < l.length) (hna : isActs (C k).c = false) : G (k + 1) = G k ∨ ∃ x, G (k + 1) = (G k).new x ∧ isMakes (C k).c = true ∧ wantedA (S k) (C k).c = true := by
  have := c.run.res k hk
  unfold resD at this
  split at this
  · cases this
  · split at this
    · injection this with e; injection e with e1 e2; exact .inl e2.symm
    · rename_i hw
      have hb := c.df.nobar _ (c.mem hk)
      cases hc : (C k).c.op.cl with
      | pure =>
        rcases pure_cls hc (S k) (G k) with ⟨v, hv⟩ | hv
        · rw [hv (G k)] at this; injection this with e; injection e with e1 e2; exact .inl e2.symm
        · rw [hv] at this; cases this
      | reads =>
        rcases reads_cls hc (S k) (G k) with ⟨v, hv⟩ | hv
        · have := hv (G k).next
          change opA (S k) (G k) (C k).c.op = _ at this
          rename_i h0
          rw [this] at h0; injection h0 with e; injection e with e1 e2; exact .inl e2.symm
        · rw [hv] at this; cases this
      | makes =>
        rcases makes_cls hc (S k) (G k) with ⟨v, x, hv⟩ | hv
        · have h2 := hv (G k).m
          change opA (S k) (G k) (C k).c.op = _ at h2
          rw [h2] at this; injection this with e; injection e with e1 e2
          exact .inr ⟨x, e2.symm, by simp [isMakes, hc], hw⟩
        · rw [hv] at this; cases this
      | acts => simp [isActs, hc] at hna
      | bars => exact absurd hc hb
theorem Ctx.chain (c : Ctx P N ops l two cl C S G V) {j : Nat} : ∀ {k : Nat}, j ≤ k → k ≤ l.length → (∀ m, j ≤ m → m < k → isActs (C m).c = false) → ∀ b x, (G k).get b = some x ↔ (G j).get b = some x ∨ ∃ m, j ≤ m ∧ m < k ∧ b = (G m).next ∧ G (m + 1) = (G m).new x
  | 0, h, _, _, b, x => by
    have : j = 0 := by omega
    subst this
    exact ⟨.inl, fun h => h.elim id fun ⟨m, h1, h2, _⟩ => by omega⟩
  | k + 1, h, hk, hna, b, x => by
    by_cases e : j = k + 1
    · subst e
      exact ⟨.inl, fun h => h.elim id fun ⟨m, h1, h2, _⟩ => by omega⟩
    · have ih := Ctx.chain c (k := k) (by omega) (by omega) (fun m h1 h2 => hna m h1 (by omega)) b x
      have hnx := c.nx (k := k) (by omega)
      rcases c.heap (k := k) (by omega) (hna k (by omega) (by omega)) with he | ⟨y, he, _⟩
      · rw [he, ih]
        refine ⟨fun h => h.imp id fun ⟨m, h1, h2, h3⟩ => ⟨m, h1, by omega, h3⟩, fun h => h.imp id fun ⟨m, h1, h2, h3, h4⟩ => ⟨m, h1, ?_, h3, h4⟩⟩
        rcases Nat.lt_or_ge m k with q | q
        · exact q
        · have : m = k := by omega
          subst this
          rw [he] at h4
          have := congrArg H.next h4
          rw [H.next_new] at this; omega
      · rw [he, H.get_new]
        constructor
        · intro h
          split at h
          · rename_i hb; injection h with h; subst h; exact .inr ⟨k, by omega, by omega, hb, he⟩
          · exact (ih.1 h).imp id fun ⟨m, h1, h2, h3⟩ => ⟨m, h1, by omega, h3⟩
        · rintro (h | ⟨m, h1, h2, h3, h4⟩)
          · have h5 := hnx b x (ih.2 (.inl h))
            rw [if_neg (by omega)]; exact ih.2 (.inl h)
          · rcases Nat.lt_or_ge m k with q | q
            · have h5 := hnx b x (ih.2 (.inr ⟨m, h1, q, h3, h4⟩))
              rw [if_neg (by omega)]; exact ih.2 (.inr ⟨m, h1, q, h3, h4⟩)
            · have : m = k := by omega
              subst this
              rw [if_pos h3]
              rw [he] at h4
              have := congrArg (fun g => H.get g (G m).next) h4
              simpa [H.get_new] using this
theorem Ctx.nextAct (c : Ctx P N ops l two cl C S G V) : ∀ (d p : Nat), p + d = l.length → ∃ p', p ≤ p' ∧ p' ≤ l.length ∧ (p' < l.length → isActs (C p').c = true) ∧ ∀ m, p ≤ m → m < p' → isActs (C m).c = false
  | 0, p, h => ⟨p, Nat.le_refl _, by omega, fun h' => by omega, fun m h1 h2 => by omega⟩
  | d + 1, p, h => by
    cases e : isActs (C p).c with
    | true => exact ⟨p, Nat.le_refl _, by omega, fun _ => e, fun m h1 h2 => by omega⟩
    | false =>
      obtain ⟨p', h1, h2, h3, h4⟩ := Ctx.nextAct c d (p + 1) (by omega)
      refine ⟨p', by omega, h2, h3, fun m h5 h6 => ?_⟩
      by_cases q : m = p
      · rw [q]; exact e
      · exact h4 m (by omega) h6
end
def Dn (C : Nat → DI) (listed : Array Bool) (k : Nat) : Bool := listed.getD (C k).i false
def Alive (G : Nat → H) (n : Nat) (g : H) (p : Nat) (D : Nat → Bool) (b : Nat) (y : Bk) : Prop :=
  g.get b = some y ∨ ∃ m, p ≤ m ∧ m < n ∧ D m = true ∧ b = (G m).next ∧ G (m + 1) = (G m).new y
structure Inv (N : Nat) (ops : Array Oper) (n : Nat) (C : Nat → DI) (S : Nat → TS) (G : Nat → H) (V : Nat → AV) (σ0 : Ren) (w0 : World) (a0 : Act) (listed : Array Bool) (a : Act) (w : World) (σ : Ren) (p : Nat) (g : H) : Prop where
  lsz : listed.size = ops.size
  cls : Closed (befs ops.toList []) listed
  hp : p ≤ n
  g1 : g.next = (G p).next
  gnx : NX g
  hr : HRP σ (Alive G n g p (Dn C listed)) w
  xp : XP σ0 (G 0) w0 (G n).next σ (Alive G n g p (Dn C listed)) w
  un : ∀ k, k < n → Dn C listed k = false → Fresh σ (G k).next (G (k + 1)).next
  tr : TR σ (foldT (S 0) C V (Dn C listed) n) a.tmps
  tsz : a.tmps.size = N
  ads : a.defers = a0.defers
def CaseA (n : Nat) (C : Nat → DI) (G : Nat → H) (D : Nat → Bool) (p : Nat) (g : H) : Prop :=
  g = G p ∧ (p < n → isActs (C p).c = true) ∧ (∀ k, k < p → isActs (C k).c = true → D k = true) ∧ (∀ k, p ≤ k → k < n → isActs (C k).c = true → D k = false)
def CaseB (n : Nat) (two : Option (Nat × Nat)) (cl : Nat → List AV → H → Cr) (C : Nat → DI) (S : Nat → TS) (G : Nat → H) (V : Nat → AV) (D : Nat → Bool) (p : Nat) (g : H) : Prop :=
  ∃ j k, two = some (j, k) ∧ j < n ∧ isActs (C j).c = true ∧ p = n ∧ D j = false ∧ (∀ m, m < n → isPure (C m).c = false → m ≠ j → D m = true) ∧
    ∃ g', resD cl (C j).c (S j) g = some (V j, g') ∧ (∀ b, g'.get b = (G n).get b) ∧ g'.next = (G n).next
end Go.Ab
namespace Go.Ab
theorem kindB {k k' : IntKind} {a b : Int} (h : (match kindEq k k' with | true => decide (a = b) | false => false) = true) : k = k' ∧ a = b := by
  split at h
  · rename_i e; exact ⟨kindEq_iff e, of_decide_eq_true h⟩
  · cases h
theorem sameV_eq : ∀ {a b : AV}, sameV a b = true → a = b := by
  intro a b h
  unfold sameV at h
  split at h <;> first | (cases h; done) | rfl | skip
  · simpa using h
  · obtain ⟨h1, h2⟩ := kindB h; rw [h1, h2]
  · rw [listEq_iff] at h; rw [of_decide_eq_true h]
  · rw [Bool.and_eq_true] at h; rw [Nat.eq_of_beq_eq_true h.1, Nat.eq_of_beq_eq_true h.2]
  · rename_i a1 b1 c1 d1 e1 a2 b2 c2 d2 e2
    simp only [Bool.and_eq_true] at h
    obtain ⟨⟨⟨⟨h1, h2⟩, h3⟩, h4⟩, h5⟩ := h
    have : d1 = d2 := by
      unfold sameN at h4
      split at h4
      · rfl
      · rw [Nat.eq_of_beq_eq_true h4]
      · cases h4
    rw [Nat.eq_of_beq_eq_true h1, Nat.eq_of_beq_eq_true h2, Nat.eq_of_beq_eq_true h3, Nat.eq_of_beq_eq_true h5, this]
  · rw [Nat.eq_of_beq_eq_true h]
theorem sameL_eq : ∀ {a b : List AV}, sameL a b = true → a = b
  | [], [], _ => rfl
  | [], _ :: _, h => by cases h
  | _ :: _, [], h => by cases h
  | x :: r, y :: s, h => by
    simp only [sameL, Bool.and_eq_true] at h
    rw [sameV_eq h.1, sameL_eq h.2]
theorem sameA_eq {a b : AV} (h : sameA a b = true) : a = b := by
  unfold sameA at h
  split at h
  · rw [sameL_eq h]
  · rw [sameL_eq h]
  · exact sameV_eq h
theorem resD_cases {cl : Nat → List AV → H → Cr} {o : CR} {ts : TS} {h h' : H} {v : AV} (e : resD cl o ts h = some (v, h')) : guardOk ts o = true ∧ ((wantedA ts o = false ∧ v = undefA ∧ h' = h) ∨ wantedA ts o = true) := by
  unfold resD at e
  split at e
  · cases e
  · rename_i hg
    refine ⟨hg, ?_⟩
    split at e
    · rename_i hw; injection e with e; injection e with e1 e2; exact .inl ⟨hw, e1.symm, e2.symm⟩
    · rename_i hw; exact .inr hw
theorem resD_val {cl : Nat → List AV → H → Cr} {o : CR} {ts : TS} {h h' : H} {v : AV} (hg : guardOk ts o = true) (hw : wantedA ts o = true) (e : opA ts h o.op = .val v h') : resD cl o ts h = some (v, h') := by
  unfold resD; simp [hg, hw, e]
theorem resD_skip {cl : Nat → List AV → H → Cr} {o : CR} {ts : TS} {h h' : H} (hg : guardOk ts o = true) (hw : wantedA ts o = true) (e : opA ts h o.op = .skip h') : resD cl o ts h = some (undefA, h') := by
  unfold resD; simp [hg, hw, e]
theorem resD_no {cl : Nat → List AV → H → Cr} {o : CR} {ts : TS} {h : H} {q : AV × H} (hw : wantedA ts o = true) (e : opA ts h o.op = .no) : resD cl o ts h ≠ some q := by
  unfold resD
  split
  · intro h; cases h
  · simp [hw, e]
theorem resD_un {cl : Nat → List AV → H → Cr} {o : CR} {ts : TS} {h : H} (hg : guardOk ts o = true) (hw : wantedA ts o = false) : resD cl o ts h = some (undefA, h) := by
  unfold resD; simp [hg, hw]
theorem storeA_swap {h h1 h2 : H} {b o b' o' : Nat} {vs vs' : List AV} (hne : b ≠ b') (e1 : storeA h b o vs = some h1) (e2 : storeA h1 b' o' vs' = some h2) :
    ∃ g g', storeA h b' o' vs' = some g ∧ storeA g b o vs = some g' ∧ (∀ c, g'.get c = h2.get c) ∧ g'.next = h2.next ∧ g.next = h.next ∧ h2.next = h.next := by
  unfold storeA at e1
  split at e1
  · rename_i cs hb
    split at e1
    · rename_i k1 k2
      injection e1 with e1; subst e1
      unfold storeA at e2
      split at e2
      · rename_i cs' hb'
        rw [H.get_put, if_neg (Ne.symm hne)] at hb'
        split at e2
        · rename_i k3 k4
          injection e2 with e2; subst e2
          refine ⟨h.put b' (some (.cells true (splice cs' o' vs'))), (h.put b' (some (.cells true (splice cs' o' vs')))).put b (some (.cells true (splice cs o vs))), ?_, ?_, ?_, rfl, rfl, rfl⟩
          · unfold storeA; simp [hb', k3, k4]
          · unfold storeA; rw [H.get_put, if_neg hne]; simp [hb, k1, k2]
          · intro d
            simp only [H.get_put]
            by_cases q1 : d = b
            · subst q1; simp [hne]
            · by_cases q2 : d = b'
              · subst q2; simp [q1]
              · simp [q1, q2]
        · cases e2
      · cases e2
    · cases e1
  · cases e1
structure Rdy (n : Nat) (C : Nat → DI) (listed : Array Bool) (i : Nat) : Prop where
  lt : i < n
  un : Dn C listed i = false
  bef : ∀ j, (C i).bef.testBit j = true → listed.getD j false = true
section
variable {P : Program} {N : Nat} {ops : Array Oper} {l : List DI} {two : Option (Nat × Nat)} {cl : Nat → List AV → H → Cr} {C : Nat → DI} {S : Nat → TS} {G : Nat → H} {V : Nat → AV}
variable {σ0 : Ren} {w0 : World} {a0 : Act} {listed : Array Bool} {a : Act} {w : World} {σ : Ren} {p : Nat} {g : H} {i : Nat}
theorem Ctx.idx (c : Ctx P N ops l two cl C S G V) {k : Nat} (hk : k < l.length) : (C k).i < ops.size := (Array.getElem?_eq_some_iff.1 (c.df.op _ (c.mem hk)).1).1
theorem Ctx.closed (c : Ctx P N ops l two cl C S G V) (hcl : Closed (befs ops.toList []) listed) {k : Nat} (hk : k < l.length) (hd : Dn C listed k = true) {j : Nat} (hj : (C k).bef.testBit j = true) : listed.getD j false = true :=
  hcl (C k).i (C k).bef (c.df.op _ (c.mem hk)).2.2 hd j hj
theorem Ctx.set (c : Ctx P N ops l two cl C S G V) (hs : listed.size = ops.size) (hi : i < l.length) : Dn C (listed.setIfInBounds (C i).i true) i = true ∧ ∀ k, k < l.length → k ≠ i → Dn C (listed.setIfInBounds (C i).i true) k = Dn C listed k := by
  refine ⟨?_, fun k hk hne => ?_⟩
  · have := c.idx hi
    simp [Dn, Array.getElem_setIfInBounds, hs, this]
  · unfold Dn
    refine getD_set_ne false fun e => ?_
    rcases Nat.lt_or_ge k i with q | q
    · exact (c.pair q hi).2.1 e.symm
    · exact (c.pair (j := i) (k := k) (by omega) hk).2.1 e
theorem Ctx.bits (c : Ctx P N ops l two cl C S G V) (rd : Rdy l.length C listed i) (hcl : Closed (befs ops.toList []) listed) {k : Nat} (hk : k < l.length) :
    ((C i).bef.testBit (C k).i = true → Dn C listed k = true) ∧ ((C k).bef.testBit (C i).i = true → Dn C listed k = false) := by
  refine ⟨fun h => rd.bef _ h, fun h => ?_⟩
  cases e : Dn C listed k with
  | false => rfl
  | true =>
    have h1 : Dn C listed i = true := c.closed hcl hk e h
    rw [rd.un] at h1; cases h1
theorem Ctx.same (c : Ctx P N ops l two cl C S G V) (rd : Rdy l.length C listed i) (hcl : Closed (befs ops.toList []) listed) : SameOn (looksC (C i).c) (foldT (S 0) C V (Dn C listed) l.length) (S i) := by
  intro t ht
  have h1 := foldT_run c.run (k := i) (Nat.le_of_lt rd.lt)
  have h2 := foldT_upto (S0 := S 0) (C := C) (V := V) i l.length
  have h3 : Min.min l.length i = i := by have := rd.lt; omega
  rw [h3, h1] at h2
  rw [← h2]
  refine foldT_agree fun k hk hd => ?_
  rcases Nat.lt_trichotomy k i with q | q | q
  · rcases (c.pair q rd.lt).2.2 with h | ⟨h, _⟩
    · rw [(c.bits rd hcl hk).1 h]; simp [q]
    · exact absurd ht ((apartC_spec h).1 t hd)
  · subst q; rw [rd.un]; simp
  · rcases (c.pair q hk).2.2 with h | ⟨h, _⟩
    · rw [(c.bits rd hcl hk).2 h]; simp; omega
    · exact absurd ht ((apartC_spec h).2.2 t hd)
theorem Ctx.gen (c : Ctx P N ops l two cl C S G V) (inv : Inv N ops l.length C S G V σ0 w0 a0 listed a w σ p g) (rd : Rdy l.length C listed i) {h h' : H} {σ' : Ren} {w' : World} {v' : Value} {p' : Nat} {g' : H}
    (hv : VR σ' (V i) v') (r' : HR σ' h' w') (e : Ext σ σ' h h' w w') (hsub : ∀ b x, h.get b = some x → Alive G l.length g p (Dn C listed) b x)
    (hrange : ∀ b, h.next ≤ b → b < h'.next → (G i).next ≤ b ∧ b < (G (i + 1)).next) (hlo : (G 0).next ≤ h.next) (hhi : h'.next ≤ (G l.length).next)
    (hp' : p' ≤ l.length) (g1' : g'.next = (G p').next) (gnx' : NX g')
    (hl : Turn σ σ' (Alive G l.length g p (Dn C listed)) (Alive G l.length g' p' (Dn C (listed.setIfInBounds (C i).i true))) h h') :
    Inv N ops l.length C S G V σ0 w0 a0 (listed.setIfInBounds (C i).i true) (a.put (C i).o.dst v') w' σ' p' g' := by
  obtain ⟨s1, s2⟩ := c.set inv.lsz rd.lt
  have hop := c.df.op _ (c.mem rd.lt)
  have hdst := compOp_dst hop.2.1
  refine ⟨by simp [inv.lsz], ?_, hp', g1', gnx', inv.hr.frame hsub e r' hl, inv.xp.frame hsub e hlo hhi hl, fun k hk hd => ?_, ?_, ?_, ?_⟩
  · refine closed_set inv.cls fun m hm j hj => ?_
    rw [hop.2.2] at hm; injection hm with hm; subst hm
    exact rd.bef j hj
  · have hne : k ≠ i := by rintro rfl; rw [s1] at hd; cases hd
    rw [s2 k hk hne] at hd
    intro b hb1 hb2
    rw [e.out b fun hh => ?_]
    · exact inv.un k hk hd b hb1 hb2
    · obtain ⟨q1, q2⟩ := hrange b hh.1 hh.2
      have := rd.lt
      rcases Nat.lt_or_ge k i with q | q
      · have := (c.grow (j := k + 1) (k := i) q (by omega)).next; omega
      · have := (c.grow (j := i + 1) (k := k) (by omega) (by omega)).next; omega
  · intro t v hget
    rw [foldT_set s1 rd.un rd.lt s2 (fun k h1 h2 h3 h4 => ?_)] at hget
    · rw [hdst.1] at hget
      exact (inv.tr.mono e.le).put (dst := (C i).o.dst) hv (by rw [inv.tsz]; exact hdst.2.1) t v hget
    · rcases (c.pair h1 h2).2.2 with q | ⟨q, _⟩
      · exact (c.bits rd inv.cls h2).2 q
      · exact absurd (h3.trans h4) ((apartC_spec q).2.1 _ h4)
  · rw [Act.size_put]; exact inv.tsz
  · rw [← inv.ads]; cases (C i).o.dst <;> rfl
end
end Go.Ab
namespace Go.Ab
theorem HR.empty {σ : Ren} {A : Nat → Bk → Prop} {w : World} (r : HRP σ A w) (n : Nat) : HR σ ⟨n, .leaf⟩ w :=
  ⟨r.bnd, fun b x L h _ => (by simp [H.get, Tr.get] at h), fun b b' L L' _ _ h _ _ => (by simp [H.get, Tr.get] at h), fun b h => (by simp [H.get, Tr.get] at h)⟩
theorem new_inj {h : H} {x y : Bk} (e : h.new x = h.new y) : x = y := by
  have := congrArg (fun g => H.get g h.next) e
  simpa [H.get_new] using this
section
variable {P : Program} {N : Nat} {ops : Array Oper} {l : List DI} {two : Option (Nat × Nat)} {cl : Nat → List AV → H → Cr} {C : Nat → DI} {S : Nat → TS} {G : Nat → H} {V : Nat → AV}
variable {σ0 : Ren} {w0 : World} {a0 : Act} {listed : Array Bool} {a : Act} {w : World} {σ : Ren} {p : Nat} {g : H} {i : Nat} {Q : Exit → Act → World → Prop}
def Good (P : Program) (N : Nat) (ops : Array Oper) (l : List DI) (two : Option (Nat × Nat)) (cl : Nat → List AV → H → Cr) (C : Nat → DI) (S : Nat → TS) (G : Nat → H) (V : Nat → AV) (σ0 : Ren) (w0 : World) (a0 : Act) (listed : Array Bool) (a : Act) (w : World) : Prop :=
  ∃ σ p g, Inv N ops l.length C S G V σ0 w0 a0 listed a w σ p g ∧ (CaseA l.length C G (Dn C listed) p g ∨ CaseB l.length two cl C S G V (Dn C listed) p g)
theorem Ctx.subHR (c : Ctx P N ops l two cl C S G V) (inv : Inv N ops l.length C S G V σ0 w0 a0 listed a w σ p g) {h : H} (hs : ∀ b x, h.get b = some x → g.get b = some x) (hn : h.next = g.next) : HR σ h w :=
  inv.hr.to (fun b x hb => .inl (hs b x hb)) (fun b x hb => by rw [hn]; exact inv.gnx b x (hs b x hb))
theorem Ctx.nextNe (c : Ctx P N ops l two cl C S G V) {m k : Nat} {y : Bk} (hm : m < k) (hk : k ≤ l.length) (he : G (m + 1) = (G m).new y) : (G m).next < (G k).next := by
  have h1 := (c.grow (j := m + 1) (k := k) hm hk).next
  rw [he, H.next_new] at h1; omega
theorem Ctx.still (c : Ctx P N ops l two cl C S G V) (inv : Inv N ops l.length C S G V σ0 w0 a0 listed a w σ p g) (rd : Rdy l.length C listed i) (he : G (i + 1) = G i) {h : H} (hs : ∀ b x, h.get b = some x → g.get b = some x) (hn : h.next = g.next)
    {v : AV} (hres : resD cl (C i).c (S i) h = some (v, h)) (hv : v = V i) :
    wpOp P ops Q (C i).i (fun a' w' => ∃ σ', Inv N ops l.length C S G V σ0 w0 a0 (listed.setIfInBounds (C i).i true) a' w' σ' p g) a w := by
  have hop := c.df.op _ (c.mem rd.lt)
  obtain ⟨s1, s2⟩ := c.set inv.lsz rd.lt
  refine do_op c.ok inv.tr (c.same rd inv.cls) (c.subHR inv hs hn) hop.1 hop.2.1 hres (fun b h1 h2 => by omega) fun σ' v' w' k1 k2 k3 => ?_
  subst hv
  refine ⟨σ', c.gen inv rd k1 k2 k3 (fun b x hb => .inl (hs b x hb)) (fun b h1 h2 => by omega) ?_ ?_ inv.hp inv.g1 inv.gnx ?_⟩
  · rw [hn, inv.g1]; exact (c.grow (Nat.zero_le p) inv.hp).next
  · rw [hn, inv.g1]; exact (c.grow inv.hp (Nat.le_refl _)).next
  · intro b x L hA hL
    have hout : σ' b = σ b := k3.out b (fun hh => by omega)
    rw [hout] at hL
    rcases hA with hg | ⟨m, m1, m2, m3, m4, m5⟩
    · cases hb : h.get b with
      | none => exact .inr ⟨.inl hg, rfl, hL⟩
      | some y => have := hs b y hb; rw [hg] at this; injection this with this; subst this; exact .inl rfl
    · have hne : m ≠ i := by
        rintro rfl
        rw [he] at m5
        have := congrArg H.next m5; rw [H.next_new] at this; omega
      rw [s2 m m2 hne] at m3
      refine .inr ⟨.inr ⟨m, m1, m2, m3, m4, m5⟩, ?_, hL⟩
      cases hb : h.get b with
      | none => rfl
      | some y =>
        have h1 := inv.gnx b y (hs b y hb)
        have h2 := (c.grow m1 (Nat.le_of_lt m2)).next
        rw [inv.g1] at h1; omega
theorem Ctx.stay (c : Ctx P N ops l two cl C S G V) (rd : Rdy l.length C listed i) (hs : listed.size = ops.size) (hna : isActs (C i).c = false)
    (hc : CaseA l.length C G (Dn C listed) p g ∨ CaseB l.length two cl C S G V (Dn C listed) p g) (hp : p ≤ l.length) :
    CaseA l.length C G (Dn C (listed.setIfInBounds (C i).i true)) p g ∨ CaseB l.length two cl C S G V (Dn C (listed.setIfInBounds (C i).i true)) p g := by
  obtain ⟨s1, s2⟩ := c.set hs rd.lt
  rcases hc with ⟨h1, h2, h3, h4⟩ | ⟨j, k, h1, h2, h3, h4, h5, h6, h7⟩
  · refine .inl ⟨h1, h2, fun k hk ha => ?_, fun k hk hl ha => ?_⟩
    · have hne : k ≠ i := by rintro rfl; rw [hna] at ha; cases ha
      rw [s2 k (by omega) hne]; exact h3 k hk ha
    · have hne : k ≠ i := by rintro rfl; rw [hna] at ha; cases ha
      rw [s2 k hl hne]; exact h4 k hk hl ha
  · refine .inr ⟨j, k, h1, h2, h3, h4, ?_, fun m hm hp hne => ?_, h7⟩
    · have hne : j ≠ i := by rintro rfl; rw [hna] at h3; cases h3
      rw [s2 j h2 hne]; exact h5
    · by_cases e : m = i
      · subst e; exact s1
      · rw [s2 m hm e]; exact h6 m hm hp hne
theorem Ctx.prevAct (c : Ctx P N ops l two cl C S G V) : ∀ (d i : Nat), isActs (C i).c = false → (∀ m, i ≤ m → m < i + 1 + d → isActs (C m).c = false) ∨ ∃ q, i < q ∧ q < i + 1 + d ∧ isActs (C q).c = true ∧ ∀ m, q < m → m < i + 1 + d → isActs (C m).c = false
  | 0, i, h => .inl fun m h1 h2 => (by have : m = i := by omega
                                       rw [this]; exact h)
  | d + 1, i, h => by
    cases e : isActs (C (i + 1 + d)).c with
    | true => exact .inr ⟨i + 1 + d, by omega, by omega, e, fun m h1 h2 => by omega⟩
    | false =>
      rcases Ctx.prevAct c d i h with h1 | ⟨q, h1, h2, h3, h4⟩
      · refine .inl fun m h5 h6 => ?_
        by_cases e' : m = i + 1 + d
        · rw [e']; exact e
        · exact h1 m h5 (by omega)
      · refine .inr ⟨q, h1, by omega, h3, fun m h5 h6 => ?_⟩
        by_cases e' : m = i + 1 + d
        · rw [e']; exact e
        · exact h4 m h5 (by omega)
theorem Ctx.readAt (c : Ctx P N ops l two cl C S G V) (inv : Inv N ops l.length C S G V σ0 w0 a0 listed a w σ p g) (rd : Rdy l.length C listed i) (hna : isActs (C i).c = false) (hr : isReads (C i).c = true) (hw : wantedA (S i) (C i).c = true)
    (hA : CaseA l.length C G (Dn C listed) p g) : ∃ q v' h', q ≤ p ∧ (∀ m, q ≤ m → m < p → isActs (C m).c = false) ∧ opA (S i) (G q) (C i).c.op = .val v' h' ∧ v' = V i := by
  obtain ⟨h1, h2, h3, h4⟩ := hA
  have hpi : p ≠ i := by
    rintro rfl
    have := h2 rd.lt; rw [hna] at this; cases this
  have hown : opA (S i) (G i) (C i).c.op = .val (V i) (G i) := by
    have hres := c.run.res i rd.lt
    have hc : (C i).c.op.cl = .reads := by
      unfold isReads at hr; split at hr
      · assumption
      · cases hr
    rcases reads_cls hc (S i) (G i) with ⟨v, hv⟩ | hv
    · have := hv (G i).next
      change opA (S i) (G i) (C i).c.op = .val v (G i) at this
      have h5 := resD_val (cl := cl) (resD_cases hres).1 hw this
      rw [h5] at hres; injection hres with e; injection e with e1 e2
      rw [this, e1]
    · exact absurd hres (resD_no hw hv)
  rcases Nat.lt_or_ge p i with hlt | hge
  · have hpl : p < l.length := Nat.lt_trans hlt rd.lt
    have hp := h2 hpl
    have hd := h4 p (Nat.le_refl _) hpl hp
    have hb : (C i).bef.testBit (C p).i = false := by
      cases e : (C i).bef.testBit (C p).i with
      | false => rfl
      | true => have := (c.bits rd inv.cls hpl).1 e; rw [hd] at this; cases this
    have hwin := (winOf_spec (x := C i) (k := i) (s := 0) (c.run.get p hpl) hp).1 (by omega) hb
    rw [Nat.zero_add] at hwin
    obtain ⟨v', h', k1, k2⟩ := c.held i rd.lt hr hw p hwin (by omega)
    exact ⟨p, v', h', Nat.le_refl _, fun m a b => by omega, k1, (sameA_eq k2).symm⟩
  · have hip : i < p := by omega
    obtain ⟨d, hd⟩ : ∃ d, p = i + 1 + d := ⟨p - (i + 1), by omega⟩
    rcases c.prevAct d i hna with hn | ⟨q, q1, q2, q3, q4⟩
    · exact ⟨i, V i, G i, by omega, fun m a b => hn m a (by omega), hown, rfl⟩
    · have hql : q < l.length := by have := inv.hp; omega
      have hD := h3 q (by omega) q3
      have hb : (C q).bef.testBit (C i).i = false := by
        cases e : (C q).bef.testBit (C i).i with
        | false => rfl
        | true => have := (c.bits rd inv.cls hql).2 e; rw [hD] at this; cases this
      have hwin := (winOf_spec (x := C i) (k := i) (s := 0) (c.run.get q hql) q3).2 (by omega) hb
      rw [Nat.zero_add] at hwin
      obtain ⟨v', h', k1, k2⟩ := c.held i rd.lt hr hw (q + 1) hwin (by omega)
      exact ⟨q + 1, v', h', by omega, fun m a b => q4 m (by omega) (by omega), k1, (sameA_eq k2).symm⟩
theorem Ctx.subG (c : Ctx P N ops l two cl C S G V) (inv : Inv N ops l.length C S G V σ0 w0 a0 listed a w σ p g) (hg : g = G p) {q : Nat} (hq : q ≤ p) (hna : ∀ m, q ≤ m → m < p → isActs (C m).c = false) : ∀ b x, (G q).get b = some x → g.get b = some x := by
  intro b x hb
  rw [hg]
  exact (c.chain hq inv.hp hna b x).2 (.inl hb)
theorem Ctx.make (c : Ctx P N ops l two cl C S G V) (inv : Inv N ops l.length C S G V σ0 w0 a0 listed a w σ p g) (rd : Rdy l.length C listed i) (hna : isActs (C i).c = false) {x : Bk} (he : G (i + 1) = (G i).new x) (hm : isMakes (C i).c = true) (hw : wantedA (S i) (C i).c = true)
    (hA : CaseA l.length C G (Dn C listed) p g) :
    wpOp P ops Q (C i).i (fun a' w' => ∃ σ', Inv N ops l.length C S G V σ0 w0 a0 (listed.setIfInBounds (C i).i true) a' w' σ' p g) a w := by
  have hop := c.df.op _ (c.mem rd.lt)
  obtain ⟨s1, s2⟩ := c.set inv.lsz rd.lt
  have hc : (C i).c.op.cl = .makes := by
    unfold isMakes at hm; split at hm
    · assumption
    · cases hm
  have hres := c.run.res i rd.lt
  have hval : opA (S i) ⟨(G i).next, .leaf⟩ (C i).c.op = .val (V i) (H.new ⟨(G i).next, .leaf⟩ x) := by
    rcases makes_cls hc (S i) (G i) with ⟨v, y, hv⟩ | hv
    · have h1 := hv (G i).m
      change opA (S i) (G i) (C i).c.op = .val v ((G i).new y) at h1
      have h5 := resD_val (cl := cl) (resD_cases hres).1 hw h1
      rw [h5] at hres; injection hres with e; injection e with e1 e2
      rw [he] at e2
      rw [hv .leaf, e1, new_inj e2]
    · exact absurd hres (resD_no hw hv)
  have hun := inv.un i rd.lt rd.un
  refine do_op c.ok inv.tr (c.same rd inv.cls) (HR.empty inv.hr (G i).next) hop.1 hop.2.1 (resD_val (resD_cases hres).1 hw hval) (fun b h1 h2 => hun b h1 (by rw [he]; exact h2)) fun σ' v' w' k1 k2 k3 => ?_
  refine ⟨σ', c.gen inv rd k1 k2 k3 (fun b y hb => by simp [H.get, Tr.get] at hb) (fun b h1 h2 => ⟨h1, by rw [he]; exact h2⟩) (c.grow (Nat.zero_le i) (Nat.le_of_lt rd.lt)).next ?_ inv.hp inv.g1 inv.gnx ?_⟩
  · have := (c.grow (j := i + 1) (k := l.length) rd.lt (Nat.le_refl _)).next
    rw [he] at this; exact this
  · intro b y L hAl hL
    by_cases hb : b = (G i).next
    · refine .inl ?_
      have hy : y = x := by
        rcases hAl with hg | ⟨m, m1, m2, m3, m4, m5⟩
        · have h1 := inv.gnx b y hg
          rw [inv.g1] at h1
          rcases Nat.lt_or_ge i p with hip | hip
          · obtain ⟨e1, e2, e3, e4⟩ := hA
            have hno : ∀ m, i ≤ m → m < p → isActs (C m).c = false := by
              intro m h5 h6
              by_cases q : m = i
              · rw [q]; exact hna
              · cases e : isActs (C m).c with
                | false => rfl
                | true =>
                  have hml : m < l.length := by have := inv.hp; omega
                  have hD := e3 m h6 e
                  rcases (c.pair (j := i) (k := m) (by omega) hml).2.2 with q | ⟨_, _, q⟩
                  · have := (c.bits rd inv.cls hml).2 q; rw [hD] at this; cases this
                  · rw [hm, e] at q; cases q
            rw [e1] at hg
            rcases (c.chain (Nat.le_of_lt hip) inv.hp hno b y).1 hg with q | ⟨m, q1, q2, q3, q4⟩
            · have := c.nx (Nat.le_of_lt rd.lt) b y q; omega
            · by_cases q5 : m = i
              · subst q5; rw [he] at q4; exact (new_inj q4).symm
              · have := c.nextNe (m := i) (k := m) (by omega) (by have := inv.hp; omega) he
                omega
          · have := (c.grow hip (Nat.le_of_lt rd.lt)).next; omega
        · by_cases q5 : m = i
          · subst q5; rw [he] at m5; exact (new_inj m5).symm
          · rcases Nat.lt_or_ge m i with q | q
            · have := c.nextNe q (Nat.le_of_lt rd.lt) m5; omega
            · have := c.nextNe (m := i) (k := m) (by omega) (Nat.le_of_lt m2) he; omega
      rw [hy, H.get_new]; simp [hb]
    · refine .inr ⟨?_, by simp [H.get, Tr.get], ?_⟩
      · rcases hAl with hg | ⟨m, m1, m2, m3, m4, m5⟩
        · exact .inl hg
        · have hne : m ≠ i := by rintro rfl; exact hb m4
          rw [s2 m m2 hne] at m3
          exact .inr ⟨m, m1, m2, m3, m4, m5⟩
      · have := k3.out b (fun hh => by
          have h1 := hh.1; have h2 := hh.2
          simp only [H.new] at h1 h2; omega)
        rw [this] at hL; exact hL
end
end Go.Ab
namespace Go.Ab
theorem isStore_inv {x : CR} (h : isStore x = true) : x.guard = none ∧ ∃ s a z, x.op = .store s a z := by
  unfold isStore at h
  rw [Bool.and_eq_true] at h
  refine ⟨by simpa using h.2, ?_⟩
  have h1 := h.1
  split at h1
  · rename_i s a z e; exact ⟨s, a, z, e⟩
  · cases h1
section
variable {P : Program} {N : Nat} {ops : Array Oper} {l : List DI} {two : Option (Nat × Nat)} {cl : Nat → List AV → H → Cr} {C : Nat → DI} {S : Nat → TS} {G : Nat → H} {V : Nat → AV}
variable {σ0 : Ren} {w0 : World} {a0 : Act} {listed : Array Bool} {a : Act} {w : World} {σ : Ren} {p : Nat} {g : H} {i : Nat} {Q : Exit → Act → World → Prop}
theorem Ctx.act (c : Ctx P N ops l two cl C S G V) (inv : Inv N ops l.length C S G V σ0 w0 a0 listed a w σ p g) (rd : Rdy l.length C listed p) (hact : isActs (C p).c = true)
    (hA : CaseA l.length C G (Dn C listed) p g) :
    wpOp P ops Q (C p).i (Good P N ops l two cl C S G V σ0 w0 a0 (listed.setIfInBounds (C p).i true)) a w := by
  obtain ⟨e1, e2, e3, e4⟩ := hA
  subst e1
  have hop := c.df.op _ (c.mem rd.lt)
  obtain ⟨s1, s2⟩ := c.set inv.lsz rd.lt
  have hun := inv.un p rd.lt rd.un
  obtain ⟨p', p1, p2, p3, p4⟩ := c.nextAct (l.length - (p + 1)) (p + 1) (by have := rd.lt; omega)
  have g1 := c.grow1 rd.lt
  refine do_op c.ok inv.tr (c.same rd inv.cls) (c.subHR inv (h := G p) (fun b x h => h) rfl) hop.1 hop.2.1 (c.run.res p rd.lt) hun fun σ' v' w' k1 k2 k3 => ?_
  refine ⟨σ', p', G p', c.gen inv rd k1 k2 k3 (fun b x hb => .inl hb) (fun b h1 h2 => ⟨h1, h2⟩) (c.grow (Nat.zero_le p) (Nat.le_of_lt rd.lt)).next (c.grow (j := p + 1) rd.lt (Nat.le_refl _)).next p2 rfl (c.nx p2) ?_, .inl ⟨rfl, p3, fun k hk ha => ?_, fun k hk hl ha => ?_⟩⟩
  · intro b x L hAl hL
    have pend : ∀ m, p + 1 ≤ m → m < l.length → b = (G m).next → G (m + 1) = (G m).new x → (Alive G l.length (G p) p (Dn C listed) b x ∧ (G p).get b = none ∧ σ b = some L) := by
      intro m m1 m2 m4 m5
      have h1 := (c.grow m1 (Nat.le_of_lt m2)).next
      have hout : σ' b = σ b := k3.out b (fun hh => by omega)
      rw [hout] at hL
      have hD : Dn C listed m = true := by
        cases e : Dn C listed m with
        | true => rfl
        | false =>
          have := inv.un m m2 e b (by omega) (by rw [m5, H.next_new]; omega)
          rw [this] at hL; cases hL
      refine ⟨.inr ⟨m, by omega, m2, hD, m4, m5⟩, ?_, hL⟩
      cases hb : (G p).get b with
      | none => rfl
      | some y =>
        have h2 := c.nx (Nat.le_of_lt rd.lt) b y hb
        have h3 := g1.next
        omega
    rcases hAl with hg | ⟨m, m1, m2, m3, m4, m5⟩
    · rcases (c.chain p1 p2 p4 b x).1 hg with q | ⟨m, m1, m2, m4, m5⟩
      · exact .inl q
      · exact .inr (pend m m1 (by omega) m4 m5)
    · exact .inr (pend m (by omega) m2 m4 m5)
  · by_cases e : k = p
    · subst e; exact s1
    · rw [s2 k (by omega) e]
      rcases Nat.lt_or_ge k p with q | q
      · exact e3 k q ha
      · have := p4 k (by omega) hk; rw [this] at ha; cases ha
  · rw [s2 k hl (by omega)]
    exact e4 k (by omega) hl ha
theorem Ctx.swap (c : Ctx P N ops l two cl C S G V) (inv : Inv N ops l.length C S G V σ0 w0 a0 listed a w σ p g) (rd : Rdy l.length C listed i) (hact : isActs (C i).c = true) (hpi : p < i) (hp : p < l.length) (hD : Dn C listed p = false)
    (hg : g = G p) (htwo : two = some (p, i)) (hpact : isActs (C p).c = true) :
    wpOp P ops Q (C i).i (Good P N ops l two cl C S G V σ0 w0 a0 (listed.setIfInBounds (C i).i true)) a w := by
  subst hg
  have hop := c.df.op _ (c.mem rd.lt)
  obtain ⟨s1, s2⟩ := c.set inv.lsz rd.lt
  have hchk := c.df.two
  rw [htwo] at hchk
  simp only [twoChk, c.run.get p hp, c.run.get i rd.lt, Bool.and_eq_true] at hchk
  obtain ⟨⟨⟨_, h1⟩, h2⟩, h3⟩ := hchk
  have hrest : ∀ m, m < l.length → isPure (C m).c = true ∨ m = p ∨ m = i ∨ ((C p).bef.testBit (C m).i = true ∧ (C i).bef.testBit (C m).i = true) := by
    intro m hm
    have := all1_spec h3 m (C m) (c.run.get m hm)
    simp only [restOk, Bool.or_eq_true, Bool.and_eq_true, Nat.zero_add] at this
    rcases this with ((q | q) | q) | q
    · exact .inl q
    · exact .inr (.inl (Nat.eq_of_beq_eq_true q))
    · exact .inr (.inr (.inl (Nat.eq_of_beq_eq_true q)))
    · exact .inr (.inr (.inr q))
  have hpure : ∀ m, p < m → m < l.length → m ≠ i → G (m + 1) = G m := by
    intro m hm hl hne
    have hp1 : isPure (C m).c = true := by
      rcases hrest m hl with q | q | q | ⟨q, _⟩
      · exact q
      · omega
      · exact absurd q hne
      · rw [(c.pair hm hl).1] at q; cases q
    have hcl : (C m).c.op.cl = .pure := by
      unfold isPure at hp1; split at hp1
      · assumption
      · cases hp1
    rcases c.heap hl (by simp [isActs, hcl]) with q | ⟨x, _, q, _⟩
    · exact q
    · simp [isMakes, hcl] at q
  have hflat : ∀ d j, p < j → j + d ≤ i → G (j + d) = G j := by
    intro d
    induction d with
    | zero => intro j _ _; rfl
    | succ d ih => intro j a b; rw [← ih j a (by omega)]; exact hpure (j + d) (by omega) (by have := rd.lt; omega) (by omega)
  have hflat2 : ∀ d, i + 1 + d ≤ l.length → G (i + 1 + d) = G (i + 1) := by
    intro d
    induction d with
    | zero => intro _; rfl
    | succ d ih => intro b; rw [← ih (by omega)]; exact hpure (i + 1 + d) (by omega) (by omega) (by omega)
  have hGi : G i = G (p + 1) := by
    have := hflat (i - (p + 1)) (p + 1) (by omega) (by omega)
    rwa [show p + 1 + (i - (p + 1)) = i by omega] at this
  have hGn : G l.length = G (i + 1) := by
    have := hflat2 (l.length - (i + 1)) (by have := rd.lt; omega)
    rwa [show i + 1 + (l.length - (i + 1)) = l.length by have := rd.lt; omega] at this
  obtain ⟨b, b', o, o', s, s', x, x', z, z', t1, t2, t3, t4, t5⟩ := c.two p i htwo
  obtain ⟨gd1, _⟩ := isStore_inv h1
  obtain ⟨gd2, _⟩ := isStore_inv h2
  have hw1 : wantedA (S p) (C p).c = true := by simp [wantedA, gd1]
  have hw2 : wantedA (S i) (C i).c = true := by simp [wantedA, gd2]
  have hk1 : guardOk (S p) (C p).c = true := by simp [guardOk, gd1]
  have hk2 : guardOk (S i) (C i).c = true := by simp [guardOk, gd2]

  have r1 := c.run.res p hp
  have r2 := c.run.res i rd.lt
  have st1 : Nat.beq (evA (S p) z).cells.length s = true ∧ storeA (G p) b o (evA (S p) z).cells = some (G (p + 1)) ∧ V p = undefA := by
    cases e1 : Nat.beq (evA (S p) z).cells.length s with
    | false => exact absurd r1 (resD_no hw1 (by simp [t1, opA, oStore, t2, e1]))
    | true =>
      cases e2 : storeA (G p) b o (evA (S p) z).cells with
      | none => exact absurd r1 (resD_no hw1 (by simp [t1, opA, oStore, t2, e1, e2]))
      | some h' =>
        have := resD_skip (cl := cl) (h := G p) (h' := h') hk1 hw1 (by simp [t1, opA, oStore, t2, e1, e2])
        rw [this] at r1; injection r1 with r1; injection r1 with q1 q2
        exact ⟨rfl, by rw [q2], q1.symm⟩
  have st2 : Nat.beq (evA (S i) z').cells.length s' = true ∧ storeA (G i) b' o' (evA (S i) z').cells = some (G (i + 1)) ∧ V i = undefA := by
    cases e1 : Nat.beq (evA (S i) z').cells.length s' with
    | false => exact absurd r2 (resD_no hw2 (by simp [t3, opA, oStore, t4, e1]))
    | true =>
      cases e2 : storeA (G i) b' o' (evA (S i) z').cells with
      | none => exact absurd r2 (resD_no hw2 (by simp [t3, opA, oStore, t4, e1, e2]))
      | some h' =>
        have := resD_skip (cl := cl) (h := G i) (h' := h') hk2 hw2 (by simp [t3, opA, oStore, t4, e1, e2])
        rw [this] at r2; injection r2 with r2; injection r2 with q1 q2
        exact ⟨rfl, by rw [q2], q1.symm⟩
  obtain ⟨u1, u2, u3⟩ := st1
  obtain ⟨v1, v2, v3⟩ := st2
  rw [hGi] at v2
  obtain ⟨g2, g3, k1, k2, k3, k4, k5, k6⟩ := storeA_swap t5 u2 v2
  have hres : resD cl (C i).c (S i) (G p) = some (V i, g2) := by
    rw [v3]; exact resD_skip hk2 hw2 (by simp [t3, opA, oStore, t4, v1, k1])
  have hres2 : resD cl (C p).c (S p) g2 = some (V p, g3) := by
    rw [u3]; exact resD_skip hk1 hw1 (by simp [t1, opA, oStore, t2, u1, k2])
  have hn : g2.next = (G l.length).next := by rw [k5, hGn, k6]
  refine do_op c.ok inv.tr (c.same rd inv.cls) (c.subHR inv (h := G p) (fun b x h => h) rfl) hop.1 hop.2.1 hres (fun b q1 q2 => by omega) fun σ' v' w' m1 m2 m3 => ?_
  refine ⟨σ', l.length, g2, c.gen inv rd m1 m2 m3 (fun b x hb => .inl hb) (fun b q1 q2 => by omega) (c.grow (Nat.zero_le p) (Nat.le_of_lt hp)).next (Nat.le_of_eq hn) (Nat.le_refl _) hn (storeA_grow k1 |>.nx (c.nx (Nat.le_of_lt hp))) ?_, .inr ⟨p, i, htwo, hp, hpact, rfl, ?_, fun m hm hnp hne => ?_, g3, hres2, fun b => by rw [hGn]; exact k3 b, by rw [hGn]; exact k4⟩⟩
  · rintro b x L (hg | ⟨m, q1, q2, _⟩) hL
    · exact .inl hg
    · omega
  · rw [s2 p hp (by omega)]; exact hD
  · by_cases e : m = i
    · subst e; exact s1
    · rw [s2 m hm e]
      rcases hrest m hm with q | q | q | ⟨_, q⟩
      · rw [q] at hnp; cases hnp
      · exact absurd q hne
      · exact absurd q e
      · exact (c.bits rd inv.cls hm).1 q
theorem Ctx.step (c : Ctx P N ops l two cl C S G V) (inv : Inv N ops l.length C S G V σ0 w0 a0 listed a w σ p g) (hc : CaseA l.length C G (Dn C listed) p g ∨ CaseB l.length two cl C S G V (Dn C listed) p g) (rd : Rdy l.length C listed i) :
    wpOp P ops Q (C i).i (Good P N ops l two cl C S G V σ0 w0 a0 (listed.setIfInBounds (C i).i true)) a w := by
  have hop := c.df.op _ (c.mem rd.lt)
  obtain ⟨s1, s2⟩ := c.set inv.lsz rd.lt
  have hres := c.run.res i rd.lt
  cases hact : isActs (C i).c with
  | true =>
    rcases hc with hA | ⟨j, k, h1, h2, h3, h4, h5, h6, g', h7, h8, h9⟩
    · by_cases e : i = p
      · subst e; exact c.act inv rd hact hA
      · obtain ⟨e1, e2, e3, e4⟩ := hA
        have hpi : p < i := by
          rcases Nat.lt_or_ge i p with q | q
          · have := e3 i q hact; rw [rd.un] at this; cases this
          · omega
        have hp : p < l.length := Nat.lt_trans hpi rd.lt
        have hD := e4 p (Nat.le_refl _) hp (e2 hp)
        rcases (c.pair hpi rd.lt).2.2 with q | ⟨_, q, _⟩
        · have := (c.bits rd inv.cls hp).1 q; rw [hD] at this; cases this
        · rcases q with q | q
          · rw [e2 hp, hact] at q; cases q
          · have htwo : two = some (p, i) := by
              unfold isTwo at q
              split at q
              · rw [Bool.and_eq_true] at q
                rw [Nat.eq_of_beq_eq_true q.1, Nat.eq_of_beq_eq_true q.2]
              · cases q
            exact c.swap inv rd hact hpi hp hD e1 htwo (e2 hp)
    · by_cases e : i = j
      · subst e
        refine do_op c.ok inv.tr (c.same rd inv.cls) (c.subHR inv (h := g) (fun b x h => h) rfl) hop.1 hop.2.1 h7 (fun b q1 q2 => ?_) fun σ' v' w' m1 m2 m3 => ?_
        · rw [inv.g1, h4] at q1; omega
        · have hgn : g.next = (G l.length).next := by rw [inv.g1, h4]
          refine ⟨σ', l.length, G l.length, c.gen inv rd m1 m2 m3 (fun b x hb => .inl hb) (fun b q1 q2 => by omega) ?_ (by omega) (Nat.le_refl _) rfl (c.nx (Nat.le_refl _)) ?_, .inl ⟨rfl, fun q => by omega, fun m hm ha => ?_, fun m q1 q2 => by omega⟩⟩
          · rw [hgn]; exact (c.grow (Nat.zero_le _) (Nat.le_refl _)).next
          · rintro b x L (hg | ⟨m, q1, q2, _⟩) hL
            · exact .inl (by rw [h8]; exact hg)
            · omega
          · by_cases q : m = i
            · subst q; exact s1
            · rw [s2 m hm q]
              refine h6 m hm ?_ q
              cases hp1 : isPure (C m).c with
              | false => rfl
              | true =>
                unfold isPure at hp1; unfold isActs at ha
                split at hp1
                · rename_i e; rw [e] at ha; cases ha
                · cases hp1
      · have : Dn C listed i = true := by
          refine h6 i rd.lt ?_ e
          cases hp1 : isPure (C i).c with
          | false => rfl
          | true =>
            unfold isPure at hp1; unfold isActs at hact
            split at hp1
            · rename_i e; rw [e] at hact; cases hact
            · cases hp1
        rw [rd.un] at this; cases this
  | false =>
    have fin : ∀ {a' w'}, (∃ σ', Inv N ops l.length C S G V σ0 w0 a0 (listed.setIfInBounds (C i).i true) a' w' σ' p g) → Good P N ops l two cl C S G V σ0 w0 a0 (listed.setIfInBounds (C i).i true) a' w' := by
      rintro a' w' ⟨σ', hi⟩
      exact ⟨σ', p, g, hi, c.stay rd inv.lsz hact hc inv.hp⟩
    have caseA : isPure (C i).c = false → CaseA l.length C G (Dn C listed) p g := by
      intro hnp
      rcases hc with hA | ⟨j, k, h1, h2, h3, h4, h5, h6, h7⟩
      · exact hA
      · have : Dn C listed i = true := h6 i rd.lt hnp (by rintro rfl; rw [hact] at h3; cases h3)
        rw [rd.un] at this; cases this
    obtain ⟨hgd, hw⟩ := resD_cases hres
    have hb := c.df.nobar _ (c.mem rd.lt)
    rcases hw with ⟨hw, hv, hh⟩ | hw
    · exact wpOp_mono (fun _ _ => fin) (c.still inv rd hh (h := g) (fun b x h => h) rfl (resD_un hgd hw) hv.symm)
    · cases hcl : (C i).c.op.cl with
      | pure =>
        rcases pure_cls hcl (S i) (G i) with ⟨v, hv⟩ | hv
        · have h1 := resD_val (cl := cl) hgd hw (hv (G i))
          rw [h1] at hres; injection hres with e; injection e with e1 e2
          exact wpOp_mono (fun _ _ => fin) (c.still inv rd e2.symm (h := g) (fun b x h => h) rfl (resD_val hgd hw (hv g)) e1)
        · exact absurd hres (resD_no hw hv)
      | reads =>
        have hr : isReads (C i).c = true := by simp [isReads, hcl]
        have hA := caseA (by simp [isPure, hcl])
        obtain ⟨q, v', h', q1, q2, q3, q4⟩ := c.readAt inv rd hact hr hw hA
        have hsub := c.subG inv hA.1 q1 q2
        have hst : G (i + 1) = G i := by
          rcases c.heap rd.lt hact with h | ⟨x, _, h, _⟩
          · exact h
          · simp [isMakes, hcl] at h
        rcases reads_cls hcl (S i) (G q) with ⟨v, hv⟩ | hv
        · have h1 := hv (G q).next
          change opA (S i) (G q) (C i).c.op = .val v (G q) at h1
          rw [q3] at h1; injection h1 with e1 e2
          subst e1
          exact wpOp_mono (fun _ _ => fin) (c.still inv rd hst (h := ⟨g.next, (G q).m⟩) (fun b x h => hsub b x h) rfl (resD_val hgd hw (hv g.next)) q4)
        · rw [hv] at q3; cases q3
      | makes =>
        have hA := caseA (by simp [isPure, hcl])
        rcases c.heap rd.lt hact with h | ⟨x, h1, h2, h3⟩
        · rcases makes_cls hcl (S i) (G i) with ⟨v, x, hv⟩ | hv
          · have h1 := hv (G i).m
            change opA (S i) (G i) (C i).c.op = .val v ((G i).new x) at h1
            have h2 := resD_val (cl := cl) hgd hw h1
            rw [h2, h] at hres; injection hres with e; injection e with e1 e2
            have := congrArg H.next e2; rw [H.next_new] at this; omega
          · exact absurd hres (resD_no hw hv)
        · exact wpOp_mono (fun _ _ => fin) (c.make inv rd hact h1 h2 h3 hA)
      | acts => simp [isActs, hcl] at hact
      | bars => exact absurd hcl hb
end
end Go.Ab
namespace Go.Ab
def cnt (listed : Array Bool) : Nat → Nat
  | 0 => 0
  | n + 1 => (match listed.getD n false with | true => 0 | false => 1) + cnt listed n
theorem cnt_same {a b : Array Bool} : ∀ {n : Nat}, (∀ k, k < n → a.getD k false = b.getD k false) → cnt a n = cnt b n
  | 0, _ => rfl
  | n + 1, h => by simp only [cnt, h n (Nat.lt_succ_self n), cnt_same (n := n) fun k hk => h k (by omega)]
theorem cnt_set {a : Array Bool} {i : Nat} (hi : i < a.size) (h : a.getD i false = false) : ∀ {n : Nat}, i < n → cnt (a.setIfInBounds i true) n + 1 = cnt a n
  | 0, h => by omega
  | n + 1, hn => by
    simp only [cnt]
    by_cases e : i = n
    · subst e
      have h1 : (a.setIfInBounds i true).getD i false = true := by simp [Array.getElem_setIfInBounds, hi]
      rw [h1, h, cnt_same (a := a.setIfInBounds i true) (b := a) fun k hk => getD_set_ne false (by omega)]
      simp only []; omega
    · rw [getD_set_ne false e, ← cnt_set hi h (n := n) (by omega)]
      omega
theorem cnt_zero {a : Array Bool} : ∀ {n : Nat}, cnt a n = 0 → ∀ k, k < n → a.getD k false = true
  | 0, _, k, hk => by omega
  | n + 1, h, k, hk => by
    simp only [cnt] at h
    cases e : a.getD n false with
    | true =>
      by_cases q : k = n
      · rw [q]; exact e
      · exact cnt_zero (n := n) (by omega) k (by omega)
    | false => rw [e] at h; simp only [] at h; omega
theorem first_of {p : Nat → Bool} : ∀ (n : Nat), (∃ k, k < n ∧ p k = true) → ∃ k, k < n ∧ p k = true ∧ ∀ j, j < k → p j = false
  | 0, ⟨k, h, _⟩ => by omega
  | n + 1, ⟨k, h, hp⟩ => by
    by_cases e : ∃ k, k < n ∧ p k = true
    · obtain ⟨k', h1, h2, h3⟩ := first_of n e
      exact ⟨k', by omega, h2, h3⟩
    · have hk : k = n := by
        rcases Nat.lt_or_ge k n with q | q
        · exact absurd ⟨k, q, hp⟩ e
        · omega
      subst hk
      refine ⟨k, h, hp, fun j hj => ?_⟩
      cases q : p j with
      | false => rfl
      | true => exact absurd ⟨j, hj, q⟩ e
section
variable {P : Program} {N : Nat} {ops : Array Oper} {l : List DI} {two : Option (Nat × Nat)} {cl : Nat → List AV → H → Cr} {C : Nat → DI} {S : Nat → TS} {G : Nat → H} {V : Nat → AV}
variable {σ0 : Ren} {w0 : World} {a0 : Act} {Q : Exit → Act → World → Prop}
theorem Ctx.allDone (c : Ctx P N ops l two cl C S G V) {listed : Array Bool} (hs : listed.size = ops.size) (hr : Region.ready .any ops listed = []) : ∀ j, j < ops.size → listed.getD j false = true := by
  intro j hj
  cases e : listed.getD j false with
  | true => rfl
  | false =>
    obtain ⟨k, h1, h2, h3⟩ := first_of (p := fun j => !listed.getD j false) ops.size ⟨j, hj, by simp [e]⟩
    have hmem : k ∈ Region.ready .any ops listed := by
      refine mem_ready.2 ⟨?_, ?_⟩
      · have : k < listed.size := by omega
        simp [this] at h2 ⊢
        exact h2
      · obtain ⟨x, hx, he⟩ := c.df.cov k h1
        have hop := c.df.op x hx
        rw [he] at hop
        refine ⟨x.o, hop.1, fun e' he' hb => ?_⟩
        have := h3 e'.on (by have := c.df.back x hx e' he' hb; omega)
        simpa using this
    rw [hr] at hmem; cases hmem
theorem Ctx.fin (c : Ctx P N ops l two cl C S G V) {listed : Array Bool} {a : Act} {w : World} (hg : Good P N ops l two cl C S G V σ0 w0 a0 listed a w) (hr : Region.ready .any ops listed = []) (hf : Fresh σ0 (G 0).next (G l.length).next) :
    ∃ σ, HR σ (G l.length) w ∧ Ext σ0 σ (G 0) (G l.length) w0 w ∧ TR σ (S l.length) a.tmps ∧ a.tmps.size = N ∧ a.defers = a0.defers := by
  obtain ⟨σ, p, g, inv, hc⟩ := hg
  have hall := c.allDone inv.lsz hr
  have hD : ∀ k, k < l.length → Dn C listed k = true := fun k hk => hall _ (c.idx hk)
  rcases hc with ⟨e1, e2, e3, e4⟩ | ⟨j, k, h1, h2, h3, h4, h5, _⟩
  · have hp : p = l.length := by
      rcases Nat.lt_or_ge p l.length with q | q
      · have := e4 p (Nat.le_refl _) q (e2 q); rw [hD p q] at this; cases this
      · have := inv.hp; omega
    subst hp
    subst e1
    have hlive : ∀ b x, Alive G l.length (G l.length) l.length (Dn C listed) b x ↔ (G l.length).get b = some x := fun b x =>
      ⟨fun h => h.elim id fun ⟨m, m1, m2, _⟩ => by omega, .inl⟩
    have hA : Alive G l.length (G l.length) l.length (Dn C listed) = fun b x => (G l.length).get b = some x := funext fun b => funext fun x => propext (hlive b x)
    have hhr := inv.hr
    have hxp := inv.xp
    rw [hA] at hhr hxp
    refine ⟨σ, hhr.to (fun b x h => h) (c.nx (Nat.le_refl _)), hxp.done (c.grow (Nat.zero_le _) (Nat.le_refl _)).next hf, ?_, inv.tsz, inv.ads⟩
    intro t v ht
    rw [← foldT_run c.run (k := l.length) (Nat.le_refl _), ← foldT_agree (D := Dn C listed) (fun k hk _ => hD k hk)] at ht
    exact inv.tr t v ht
  · rw [hD j h2] at h5; cases h5
theorem Ctx.any (c : Ctx P N ops l two cl C S G V) (hf : Fresh σ0 (G 0).next (G l.length).next)
    (hQ : ∀ σ a w, HR σ (G l.length) w → Ext σ0 σ (G 0) (G l.length) w0 w → TR σ (S l.length) a.tmps → a.tmps.size = N → a.defers = a0.defers → Q .normal a w) :
    ∀ (fuel : Nat) (listed : Array Bool) (a : Act) (w : World), cnt listed ops.size ≤ fuel → Good P N ops l two cl C S G V σ0 w0 a0 listed a w → wpAny P .any ops Q fuel listed a w := by
  intro fuel
  induction fuel with
  | zero =>
    intro listed a w hn hg
    have hr : Region.ready .any ops listed = [] := by
      cases e : Region.ready .any ops listed with
      | nil => rfl
      | cons i r =>
        have hi : i ∈ Region.ready .any ops listed := by rw [e]; simp
        obtain ⟨h1, o, h2, _⟩ := mem_ready.1 hi
        have hlt := (Array.getElem?_eq_some_iff.1 h2).1
        have := cnt_zero (Nat.le_zero.1 hn) i hlt
        obtain ⟨σ, p, g, inv, _⟩ := hg
        have hl : i < listed.size := by rw [inv.lsz]; exact hlt
        simp [hl] at h1 this
        rw [h1] at this; cases this
    obtain ⟨σ, h1, h2, h3, h4, h5⟩ := c.fin hg hr hf
    exact ⟨hr, hQ σ a w h1 h2 h3 h4 h5⟩
  | succ fuel ih =>
    intro listed a w hn hg
    refine ⟨fun hr => ?_, fun i hi => ?_⟩
    · obtain ⟨σ, h1, h2, h3, h4, h5⟩ := c.fin hg hr hf
      exact hQ σ a w h1 h2 h3 h4 h5
    · obtain ⟨h1, o, h2, h3⟩ := mem_ready.1 hi
      have hlt := (Array.getElem?_eq_some_iff.1 h2).1
      obtain ⟨σ, p, g, inv, hc⟩ := hg
      have hl : i < listed.size := by rw [inv.lsz]; exact hlt
      have hun : listed.getD i false = false := by simp [hl] at h1 ⊢; exact h1
      obtain ⟨x, hx, he⟩ := c.df.cov i hlt
      obtain ⟨k, hk⟩ := List.mem_iff_getElem?.1 hx
      have hkl : k < l.length := by
        rcases Nat.lt_or_ge k l.length with q | q
        · exact q
        · rw [List.getElem?_eq_none q] at hk; cases hk
      have hCk : C k = x := by
        have := c.run.get k hkl
        rw [hk] at this; injection this with this; exact this.symm
      have hop := c.df.op x hx
      rw [he] at hop
      have ho : o = x.o := by rw [h2] at hop; injection hop.1
      have rd : Rdy l.length C listed k := by
        refine ⟨hkl, by unfold Dn; rw [hCk, he]; exact hun, ?_⟩
        rw [hCk]
        exact bef_ready inv.cls hop.1 hop.2.2 (fun e he' hb => h3 e (ho ▸ he') hb)
      have := c.step (Q := Q) inv hc rd
      rw [hCk, he] at this
      refine wpOp_mono (fun a' w' hg' => ih _ a' w' ?_ hg') this
      have := cnt_set hl hun hlt
      omega
end
theorem traceD_run {cl : Nat → List AV → H → Cr} : ∀ (cs : List CR) (ts : TS) (h : H) (tr : List (TS × H)), traceD cl cs ts h = some tr →
    tr.length = cs.length + 1 ∧ tr[0]? = some (ts, h) ∧ ∀ (k : Nat) (o : CR), cs[k]? = some o → ∃ ts h v h', tr[k]? = some (ts, h) ∧ tr[k + 1]? = some (putT ts o.dst v, h') ∧ resD cl o ts h = some (v, h')
  | [], ts, h, tr, e => by simp [traceD] at e; subst e; exact ⟨rfl, rfl, fun k o hk => by simp at hk⟩
  | o :: r, ts, h, tr, e => by
    simp only [traceD] at e
    split at e
    · rename_i v h' he
      split at e
      · rename_i l hl
        injection e with e; subst e
        obtain ⟨h1, h2, h3⟩ := traceD_run r _ _ l hl
        refine ⟨by simp [h1], rfl, fun k p hk => ?_⟩
        cases k with
        | zero =>
          simp at hk; subst hk
          exact ⟨ts, h, v, h', rfl, by simpa using h2, he⟩
        | succ k =>
          obtain ⟨ts1, h1', v1, h2', q1, q2, q3⟩ := h3 k p (by simpa using hk)
          exact ⟨ts1, h1', v1, h2', by simpa using q1, by simpa using q2, q3⟩
      · cases e
    · cases e
theorem heldD_spec {all : List (TS × H)} : ∀ (cs : List CR) (tr : List (TS × H)), heldD all cs tr = true → ∀ (k : Nat) (o : CR) (ts : TS) (h : H), cs[k]? = some o → tr[k]? = some (ts, h) → held1 all o ts h = true
  | [], tr, _, k, o, ts, h, ho, _ => by simp at ho
  | x :: r, [], _, k, o, ts, h, _, ht => by simp at ht
  | x :: r, (ts0, h0) :: tr, e, k, o, ts, h, ho, ht => by
    simp only [heldD] at e
    split at e
    · rename_i e1
      cases k with
      | zero => simp at ho ht; obtain ⟨rfl, rfl⟩ := ht; subst ho; exact e1
      | succ k => exact heldD_spec r tr e k o ts h (by simpa using ho) (by simpa using ht)
    · cases e
theorem holdsAt_spec {o : CR} {ts : TS} {v : AV} {l : List (TS × H)} : ∀ (qs : List Nat), holdsAt o ts v l qs = true → ∀ q ∈ qs, ∃ p v' h', l[q]? = some p ∧ opA ts p.2 o.op = .val v' h' ∧ sameA v v' = true
  | [], _, q, hq => by simp at hq
  | a :: r, h, q, hq => by
    simp only [holdsAt] at h
    split at h
    · rename_i ts' h' e1
      split at h
      · rename_i v' h'' e2
        split at h
        · rename_i e3
          rcases List.mem_cons.1 hq with rfl | hq
          · exact ⟨_, v', h'', e1, e2, e3⟩
          · exact holdsAt_spec r h q hq
        · cases h
      · cases h
    · cases h
end Go.Ab
namespace Go.Ab
theorem blockAt_inv {ops : List CR} {tr : List (TS × H)} {i b : Nat} (h : blockAt ops tr i = some b) : ∃ o ts hh s x z off, ops[i]? = some o ∧ tr[i]? = some (ts, hh) ∧ o.op = .store s x z ∧ evA ts x = .ptr b off := by
  unfold blockAt at h
  split at h
  · rename_i o ts hh e1 e2
    split at h
    · rename_i s x z e3
      split at h
      · rename_i b' off e4
        injection h with h; subst h
        exact ⟨o, ts, hh, s, x, z, off, e1, e2, e3, e4⟩
      · cases h
    · cases h
  · cases h
theorem draw_ctx {P : Program} {N : Nat} {ops : Array Oper} {l : List DI} {two : Option (Nat × Nat)} {cl : Nat → List AV → H → Cr} (hcl : ClOk P cl) (df : DF P N ops l two) {s : S} {tr : List (TS × H)}
    (htr : traceD cl (wins l l 0) s.ts s.h = some tr) (hheld : heldD tr (wins l l 0) tr = true) (htwo : twoOk (wins l l 0) tr two = true) (hnx : NX s.h) :
    ∃ C S G V, Ctx P N ops l two cl C S G V ∧ S 0 = s.ts ∧ G 0 = s.h ∧ tr.getLast? = some (S l.length, G l.length) := by
  obtain ⟨t1, t2, t3⟩ := traceD_run _ _ _ _ htr
  rw [wins_len] at t1
  let C : Nat → DI := fun k => l.getD k ⟨default, ⟨none, bad, none, []⟩, 0, 0⟩
  let S : Nat → TS := fun k => (tr.getD k (.leaf, ⟨0, .leaf⟩)).1
  let G : Nat → H := fun k => (tr.getD k (.leaf, ⟨0, .leaf⟩)).2
  let V : Nat → AV := fun k => match resD cl (C k).c (S k) (G k) with | some (v, _) => v | none => .any
  have hC : ∀ k, k < l.length → l[k]? = some (C k) := by
    intro k hk
    simp [C, List.getD_eq_getElem?_getD, List.getElem?_eq_getElem hk]
  have hT : ∀ k p, tr[k]? = some p → S k = p.1 ∧ G k = p.2 := by
    intro k p hp
    simp [S, G, List.getD_eq_getElem?_getD, hp]
  have hW : ∀ k, k < l.length → (wins l l 0)[k]? = some { (C k).c with win := winOf (C k) k l 0 } := by
    intro k hk
    rw [wins_get, hC k hk]; simp
  have hR : ∀ k, k < l.length → resD cl (C k).c (S k) (G k) = some (V k, G (k + 1)) ∧ S (k + 1) = putT (S k) (C k).c.dst (V k) ∧ tr[k]? = some (S k, G k) := by
    intro k hk
    obtain ⟨ts, h, v, h', q1, q2, q3⟩ := t3 k _ (hW k hk)
    obtain ⟨a1, a2⟩ := hT k _ q1
    obtain ⟨b1, b2⟩ := hT (k + 1) _ q2
    simp only at a1 a2 b1 b2
    change resD cl (C k).c ts h = some (v, h') at q3
    rw [← a1, ← a2] at q3
    have hv : V k = v := by simp only [V, q3]
    refine ⟨by rw [q3, hv, b2], by rw [b1, hv, a1], by rw [q1, a1, a2]⟩
  have hS0 := hT 0 _ t2
  refine ⟨C, S, G, V, ⟨df, ⟨hC, fun k hk => (hR k hk).1, fun k hk => (hR k hk).2.1⟩, hcl, ?_, ?_, by rw [hS0.2]; exact hnx⟩, hS0.1, hS0.2, ?_⟩
  · intro k hk hr hw q hq hql
    have h1 := heldD_spec _ _ hheld k _ _ _ (hW k hk) (hR k hk).2.2
    unfold held1 at h1
    cases hwin : winOf (C k) k l 0 with
    | nil => rw [hwin] at hq; cases hq
    | cons q0 qs =>
      have hr' : isReads { (C k).c with win := winOf (C k) k l 0 } = true := hr
      have hw' : wantedA (S k) { (C k).c with win := winOf (C k) k l 0 } = true := hw
      rw [hr', hw'] at h1
      simp only [hwin] at h1
      split at h1
      · rename_i v h' e
        obtain ⟨p, v', h'', e1, e2, e3⟩ := holdsAt_spec _ h1 q (by rw [← hwin]; exact hq)
        have hp := hT q p e1
        rw [← hp.2] at e2
        have hval := resD_val (cl := cl) (resD_cases (hR k hk).1).1 hw e
        rw [(hR k hk).1] at hval
        injection hval with hval; injection hval with e4 e5
        exact ⟨v', h'', e2, by rw [e4]; exact e3⟩
      · cases h1
  · intro j k hjk
    subst hjk
    simp only [twoOk] at htwo
    split at htwo
    · rename_i b b' e1 e2
      obtain ⟨o, ts, hh, s1, x, z, off, q1, q2, q3, q4⟩ := blockAt_inv e1
      obtain ⟨o', ts', hh', s1', x', z', off', r1, r2, r3, r4⟩ := blockAt_inv e2
      have hlt : ∀ {i : Nat} {o : CR}, (wins l l 0)[i]? = some o → i < l.length := by
        intro i o ho
        rcases Nat.lt_or_ge i l.length with q | q
        · exact q
        · rw [List.getElem?_eq_none (by rw [wins_len]; exact q)] at ho; cases ho
      have hj := hlt q1
      have hk := hlt r1
      rw [hW j hj] at q1; injection q1 with q1
      rw [hW k hk] at r1; injection r1 with r1
      refine ⟨b, b', off, off', s1, s1', x, x', z, z', by rw [← q1] at q3; exact q3, by rw [(hT j _ q2).1]; exact q4, by rw [← r1] at r3; exact r3, by rw [(hT k _ r2).1]; exact r4, ?_⟩
      rintro rfl
      simp [Nat.beq_refl] at htwo
    · cases htwo
  · rw [List.getLast?_eq_getElem?, t1]
    simp only [Nat.add_sub_cancel]
    have hlt : l.length < tr.length := by omega
    rw [List.getElem?_eq_getElem hlt]
    have := hT l.length _ (List.getElem?_eq_getElem hlt)
    rw [this.1, this.2]
theorem draw_ok {P : Program} {N : Nat} {ops : Array Oper} {cs : List CR} {two : Option (Nat × Nat)} {cl : Nat → List AV → H → Cr} (hcl : ClOk P cl) (hmix : P.follows .mixedOrders = true) (hd : compDraw P N ops = .draw cs two)
    {s s' : S} {rc rc' : Rc} {f : Fl} (hrun : drawA cl cs two s rc = .ok f s' rc') {σ : Ren} {a : Act} {w : World} (htr : TR σ s.ts a.tmps) (hr : HR σ s.h w) (hN : a.tmps.size = N) (hf : Fresh σ s.h.next s'.h.next)
    {Q : Exit → Act → World → Prop} {id : Nat}
    (hQ : ∀ σ' a' w', HR σ' s'.h w' → Ext σ σ' s.h s'.h w w' → TR σ' s'.ts a'.tmps → a'.tmps.size = N → a'.defers = a.defers → Q .normal a' w') : (Code.region id ops true).wp P Q a w := by
  rcases draw_facts (P := P) (N := N) (ops := ops) with h | ⟨l, two', h1, df⟩
  · rw [hd] at h; cases h
  · rw [hd] at h1
    injection h1 with e1 e2
    subst e1; subst e2
    unfold drawA at hrun
    split at hrun
    · rename_i tr htrace
      split at hrun
      · rename_i ts h k1 k2 k3
        injection hrun with q1 q2 q3
        subst q2
        have hnx : NX s.h := fun b x hb => hr.nx b (by simp [hb])
        obtain ⟨C, S, G, V, c, z1, z2, z3⟩ := draw_ctx hcl df htrace k1 k2 hnx
        rw [k3] at z3
        injection z3 with z3
        injection z3 with z4 z5
        simp only at hf hQ
        rw [z5] at hf
        rw [z4, z5] at hQ
        rw [← z2] at hf hQ hr
        rw [← z1] at htr
        refine wp_region_any hmix (c.any (σ0 := σ) (w0 := w) (a0 := a) hf (fun σ' a' w' m1 m2 m3 m4 m5 => hQ σ' a' w' m1 m2 m3 m4 m5) ops.size _ a _ ?_ ?_)
        · have : ∀ n, cnt (Array.replicate ops.size false) n ≤ n := by
            intro n
            induction n with
            | zero => exact Nat.le_refl _
            | succ n ih => simp only [cnt]; split <;> omega
          exact this _
        · have hD : ∀ k, Dn C (Array.replicate ops.size false) k = false := by
            intro k
            simp [Dn, Array.getD_eq_getD_getElem?, Array.getElem?_replicate]
            split <;> rfl
          obtain ⟨p, p1, p2, p3, p4⟩ := c.nextAct l.length 0 (by omega)
          have hle : ∀ k, k ≤ l.length → (G 0).next ≤ (G k).next := fun k hk => (c.grow (Nat.zero_le k) hk).next
          have hlive : ∀ b x L, Alive G l.length (G p) p (Dn C (Array.replicate ops.size false)) b x → σ b = some L → (G 0).get b = some x := by
            rintro b x L (hg | ⟨m, m1, m2, m3, _⟩) hL
            · rcases (c.chain p1 p2 p4 b x).1 hg with q | ⟨m, m1, m2, m3, m4⟩
              · exact q
              · have q1 := hle m (by omega)
                have q2 := c.nextNe (m := m) (k := l.length) (by omega) (Nat.le_refl _) m4
                have := hf b (by omega) (by omega)
                rw [this] at hL; cases hL
            · rw [hD m] at m3; cases m3
          have hturn : Turn σ σ (fun b x => (G 0).get b = some x) (Alive G l.length (G p) p (Dn C (Array.replicate ops.size false))) (G 0) (G 0) := fun b x L hA hL => .inl (hlive b x L hA hL)
          have hr' : HR σ (G 0) w.drew := hr.drew
          refine ⟨σ, p, G p, ⟨by simp, ?_, p2, rfl, c.nx p2, (HRP.of hr').frame (fun b x h => h) (Ext.refl σ (G 0) w.drew) hr' hturn, (XP.start Ext.drew).frame (fun b x h => h) (Ext.refl σ (G 0) w.drew) (Nat.le_refl _) (hle _ (Nat.le_refl _)) hturn, ?_, ?_, hN, rfl⟩, .inl ⟨rfl, p3, fun k hk ha => ?_, fun k hk hl ha => hD k⟩⟩
          · intro i m hm hi
            simp [Array.getD_eq_getD_getElem?, Array.getElem?_replicate] at hi
            split at hi <;> cases hi
          · intro k hk _ b b1 b2
            have q1 := hle k (by omega)
            have q2 := (c.grow (j := k + 1) (k := l.length) hk (Nat.le_refl _)).next
            exact hf b (by omega) (by omega)
          · intro t v ht
            have q := foldT_upto (S0 := S 0) (C := C) (V := V) 0 l.length
            rw [Nat.min_zero] at q
            rw [foldT_agree (D' := fun k => decide (k < 0)) (fun k hk _ => by rw [hD k]; simp), q] at ht
            exact htr t v ht
          · have := p4 k (Nat.zero_le k) hk; rw [this] at ha; cases ha
      · cases hrun
    · cases hrun
theorem draw_out {cl : Nat → List AV → H → Cr} {cs : List CR} {two : Option (Nat × Nat)} {s s' : S} {rc rc' : Rc} {f : Fl} (hrun : drawA cl cs two s rc = .ok f s' rc') : f = .norm ∧ s'.ds = s.ds ∧ rc' = rc := by
  unfold drawA at hrun
  split at hrun
  · split at hrun
    · injection hrun with q1 q2 q3; subst q2; exact ⟨q1.symm, rfl, q3.symm⟩
    · cases hrun
  · cases hrun
end Go.Ab
namespace Go.Ab
structure ClFull (P : Program) (cl : Nat → List AV → H → Cr) : Prop extends ClOk P cl where
  growP : ∀ f args h v h', cl f args h = .pan v h' → Grow h h'
  pan : ∀ f args h v h', cl f args h = .pan v h' → ∀ σ w args', HR σ h w → LR σ args args' → Fresh σ h.next h'.next →
    (callFunc f args'.toArray).run P w = .ok (.enter f args'.toArray) w ∧ Calls P f args'.toArray w fun e w' => ∃ v' σ', e = .panicked [{ v := v', recovered := false }] ∧ VR σ' v v' ∧ HR σ' h' w' ∧ Ext σ σ' h h' w w'
theorem DR.mono {σ σ' : Ren} (hle : Le σ σ') {p : Nat × List AV} {d : Deferred} (h : DR σ p d) : DR σ' p d := let ⟨cap, h1, h2⟩ := h; ⟨cap, h1, h2.mono hle⟩
def DsR (σ : Ren) : List (Nat × List AV) → List Deferred → Prop
  | [], [] => True
  | p :: ps, d :: ds => DR σ p d ∧ DsR σ ps ds
  | _, _ => False
theorem DsR.mono {σ σ' : Ren} (hle : Le σ σ') : ∀ {ps : List (Nat × List AV)} {ds : List Deferred}, DsR σ ps ds → DsR σ' ps ds
  | [], [], _ => trivial
  | _ :: _, _ :: _, h => ⟨h.1.mono hle, DsR.mono hle h.2⟩
  | [], _ :: _, h => h.elim
  | _ :: _, [], h => h.elim
def FR (σ : Ren) : Fl → Exit → Prop
  | .norm, e => e = .normal
  | .exit n, e => e = .exit n
  | .ret, e => e = .ret
  | .pan v, e => ∃ v', VR σ v v' ∧ e = .panic [{ v := v', recovered := false }]
structure Pre (N : Nat) (σ : Ren) (s : S) (a : Act) (w : World) : Prop where
  hr : HR σ s.h w
  tr : TR σ s.ts a.tmps
  sz : a.tmps.size = N
  ds : DsR σ s.ds a.defers
def Post (N : Nat) (σ : Ren) (h : H) (w : World) (f : Fl) (s' : S) (e : Exit) (a' : Act) (w' : World) : Prop :=
  ∃ σ', FR σ' f e ∧ Pre N σ' s' a' w' ∧ Ext σ σ' h s'.h w w'
theorem Fresh.step {σ σ' : Ren} {h h1 h' : H} {w w1 : World} (hf : Fresh σ h.next h'.next) (e : Ext σ σ' h h1 w w1) (hle : h1.next ≤ h'.next) : Fresh σ' h1.next h'.next := by
  intro b hb1 hb2
  rw [e.out b (fun hh => by omega)]
  exact hf b (by have := e.next; omega) hb2
theorem Fresh.left {σ : Ren} {a b c : Nat} (hf : Fresh σ a c) (hle : b ≤ c) : Fresh σ a b := fun x h1 h2 => hf x h1 (by omega)
theorem Post.step {N : Nat} {σ σ1 : Ren} {h h1 : H} {w w1 : World} {f : Fl} {s' : S} {e : Exit} {a' : Act} {w' : World} (x : Ext σ σ1 h h1 w w1) (p : Post N σ1 h1 w1 f s' e a' w') : Post N σ h w f s' e a' w' :=
  let ⟨σ', h1, h2, h3⟩ := p; ⟨σ', h1, h2, x.trans h3⟩
section
variable {P : Program} {N : Nat} {ops : Array Oper} {cl : Nat → List AV → H → Cr}
theorem regA_grow (hcl : ClFull P cl) : ∀ (cs : List CR) (s : S) (rc : Rc) (f : Fl) (s' : S) (rc' : Rc), regA cl cs s rc = .ok f s' rc' → Grow s.h s'.h
  | [], s, rc, f, s', rc', h => by simp only [regA, Rs.ok.injEq] at h; obtain ⟨_, rfl, _⟩ := h; exact Grow.refl _
  | o :: rest, s, rc, f, s', rc', h => by
    simp only [regA] at h
    split at h
    · cases h
    · split at h
      · have := regA_grow hcl rest _ _ _ _ _ h
        exact this
      · have hg := opA_grow s.ts s.h o.op
        split at h
        · rename_i e; rw [e] at hg; exact Grow.trans hg (regA_grow hcl rest _ _ _ _ _ h)
        · rename_i e; rw [e] at hg; exact Grow.trans hg (regA_grow hcl rest _ _ _ _ _ h)
        · rename_i e
          rw [e] at hg
          split at h
          · rename_i e2; exact Grow.trans hg ((hcl.grow _ _ _ _ _ e2).trans (regA_grow hcl rest _ _ _ _ _ h))
          · rename_i e2
            simp only [Rs.ok.injEq] at h; obtain ⟨_, rfl, _⟩ := h
            exact Grow.trans hg (hcl.growP _ _ _ _ _ e2)
          · cases h
        · rename_i e; rw [e] at hg; exact Grow.trans hg (regA_grow hcl rest _ _ _ _ _ h)
        · rename_i e
          rw [e] at hg
          split at h
          · exact Grow.trans hg (regA_grow hcl rest _ _ _ _ _ h)
          · exact Grow.trans hg (regA_grow hcl rest _ _ _ _ _ h)
          · cases h
        · rename_i e
          rw [e] at hg
          simp only [Rs.ok.injEq] at h; obtain ⟨_, rfl, _⟩ := h
          exact hg
        · cases h
theorem traceD_grow (hcl : ClOk P cl) : ∀ (cs : List CR) (ts : TS) (h : H) (tr : List (TS × H)), traceD cl cs ts h = some tr → ∀ p, tr.getLast? = some p → Grow h p.2
  | [], ts, h, tr, e, p, hp => by simp [traceD] at e; subst e; simp at hp; subst hp; exact Grow.refl _
  | o :: r, ts, h, tr, e, p, hp => by
    simp only [traceD] at e
    split at e
    · rename_i v h' he
      split at e
      · rename_i l hl
        injection e with e; subst e
        refine Grow.trans (resD_grow hcl he) (traceD_grow hcl r _ _ l hl p ?_)
        cases l with
        | nil =>
          have := (traceD_run _ _ _ _ hl).1
          simp at this
        | cons x y => simpa using hp
      · cases e
    · cases e
theorem drawA_grow (hcl : ClOk P cl) {cs : List CR} {two : Option (Nat × Nat)} {s s' : S} {rc rc' : Rc} {f : Fl} (h : drawA cl cs two s rc = .ok f s' rc') : Grow s.h s'.h := by
  unfold drawA at h
  split at h
  · rename_i l hl
    split at h
    · rename_i e1 e2 e3
      simp only [Rs.ok.injEq] at h; obtain ⟨_, rfl, _⟩ := h
      exact traceD_grow hcl _ _ _ _ hl _ e3
    · cases h
  · cases h
theorem Act.defers_put (a : Act) (d : Option Nat) (v : Value) : (a.put d v).defers = a.defers := by cases d <;> rfl
theorem Pre.put {σ σ' : Ren} {s : S} {a : Act} {w w' : World} (p : Pre N σ s a w) {o : Oper} {c : CR} (hc : compOp P N ops o = some c) {v : AV} {v' : Value} {h' : H} (hle : Le σ σ') (hv : VR σ' v v') (hr : HR σ' h' w') :
    Pre N σ' ⟨putT s.ts c.dst v, s.ds, h'⟩ (a.put o.dst v') w' := by
  have hd := compOp_dst hc
  refine ⟨hr, ?_, by rw [Act.size_put]; exact p.sz, ?_⟩
  · show TR σ' (putT s.ts c.dst v) _
    rw [hd.1]
    exact (p.tr.mono hle).put (dst := o.dst) hv (by rw [p.sz]; exact hd.2.1)
  · rw [Act.defers_put]; exact p.ds.mono hle
theorem reg_ok (hcl : ClFull P cl) : ∀ (cs : List CR) (k : Nat), (∀ (j : Nat) (c : CR), cs[j]? = some c → ∃ o, ops[k + j]? = some o ∧ compOp P N ops o = some c) →
    ∀ (s : S) (f : Fl) (s' : S) (rc' : Rc) (σ : Ren) (a : Act) (w : World), regA cl cs s .off = .ok f s' rc' → Pre N σ s a w → Fresh σ s.h.next s'.h.next →
    rc' = .off ∧ wpOps P ops (Post N σ s.h w f s') (List.range' k cs.length) a w
  | [], k, _, s, f, s', rc', σ, a, w, h, p, _ => by
    simp only [regA, Rs.ok.injEq] at h
    obtain ⟨rfl, rfl, rfl⟩ := h
    exact ⟨rfl, σ, rfl, p, Ext.refl _ _ _⟩
  | c :: rest, k, hcs, s, f, s', rc', σ, a, w, h, p, hf => by
    obtain ⟨o, ho, hc⟩ := hcs 0 c rfl
    have hcs' : ∀ (j : Nat) (c : CR), rest[j]? = some c → ∃ o, ops[k + 1 + j]? = some o ∧ compOp P N ops o = some c := by
      intro j c' hj
      obtain ⟨o', h1, h2⟩ := hcs (j + 1) c' (by simpa using hj)
      exact ⟨o', by rw [← h1]; congr 1; omega, h2⟩
    rw [Nat.add_zero] at ho
    have next : ∀ {s1 : S} {σ1 : Ren} {a1 : Act} {w1 : World}, regA cl rest s1 .off = .ok f s' rc' → Pre N σ1 s1 a1 w1 → Ext σ σ1 s.h s1.h w w1 → rc' = .off ∧ wpOps P ops (Post N σ s.h w f s') (List.range' (k + 1) rest.length) a1 w1 := by
      intro s1 σ1 a1 w1 h1 p1 e1
      have hg := regA_grow hcl _ _ _ _ _ _ h1
      obtain ⟨q1, q2⟩ := reg_ok hcl rest (k + 1) hcs' s1 f s' rc' σ1 a1 w1 h1 p1 (hf.step e1 hg.next)
      refine ⟨q1, ?_⟩
      have : ∀ (l : List Nat) (a : Act) (w2 : World), wpOps P ops (Post N σ1 s1.h w1 f s') l a w2 → wpOps P ops (Post N σ s.h w f s') l a w2 := by
        intro l
        induction l with
        | nil => intro a w2 h; exact Post.step e1 h
        | cons i l ih =>
          intro a w2 h
          rw [wpOps_cons] at h ⊢
          unfold wpOp at h ⊢
          split
          · rename_i hn; simp only [hn] at h; exact ih _ _ h
          · rename_i o2 ho2
            simp only [ho2] at h
            split
            · rename_i hw
              simp only [hw, if_true] at h
              rcases h with h | ⟨h1, h2⟩
              · refine .inl ?_
                unfold Oper.wp at *
                generalize (execOp a.eval o2).run P w2 = r at *
                cases r with
                | ok n w' =>
                  cases n <;> simp only [Oper.upon] at h ⊢ <;>
                    first
                      | exact ih _ _ h
                      | exact Rows.mono h (fun _ _ he => ih _ _ he)
                      | skip
                  refine Calls.mono h (fun e w'' he => ?_)
                  cases e with
                  | returned v => exact ih _ _ he
                  | panicked ch => exact Post.step e1 he
                  | outgrown => obtain ⟨a9, w9, h9⟩ := he; exact ⟨a9, w9, Post.step e1 h9⟩
                | halt x w' =>
                  cases x <;> simp only [Oper.upon] at h ⊢ <;> first | exact h | exact Post.step e1 h
              · obtain ⟨a9, w9, h9⟩ := h2
                exact .inr ⟨h1, a9, w9, Post.step e1 h9⟩
            · rename_i hw; simp only [hw] at h; exact ih _ _ h
      exact this _ _ _ q2
    simp only [regA] at h
    rw [List.length_cons, List.range'_succ, wpOps_cons]
    unfold wpOp
    simp only [ho]
    split at h
    · cases h
    · rename_i hg
      rw [wanted_ok p.tr hc hg]
      split at h
      · rename_i hw
        simp only [hw, Bool.false_eq_true, if_false]
        exact next h (p.put hc (Le.refl σ) (VR.undef σ) p.hr) (Ext.refl _ _ _)
      · rename_i hw
        simp only [hw, if_true]
        have hop := op_ok' p.tr p.hr hc
        have hgr := opA_grow s.ts s.h c.op
        split at h
        · rename_i v h1 e
          rw [e] at hop hgr
          have hg2 := regA_grow hcl _ _ _ _ _ _ h
          obtain ⟨σ1, v', w1, k1, k2, k3, k4⟩ := hop (hf.left hg2.next)
          have := next h (p.put hc k4.le k2 k3) k4
          refine ⟨this.1, .inl ?_⟩
          unfold Oper.wp
          rw [k1, Oper.upon_value]; exact this.2
        · rename_i h1 e
          rw [e] at hop hgr
          have hg2 := regA_grow hcl _ _ _ _ _ _ h
          obtain ⟨σ1, w1, k1, k3, k4⟩ := hop (hf.left hg2.next)
          have := next h (p.put hc k4.le (VR.undef σ1) k3) k4
          refine ⟨this.1, .inl ?_⟩
          unfold Oper.wp
          rw [k1, Oper.upon_skip]; exact this.2
        · rename_i g args h1 e
          rw [e] at hop
          obtain ⟨rfl, args', k1, k2⟩ := hop
          split at h
          · rename_i v h2 e2
            have hg2 := regA_grow hcl _ _ _ _ _ _ h
            obtain ⟨m1, m2⟩ := hcl.ret _ _ _ _ _ e2 σ w args' p.hr k1 (hf.left hg2.next)
            refine ⟨?_, .inl ?_⟩
            · cases hr : rc' with
              | off => rfl
              | on u =>
                obtain ⟨e9, w9, fr9, ⟨v9, σ9, _, q1, q2, q3⟩, _⟩ := m2 []
                rw [← hr]; exact (next h (p.put hc q3.le q1 q2) q3).1
            · unfold Oper.wp
              rw [k2, m1, Oper.upon_enter]
              refine Calls.mono m2 fun e' w' he => ?_
              obtain ⟨v', σ', rfl, q1, q2, q3⟩ := he
              exact (next h (p.put hc q3.le q1 q2) q3).2
          · rename_i v h2 e2
            simp only [Rs.ok.injEq] at h
            obtain ⟨rfl, rfl, rfl⟩ := h
            obtain ⟨m1, m2⟩ := hcl.pan _ _ _ _ _ e2 σ w args' p.hr k1 hf
            refine ⟨rfl, .inl ?_⟩
            unfold Oper.wp
            rw [k2, m1, Oper.upon_enter]
            refine Calls.mono m2 fun e' w' he => ?_
            obtain ⟨v', σ', rfl, q1, q2, q3⟩ := he
            exact ⟨σ', ⟨v', q1, rfl⟩, ⟨q2, p.tr.mono q3.le, p.sz, p.ds.mono q3.le⟩, q3⟩
          · cases h
        · rename_i g args h1 e
          rw [e] at hop
          obtain ⟨rfl, d, k1, k2⟩ := hop
          have hpre : Pre N σ ⟨putT s.ts c.dst undefA, (g, args) :: s.ds, s.h⟩ ({ a with defers := d :: a.defers }.put o.dst undef) w := by
            have q := p.put (v := undefA) (v' := undef) hc (Le.refl σ) (VR.undef σ) p.hr
            have hdd : ({ a with defers := d :: a.defers } : Act).put o.dst undef = { (a.put o.dst undef) with defers := d :: a.defers } := by cases o.dst <;> rfl
            rw [hdd]
            exact ⟨q.hr, q.tr, q.sz, k2, p.ds⟩
          have := next h hpre (Ext.refl _ _ _)
          refine ⟨this.1, .inl ?_⟩
          unfold Oper.wp
          rw [k1, Oper.upon_defer]; exact this.2
        · cases h
        · rename_i v h1 e
          rw [e] at hop
          obtain ⟨rfl, v', k1, k2⟩ := hop
          simp only [Rs.ok.injEq] at h
          obtain ⟨rfl, rfl, rfl⟩ := h
          refine ⟨rfl, .inl ?_⟩
          unfold Oper.wp
          rw [k1, Oper.upon_panic]
          exact ⟨σ, ⟨v', k2, rfl⟩, ⟨p.hr, p.tr, p.sz, p.ds⟩, Ext.refl _ _ _⟩
        · cases h
end
end Go.Ab
namespace Go.Ab
def UR (σ : Ren) : Option AV → FrameMode → Prop
  | none, u => u = .returning ∨ ∃ v', u = .panicking [{ v := v', recovered := true }]
  | some v, u => ∃ v', VR σ v v' ∧ u = .panicking [{ v := v', recovered := false }]
theorem UR.mono {σ σ' : Ren} (hle : Le σ σ') {r : Option AV} {u : FrameMode} (h : UR σ r u) : UR σ' r u := by
  cases r with
  | none => exact h
  | some v => obtain ⟨v', h1, h2⟩ := h; exact ⟨v', h1.mono hle, h2⟩
def PostS (N : Nat) (c0 : Frame) (cs0 : List Frame) (σ : Ren) (h : H) (w : World) (f : Fl) (s' : S) (r' : Option AV) (e : Exit) (a' : Act) (cs' : List Frame) (w' : World) : Prop :=
  ∃ σ' u, cs' = { c0 with mode := u } :: cs0 ∧ UR σ' r' u ∧ FR σ' f e ∧ Pre N σ' s' a' w' ∧ Ext σ σ' h s'.h w w'
theorem PostS.step {N : Nat} {c0 : Frame} {cs0 : List Frame} {σ σ1 : Ren} {h h1 : H} {w w1 : World} {f : Fl} {s' : S} {r' : Option AV} {e : Exit} {a' : Act} {cs' : List Frame} {w' : World} (x : Ext σ σ1 h h1 w w1) (p : PostS N c0 cs0 σ1 h1 w1 f s' r' e a' cs' w') :
    PostS N c0 cs0 σ h w f s' r' e a' cs' w' :=
  let ⟨σ', u, h1, h2, h3, h4, h5⟩ := p; ⟨σ', u, h1, h2, h3, h4, x.trans h5⟩
theorem wpOpsS_mono {P : Program} {ops : Array Oper} {Q Q' : Exit → Act → List Frame → World → Prop} (hq : ∀ e a cs w, Q e a cs w → Q' e a cs w) : ∀ (l : List Nat) (a : Act) (cs : List Frame) (w : World), wpOpsS P ops Q l a cs w → wpOpsS P ops Q' l a cs w
  | [], a, cs, w, h => hq _ _ _ _ h
  | i :: l, a, cs, w, h => by
    simp only [wpOpsS] at h ⊢
    split
    · rename_i hn; simp only [hn] at h; exact wpOpsS_mono hq l _ _ _ h
    · rename_i o ho
      simp only [ho] at h
      split
      · rename_i hw
        simp only [hw, if_true] at h
        generalize (execOp a.eval o).run P w = r at *
        split at h
        · split at h
          · exact wpOpsS_mono hq l _ _ _ h
          · exact wpOpsS_mono hq l _ _ _ h
        · rename_i r' hnot
          cases r with
          | ok n w' =>
            cases n <;> simp only [Oper.upon] at h ⊢ <;>
              first
                | exact absurd rfl (hnot _)
                | exact wpOpsS_mono hq l _ _ _ h
                | exact Rows.mono h (fun _ _ he => wpOpsS_mono hq l _ _ _ he)
                | skip
            refine Calls.mono h (fun e w'' he => ?_)
            cases e with
            | returned v => exact wpOpsS_mono hq l _ _ _ he
            | panicked ch => exact hq _ _ _ _ he
            | outgrown => obtain ⟨a9, w9, h9⟩ := he; exact ⟨a9, w9, hq _ _ _ _ h9⟩
          | halt x w' =>
            cases x <;> simp only [Oper.upon] at h ⊢ <;> first | exact h | exact hq _ _ _ _ h
      · rename_i hw; simp only [hw] at h; exact wpOpsS_mono hq l _ _ _ h
section
variable {P : Program} {N : Nat} {ops : Array Oper} {cl : Nat → List AV → H → Cr}
theorem regA_on (hcl : ClFull P cl) : ∀ (cs : List CR) (s : S) (r : Option AV) (f : Fl) (s' : S) (rc' : Rc), regA cl cs s (.on r) = .ok f s' rc' → ∃ r', rc' = .on r'
  | [], s, r, f, s', rc', h => by simp only [regA, Rs.ok.injEq] at h; exact ⟨r, h.2.2.symm⟩
  | o :: rest, s, r, f, s', rc', h => by
    simp only [regA] at h
    split at h
    · cases h
    · split at h
      · exact regA_on hcl rest _ _ _ _ _ h
      · split at h
        · exact regA_on hcl rest _ _ _ _ _ h
        · exact regA_on hcl rest _ _ _ _ _ h
        · split at h
          · exact regA_on hcl rest _ _ _ _ _ h
          · simp only [Rs.ok.injEq] at h; exact ⟨r, h.2.2.symm⟩
          · cases h
        · exact regA_on hcl rest _ _ _ _ _ h
        · split at h
          · exact regA_on hcl rest _ _ _ _ _ h
          · exact regA_on hcl rest _ _ _ _ _ h
          · rename_i e; cases e
        · simp only [Rs.ok.injEq] at h; exact ⟨r, h.2.2.symm⟩
        · cases h
theorem regS_ok (hcl : ClFull P cl) (c0 : Frame) (cs0 : List Frame) : ∀ (cs : List CR) (k : Nat), (∀ (j : Nat) (c : CR), cs[j]? = some c → ∃ o, ops[k + j]? = some o ∧ compOp P N ops o = some c) →
    ∀ (s : S) (f : Fl) (s' : S) (r r' : Option AV) (σ : Ren) (a : Act) (u : FrameMode) (w : World), regA cl cs s (.on r) = .ok f s' (.on r') → Pre N σ s a w → UR σ r u → Fresh σ s.h.next s'.h.next →
    wpOpsS P ops (PostS N c0 cs0 σ s.h w f s' r') (List.range' k cs.length) a ({ c0 with mode := u } :: cs0) w
  | [], k, _, s, f, s', r, r', σ, a, u, w, h, p, hu, _ => by
    simp only [regA, Rs.ok.injEq, Rc.on.injEq] at h
    obtain ⟨rfl, rfl, rfl⟩ := h
    exact ⟨σ, u, rfl, hu, rfl, p, Ext.refl _ _ _⟩
  | c :: rest, k, hcs, s, f, s', r, r', σ, a, u, w, h, p, hu, hf => by
    obtain ⟨o, ho, hc⟩ := hcs 0 c rfl
    have hcs' : ∀ (j : Nat) (c : CR), rest[j]? = some c → ∃ o, ops[k + 1 + j]? = some o ∧ compOp P N ops o = some c := by
      intro j c' hj
      obtain ⟨o', h1, h2⟩ := hcs (j + 1) c' (by simpa using hj)
      exact ⟨o', by rw [← h1]; congr 1; omega, h2⟩
    rw [Nat.add_zero] at ho
    have next : ∀ {s1 : S} {σ1 : Ren} {a1 : Act} {w1 : World} {r1 : Option AV} {u1 : FrameMode}, regA cl rest s1 (.on r1) = .ok f s' (.on r') → Pre N σ1 s1 a1 w1 → UR σ1 r1 u1 → Ext σ σ1 s.h s1.h w w1 →
        wpOpsS P ops (PostS N c0 cs0 σ s.h w f s' r') (List.range' (k + 1) rest.length) a1 ({ c0 with mode := u1 } :: cs0) w1 := by
      intro s1 σ1 a1 w1 r1 u1 h1 p1 hu1 e1
      have hg := regA_grow hcl _ _ _ _ _ _ h1
      exact wpOpsS_mono (fun _ _ _ _ q => PostS.step e1 q) _ _ _ _ (regS_ok hcl c0 cs0 rest (k + 1) hcs' s1 f s' r1 r' σ1 a1 u1 w1 h1 p1 hu1 (hf.step e1 hg.next))
    simp only [regA] at h
    rw [List.length_cons, List.range'_succ]
    simp only [wpOpsS, ho]
    split at h
    · cases h
    · rename_i hg
      rw [wanted_ok p.tr hc hg]
      split at h
      · rename_i hw
        simp only [hw, Bool.false_eq_true, if_false]
        exact next h (p.put hc (Le.refl σ) (VR.undef σ) p.hr) hu (Ext.refl _ _ _)
      · rename_i hw
        simp only [hw, if_true]
        have hop := op_ok' p.tr p.hr hc
        have hgr := opA_grow s.ts s.h c.op
        split at h
        · rename_i v h1 e
          rw [e] at hop hgr
          have hg2 := regA_grow hcl _ _ _ _ _ _ h
          obtain ⟨σ1, v', w1, k1, k2, k3, k4⟩ := hop (hf.left hg2.next)
          rw [k1]
          simp only [Oper.upon]
          exact next h (p.put hc k4.le k2 k3) (hu.mono k4.le) k4
        · rename_i h1 e
          rw [e] at hop hgr
          have hg2 := regA_grow hcl _ _ _ _ _ _ h
          obtain ⟨σ1, w1, k1, k3, k4⟩ := hop (hf.left hg2.next)
          rw [k1]
          simp only [Oper.upon]
          exact next h (p.put hc k4.le (VR.undef σ1) k3) (hu.mono k4.le) k4
        · rename_i g args h1 e
          rw [e] at hop
          obtain ⟨rfl, args', k1, k2⟩ := hop
          split at h
          · rename_i v h2 e2
            have hg2 := regA_grow hcl _ _ _ _ _ _ h
            obtain ⟨m1, m2⟩ := hcl.ret _ _ _ _ _ e2 σ w args' p.hr k1 (hf.left hg2.next)
            rw [k2, m1]
            simp only [Oper.upon]
            refine Calls.mono m2 fun e' w' he => ?_
            obtain ⟨v', σ', rfl, q1, q2, q3⟩ := he
            exact next h (p.put hc q3.le q1 q2) (hu.mono q3.le) q3
          · rename_i v h2 e2
            simp only [Rs.ok.injEq, Rc.on.injEq] at h
            obtain ⟨rfl, rfl, rfl⟩ := h
            obtain ⟨m1, m2⟩ := hcl.pan _ _ _ _ _ e2 σ w args' p.hr k1 hf
            rw [k2, m1]
            simp only [Oper.upon]
            refine Calls.mono m2 fun e' w' he => ?_
            obtain ⟨v', σ', rfl, q1, q2, q3⟩ := he
            exact ⟨σ', u, rfl, hu.mono q3.le, ⟨v', q1, rfl⟩, ⟨q2, p.tr.mono q3.le, p.sz, p.ds.mono q3.le⟩, q3⟩
          · cases h
        · rename_i g args h1 e
          rw [e] at hop
          obtain ⟨rfl, d, k1, k2⟩ := hop
          have hpre : Pre N σ ⟨putT s.ts c.dst undefA, (g, args) :: s.ds, s.h⟩ ({ a with defers := d :: a.defers }.put o.dst undef) w := by
            have q := p.put (v := undefA) (v' := undef) hc (Le.refl σ) (VR.undef σ) p.hr
            have hdd : ({ a with defers := d :: a.defers } : Act).put o.dst undef = { (a.put o.dst undef) with defers := d :: a.defers } := by cases o.dst <;> rfl
            rw [hdd]
            exact ⟨q.hr, q.tr, q.sz, k2, p.ds⟩
          rw [k1]
          simp only [Oper.upon]
          exact next h hpre hu (Ext.refl _ _ _)
        · rename_i h1 e
          rw [e] at hop
          obtain ⟨rfl, k1⟩ := hop
          rw [k1]
          simp only
          cases r with
          | some v =>
            simp only at h
            obtain ⟨v', q1, rfl⟩ := hu
            simp only [recoverD]
            exact next (u1 := .panicking [{ v := v', recovered := true }]) h (p.put hc (Le.refl σ) q1 p.hr) (.inr ⟨v', rfl⟩) (Ext.refl _ _ _)
          | none =>
            simp only at h
            have hrec : recoverD ({ c0 with mode := u } :: cs0) = none := by
              rcases hu with rfl | ⟨v', rfl⟩ <;> rfl
            rw [hrec]
            exact next h (p.put hc (Le.refl σ) .inil p.hr) hu (Ext.refl _ _ _)
        · rename_i v h1 e
          rw [e] at hop
          obtain ⟨rfl, v', k1, k2⟩ := hop
          simp only [Rs.ok.injEq, Rc.on.injEq] at h
          obtain ⟨rfl, rfl, rfl⟩ := h
          rw [k1]
          simp only [Oper.upon]
          exact ⟨σ, u, rfl, hu, ⟨v', k2, rfl⟩, p, Ext.refl _ _ _⟩
        · cases h
end
end Go.Ab
namespace Go.Ab
def LoopWp (P : Program) (c : Code) (Q : Exit → Act → World → Prop) (a : Act) (w : World) : Prop :=
  ∀ (b : Frame) (k : List Item) (cs : List Frame), ∃ e a' w', Q e a' w' ∧ Arrives P (lone (b.at a (.code c :: .inLoop c :: k)) cs w) b k cs e a' w'
theorem LoopWp.wp {P : Program} {c : Code} {Q : Exit → Act → World → Prop} {a : Act} {w : World} (h : LoopWp P c Q a w) : (Code.loop c).wp P Q a w := by
  intro b k cs
  obtain ⟨e, a', w', hq, harr⟩ := h b k cs
  exact ⟨e, a', w', hq, .of_steps (.one step_loop) harr⟩
theorem LoopWp.round {P : Program} {c : Code} {Q : Exit → Act → World → Prop} {a : Act} {w : World} (h : c.wp P (Exit.then (LoopWp P c Q) Q) a w) : LoopWp P c Q a w := by
  intro b k cs
  obtain ⟨e, a₁, w₁, hq, harr⟩ := h b (.inLoop c :: k) cs
  cases e with
  | normal =>
    obtain ⟨e₂, a₂, w₂, hq₂, harr₂⟩ := hq b k cs
    exact ⟨e₂, a₂, w₂, hq₂, .of_steps (Steps.trans harr (.one step_inLoop)) harr₂⟩
  | exit id => exact ⟨_, a₁, w₁, hq, .pass (x := .inLoop c) rfl (fun _ _ => .inl (by simp)) harr⟩
  | goto l => exact ⟨_, a₁, w₁, hq, .pass (x := .inLoop c) rfl (fun _ _ => .inl (by simp)) harr⟩
  | ret => exact ⟨_, a₁, w₁, hq, .pass (x := .inLoop c) rfl (fun _ _ => .inl (by simp)) harr⟩
  | panic ch => exact ⟨_, a₁, w₁, hq, .pass (x := .inLoop c) rfl (fun _ _ => .inl (by simp)) harr⟩
  | outgrown => exact ⟨_, a₁, w₁, hq, .pass (x := .inLoop c) rfl (fun _ _ => .inl (by simp)) harr⟩
def wpL (P : Program) (c : Code) (Q : Exit → Act → World → Prop) (a : Act) (w : World) : Prop :=
  match c with
  | .loop b => LoopWp P b Q a w
  | c => c.wp P Q a w
theorem wpL.wp {P : Program} {c : Code} {Q : Exit → Act → World → Prop} {a : Act} {w : World} (h : wpL P c Q a w) : c.wp P Q a w := by
  cases c <;> first | exact h | exact LoopWp.wp h
theorem FR.then {σ : Ren} {f : Fl} {e : Exit} (h : FR σ f e) (hn : f ≠ .norm) {K : Act → World → Prop} {Q : Exit → Act → World → Prop} {a : Act} {w : World} (hq : Q e a w) : Exit.then K Q e a w := by
  cases f with
  | norm => exact absurd rfl hn
  | exit n => cases h; exact hq
  | ret => cases h; exact hq
  | pan v => obtain ⟨v', _, rfl⟩ := h; exact hq
theorem FR.thenS {σ : Ren} {f : Fl} {e : Exit} (h : FR σ f e) (hn : f ≠ .norm) {K : Act → List Frame → World → Prop} {Q : Exit → Act → List Frame → World → Prop} {a : Act} {cs : List Frame} {w : World} (hq : Q e a cs w) : Exit.thenS K Q e a cs w := by
  cases f with
  | norm => exact absurd rfl hn
  | exit n => cases h; exact hq
  | ret => cases h; exact hq
  | pan v => obtain ⟨v', _, rfl⟩ := h; exact hq
def UZ (σ : Ren) : Option AV → FrameMode → Prop
  | none, u => u = .returning
  | some v, u => ∃ v', VR σ v v' ∧ u = .panicking [{ v := v', recovered := false }]
theorem UZ.ur {σ : Ren} {r : Option AV} {u : FrameMode} (h : UZ σ r u) : UR σ r u := by
  cases r with
  | none => exact .inl h
  | some v => exact h
theorem UR.settle {σ : Ren} {r : Option AV} {u : FrameMode} (h : UR σ r u) : UZ σ r (settle u) := by
  cases r with
  | none =>
    rcases h with rfl | ⟨v', rfl⟩ <;> rfl
  | some v =>
    obtain ⟨v', h1, rfl⟩ := h
    exact ⟨v', h1, rfl⟩
structure LvOk (P : Program) (L : Lv) : Prop where
  cl : ClFull P L.call
  egrow : ∀ c s rc f s' rc', L.exec c s rc = .ok f s' rc' → Grow s.h s'.h
  roff : ∀ c s f s' rc', L.exec c s .off = .ok f s' rc' → rc' = .off
  ron : ∀ c s r f s' rc', L.exec c s (.on r) = .ok f s' rc' → ∃ r', rc' = .on r'
  off : ∀ N (c : Code) s f s' rc', L.exec (compC P N c) s .off = .ok f s' rc' → ∀ σ a w, Pre N σ s a w → Fresh σ s.h.next s'.h.next → wpL P c (Post N σ s.h w f s') a w
  on : ∀ N (c : Code) s f s' r r', L.exec (compC P N c) s (.on r) = .ok f s' (.on r') → ∀ σ a w (c0 : Frame) (cs0 : List Frame) u, Pre N σ s a w → UR σ r u → Fresh σ s.h.next s'.h.next →
    c.wpS P (PostS N c0 cs0 σ s.h w f s' r') a ({ c0 with mode := u } :: cs0) w
  dgrow : ∀ f args h u h' u', L.callD f args h u = some (h', u') → Grow h h'
  dok : ∀ f args h u h' u', L.callD f args h u = some (h', u') → ∀ σ w args' um, HR σ h w → LR σ args args' → UZ σ u um → Fresh σ h.next h'.next →
    (callFunc f args'.toArray).run P w = .ok (.enter f args'.toArray) w ∧ CallsD P f args'.toArray um w fun e um' w' => ∃ v' σ', e = .returned v' ∧ UR σ' u' um' ∧ HR σ' h' w' ∧ Ext σ σ' h h' w w'
section
variable {P : Program} {cx : Cx} {L : Lv}
theorem compOps_get2 {N : Nat} {ops : Array Oper} {cs : List CR} (h : compOps P N ops ops.toList = some cs) : ∀ (j : Nat) (c : CR), cs[j]? = some c → ∃ o, ops[0 + j]? = some o ∧ compOp P N ops o = some c := by
  intro j c hj
  have hlen := compOps_len h
  have hlt : j < cs.length := by
    rcases Nat.lt_or_ge j cs.length with q | q
    · exact q
    · rw [List.getElem?_eq_none q] at hj; cases hj
  have hlt2 : j < ops.toList.length := by omega
  exact ⟨ops.toList[j], by rw [Nat.zero_add, ← Array.getElem?_toList, List.getElem?_eq_getElem hlt2], compOps_get h j _ c (List.getElem?_eq_getElem hlt2) hj⟩
theorem exec_stuck {s : S} {rc : Rc} {q : Rs} (h : execL cx L stuckC s rc = q) : q = .no := by
  rw [← h]; rfl
theorem execL_grow (hL : LvOk P L) (c : CC) (s : S) (rc : Rc) (f : Fl) (s' : S) (rc' : Rc) (h : execL cx L c s rc = .ok f s' rc') : Grow s.h s'.h := by
  cases c with
  | skip => simp only [execL, Rs.ok.injEq] at h; obtain ⟨_, rfl, _⟩ := h; exact Grow.refl _
  | reg ops => exact regA_grow hL.cl _ _ _ _ _ _ h
  | draw ops two => exact drawA_grow hL.cl.toClOk h
  | seq a b =>
    simp only [execL] at h
    split at h
    · rename_i e; exact (hL.egrow _ _ _ _ _ _ e).trans (hL.egrow _ _ _ _ _ _ h)
    · exact hL.egrow _ _ _ _ _ _ h
  | cond c t e =>
    simp only [execL] at h
    split at h
    · exact hL.egrow _ _ _ _ _ _ h
    · cases h
  | block id body =>
    simp only [execL] at h
    split at h
    · rename_i e
      split at h
      · simp only [Rs.ok.injEq] at h; obtain ⟨_, rfl, _⟩ := h; exact hL.egrow _ _ _ _ _ _ e
      · simp only [Rs.ok.injEq] at h; obtain ⟨_, rfl, _⟩ := h; exact hL.egrow _ _ _ _ _ _ e
    · exact hL.egrow _ _ _ _ _ _ h
    · cases h
  | loop body =>
    simp only [execL] at h
    split at h
    · rename_i e; exact (hL.egrow _ _ _ _ _ _ e).trans (hL.egrow _ _ _ _ _ _ h)
    · exact hL.egrow _ _ _ _ _ _ h
    · cases h
  | exit id =>
    simp only [execL] at h
    split at h
    · simp only [Rs.ok.injEq] at h; obtain ⟨_, rfl, _⟩ := h; exact Grow.refl _
    · cases h
  | ret =>
    simp only [execL] at h
    split at h
    · simp only [Rs.ok.injEq] at h; obtain ⟨_, rfl, _⟩ := h; exact Grow.refl _
    · cases h
theorem regA_off {cl : Nat → List AV → H → Cr} : ∀ (cs : List CR) (s : S) (f : Fl) (s' : S) (rc' : Rc), regA cl cs s .off = .ok f s' rc' → rc' = .off
  | [], s, f, s', rc', h => by simp only [regA, Rs.ok.injEq] at h; exact h.2.2.symm
  | o :: rest, s, f, s', rc', h => by
    simp only [regA] at h
    split at h
    · cases h
    · split at h
      · exact regA_off rest _ _ _ _ h
      · split at h
        · exact regA_off rest _ _ _ _ h
        · exact regA_off rest _ _ _ _ h
        · split at h
          · exact regA_off rest _ _ _ _ h
          · simp only [Rs.ok.injEq] at h; exact h.2.2.symm
          · cases h
        · exact regA_off rest _ _ _ _ h
        · cases h
        · simp only [Rs.ok.injEq] at h; exact h.2.2.symm
        · cases h
theorem execL_off (hL : LvOk P L) (c : CC) (s : S) (f : Fl) (s' : S) (rc' : Rc) (h : execL cx L c s .off = .ok f s' rc') : rc' = .off := by
  cases c with
  | skip => simp only [execL, Rs.ok.injEq] at h; exact h.2.2.symm
  | reg ops => exact regA_off _ _ _ _ _ h
  | draw ops two => exact (draw_out h).2.2
  | seq a b =>
    simp only [execL] at h
    split at h
    · rename_i e; have := hL.roff _ _ _ _ _ e; subst this; exact hL.roff _ _ _ _ _ h
    · exact hL.roff _ _ _ _ _ h
  | cond c t e =>
    simp only [execL] at h
    split at h
    · exact hL.roff _ _ _ _ _ h
    · cases h
  | block id body =>
    simp only [execL, isOn] at h
    split at h
    · rename_i e
      split at h
      · simp only [Rs.ok.injEq] at h; rw [← h.2.2]; exact hL.roff _ _ _ _ _ e
      · simp only [Rs.ok.injEq] at h; rw [← h.2.2]; exact hL.roff _ _ _ _ _ e
    · exact hL.roff _ _ _ _ _ h
    · cases h
  | loop body =>
    simp only [execL, isOn] at h
    split at h
    · rename_i e; have := hL.roff _ _ _ _ _ e; subst this; exact hL.roff _ _ _ _ _ h
    · exact hL.roff _ _ _ _ _ h
    · cases h
  | exit id => simp only [execL, isOn, Rs.ok.injEq] at h; exact h.2.2.symm
  | ret => simp only [execL, isOn, Rs.ok.injEq] at h; exact h.2.2.symm
theorem execL_on (hL : LvOk P L) (c : CC) (s : S) (r : Option AV) (f : Fl) (s' : S) (rc' : Rc) (h : execL cx L c s (.on r) = .ok f s' rc') : ∃ r', rc' = .on r' := by
  cases c with
  | skip => simp only [execL, Rs.ok.injEq] at h; exact ⟨r, h.2.2.symm⟩
  | reg ops => exact regA_on hL.cl _ _ _ _ _ _ h
  | draw ops two => exact ⟨r, (draw_out h).2.2⟩
  | seq a b =>
    simp only [execL] at h
    split at h
    · rename_i e; obtain ⟨r1, q⟩ := hL.ron _ _ _ _ _ _ e; subst q; exact hL.ron _ _ _ _ _ _ h
    · exact hL.ron _ _ _ _ _ _ h
  | cond c t e =>
    simp only [execL] at h
    split at h
    · exact hL.ron _ _ _ _ _ _ h
    · cases h
  | block id body => simp only [execL, isOn] at h; cases h
  | loop body => simp only [execL, isOn] at h; cases h
  | exit id => simp only [execL, isOn] at h; cases h
  | ret => simp only [execL, isOn] at h; cases h
theorem cond_val {σ : Ren} {ts : TS} {a : Act} (htr : TR σ ts a.tmps) {c : Operand} {b : Bool} (h : evA ts (opd c) = .bool b) : a.eval c = .bool b := by
  have := evA_ok htr c
  rw [h] at this
  generalize a.eval c = X at this
  cases this; rfl
theorem exec_off (hmix : P.follows .mixedOrders = true) (hL : LvOk P L) (N : Nat) (c : Code) (s : S) (f : Fl) (s' : S) (rc' : Rc) (h : execL cx L (compC P N c) s .off = .ok f s' rc') (σ : Ren) (a : Act) (w : World) (p : Pre N σ s a w) (hf : Fresh σ s.h.next s'.h.next) :
    wpL P c (Post N σ s.h w f s') a w := by
  have bad : execL cx L stuckC s .off = .ok f s' rc' → False := fun h => by have := exec_stuck h; cases this
  cases c <;> (try simp only [compC] at h) <;> first | exact (bad h).elim | skip
  case skip =>
    simp only [execL, Rs.ok.injEq] at h
    obtain ⟨rfl, rfl, rfl⟩ := h
    exact wp_skip ⟨σ, rfl, p, Ext.refl _ _ _⟩
  case label l =>
    simp only [execL, Rs.ok.injEq] at h
    obtain ⟨rfl, rfl, rfl⟩ := h
    exact wp_label ⟨σ, rfl, p, Ext.refl _ _ _⟩
  case region id ops draw =>
    cases draw with
    | false =>
      simp only [compC] at h
      split at h
      · rename_i l hl
        have := (reg_ok hL.cl l 0 (compOps_get2 hl) s f s' rc' σ a w h p hf).2
        refine wp_region ?_
        rw [List.range_eq_range', ← Array.length_toList, ← compOps_len hl]
        exact this
      · exact (bad h).elim
    | true =>
      simp only [compC] at h
      rcases draw_facts (P := P) (N := N) (ops := ops) with hd | ⟨l, two, hd, _⟩
      · rw [hd] at h; exact (bad h).elim
      · rw [hd] at h
        change drawA L.call (wins l l 0) two s .off = _ at h
        obtain ⟨rfl, hds, rfl⟩ := draw_out h
        exact draw_ok hL.cl.toClOk hmix hd h p.tr p.hr p.sz hf fun σ' a' w' q1 q2 q3 q4 q5 => ⟨σ', rfl, ⟨q1, q3, q4, by rw [hds, q5]; exact p.ds.mono q2.le⟩, q2⟩
  case seq x y =>
    simp only [execL] at h
    split at h
    · rename_i s1 rc1 e
      have hr := hL.roff _ _ _ _ _ e
      subst hr
      have hg := hL.egrow _ _ _ _ _ _ h
      refine wp_seq (wp_mono (hL.off N x _ _ _ _ e σ a w p (hf.left hg.next)).wp fun e1 a1 w1 hq => ?_)
      obtain ⟨σ1, q1, q2, q3⟩ := hq
      cases q1
      exact wp_mono (hL.off N y _ _ _ _ h σ1 a1 w1 q2 (hf.step q3 hg.next)).wp fun e2 a2 w2 hq2 => Post.step q3 hq2
    · rename_i hne
      refine wp_seq (wp_mono (hL.off N x _ _ _ _ h σ a w p hf).wp fun e1 a1 w1 hq => ?_)
      obtain ⟨σ1, q1, q2, q3⟩ := hq
      exact q1.then (fun e => hne s' rc' (by rw [← e]; exact h)) ⟨σ1, q1, q2, q3⟩
  case cond c x y =>
    simp only [execL] at h
    split at h
    · rename_i b hb
      refine wp_cond (cond_val p.tr hb) ?_
      cases b with
      | true => exact (hL.off N x _ _ _ _ h σ a w p hf).wp
      | false => exact (hL.off N y _ _ _ _ h σ a w p hf).wp
    · cases h
  case block id body =>
    simp only [execL, isOn] at h
    split at h
    · rename_i i s1 rc1 hoff e
      have hg : s1 = s' := by
        split at h <;> (simp only [Rs.ok.injEq] at h; exact h.2.1)
      subst hg
      refine wp_block (wp_mono (hL.off N body _ _ _ _ e σ a w p hf).wp fun e1 a1 w1 hq => ?_)
      obtain ⟨σ1, q1, q2, q3⟩ := hq
      cases q1
      split at h
      · rename_i hb
        simp only [Rs.ok.injEq] at h
        obtain ⟨rfl, _, _⟩ := h
        simp only [Exit.inBlock, Nat.eq_of_beq_eq_true hb, if_true]
        exact ⟨σ1, rfl, q2, q3⟩
      · rename_i hb
        simp only [Rs.ok.injEq] at h
        obtain ⟨rfl, _, _⟩ := h
        have hne : i ≠ id := by rintro rfl; rw [Nat.beq_refl] at hb; cases hb
        simp only [Exit.inBlock, if_neg hne]
        exact ⟨σ1, rfl, q2, q3⟩
    · rename_i hne
      refine wp_block (wp_mono (hL.off N body _ _ _ _ h σ a w p hf).wp fun e1 a1 w1 hq => ?_)
      obtain ⟨σ1, q1, q2, q3⟩ := hq
      cases f with
      | norm => cases q1; exact ⟨σ1, rfl, q2, q3⟩
      | exit n => exact (hne n s' rc' h).elim
      | ret => cases q1; exact ⟨σ1, rfl, q2, q3⟩
      | pan v => obtain ⟨v', k, rfl⟩ := q1; exact ⟨σ1, ⟨v', k, rfl⟩, q2, q3⟩
    · cases h
  case loop body =>
    simp only [execL, isOn] at h
    split at h
    · rename_i s1 rc1 hoff e
      have hr := hL.roff _ _ _ _ _ e
      subst hr
      have hg := hL.egrow _ _ _ _ _ _ h
      refine LoopWp.round (wp_mono (hL.off N body _ _ _ _ e σ a w p (hf.left hg.next)).wp fun e1 a1 w1 hq => ?_)
      obtain ⟨σ1, q1, q2, q3⟩ := hq
      cases q1
      have := hL.off N (.loop body) s1 f s' rc' h σ1 a1 w1 q2 (hf.step q3 hg.next)
      intro b k cs
      obtain ⟨e2, a2, w2, h2, h3⟩ := this b k cs
      exact ⟨e2, a2, w2, Post.step q3 h2, h3⟩
    · rename_i hne
      refine LoopWp.round (wp_mono (hL.off N body _ _ _ _ h σ a w p hf).wp fun e1 a1 w1 hq => ?_)
      obtain ⟨σ1, q1, q2, q3⟩ := hq
      exact q1.then (fun e => hne s' rc' (by rw [← e]; exact h)) ⟨σ1, q1, q2, q3⟩
    · cases h
  case exit id =>
    simp only [execL, isOn, Rs.ok.injEq] at h
    obtain ⟨rfl, rfl, rfl⟩ := h
    exact wp_exit ⟨σ, rfl, p, Ext.refl _ _ _⟩
  case ret =>
    simp only [execL, isOn, Rs.ok.injEq] at h
    obtain ⟨rfl, rfl, rfl⟩ := h
    exact wp_ret ⟨σ, rfl, p, Ext.refl _ _ _⟩
theorem exec_on (hmix : P.follows .mixedOrders = true) (hL : LvOk P L) (N : Nat) (c : Code) (s : S) (f : Fl) (s' : S) (r r' : Option AV) (h : execL cx L (compC P N c) s (.on r) = .ok f s' (.on r')) (σ : Ren) (a : Act) (w : World) (c0 : Frame) (cs0 : List Frame) (u : FrameMode)
    (p : Pre N σ s a w) (hu : UR σ r u) (hf : Fresh σ s.h.next s'.h.next) : c.wpS P (PostS N c0 cs0 σ s.h w f s' r') a ({ c0 with mode := u } :: cs0) w := by
  have bad : execL cx L stuckC s (.on r) = .ok f s' (.on r') → False := fun h => by have := exec_stuck h; cases this
  cases c <;> (try simp only [compC] at h) <;> first | exact (bad h).elim | skip
  case skip =>
    simp only [execL, Rs.ok.injEq, Rc.on.injEq] at h
    obtain ⟨rfl, rfl, rfl⟩ := h
    exact wpS_of_wp (wp_skip ⟨σ, u, rfl, hu, rfl, p, Ext.refl _ _ _⟩)
  case label l =>
    simp only [execL, Rs.ok.injEq, Rc.on.injEq] at h
    obtain ⟨rfl, rfl, rfl⟩ := h
    exact wpS_of_wp (wp_label ⟨σ, u, rfl, hu, rfl, p, Ext.refl _ _ _⟩)
  case region id ops draw =>
    cases draw with
    | false =>
      simp only [compC] at h
      split at h
      · rename_i l hl
        have := regS_ok hL.cl c0 cs0 l 0 (compOps_get2 hl) s f s' r r' σ a u w h p hu hf
        refine wpS_region ?_
        rw [List.range_eq_range', ← Array.length_toList, ← compOps_len hl]
        exact this
      · exact (bad h).elim
    | true =>
      simp only [compC] at h
      rcases draw_facts (P := P) (N := N) (ops := ops) with hd | ⟨l, two, hd, _⟩
      · rw [hd] at h; exact (bad h).elim
      · rw [hd] at h
        change drawA L.call (wins l l 0) two s (.on r) = _ at h
        obtain ⟨rfl, hds, hrr⟩ := draw_out h
        simp only [Rc.on.injEq] at hrr
        subst hrr
        exact wpS_of_wp (draw_ok hL.cl.toClOk hmix hd h p.tr p.hr p.sz hf fun σ' a' w' q1 q2 q3 q4 q5 => ⟨σ', u, rfl, hu.mono q2.le, rfl, ⟨q1, q3, q4, by rw [hds, q5]; exact p.ds.mono q2.le⟩, q2⟩)
  case seq x y =>
    simp only [execL] at h
    split at h
    · rename_i s1 rc1 e
      obtain ⟨r1, hr⟩ := hL.ron _ _ _ _ _ _ e
      subst hr
      have hg := hL.egrow _ _ _ _ _ _ h
      refine wpS_seq ?_
      intro b k hb hro
      obtain ⟨e1, a1, cs1, w1, hq, harr⟩ := hL.on N x _ _ _ _ _ e σ a w c0 cs0 u p hu (hf.left hg.next) b k hb hro
      refine ⟨e1, a1, cs1, w1, ?_, harr⟩
      obtain ⟨σ1, u1, rfl, hu1, q1, q2, q3⟩ := hq
      cases q1
      intro b2 k2 hb2 hro2
      obtain ⟨e2, a2, cs2, w2, hq2, harr2⟩ := hL.on N y _ _ _ _ _ h σ1 a1 w1 c0 cs0 u1 q2 hu1 (hf.step q3 hg.next) b2 k2 hb2 hro2
      exact ⟨e2, a2, cs2, w2, PostS.step q3 hq2, harr2⟩
    · rename_i hne
      refine wpS_seq ?_
      intro b k hb hro
      obtain ⟨e1, a1, cs1, w1, hq, harr⟩ := hL.on N x _ _ _ _ _ h σ a w c0 cs0 u p hu hf b k hb hro
      refine ⟨e1, a1, cs1, w1, ?_, harr⟩
      obtain ⟨σ1, u1, q0, hu1, q1, q2, q3⟩ := hq
      exact q1.thenS (fun e => hne s' _ (by rw [← e]; exact h)) ⟨σ1, u1, q0, hu1, q1, q2, q3⟩
  case cond c x y =>
    simp only [execL] at h
    split at h
    · rename_i b hb
      refine wpS_cond (cond_val p.tr hb) ?_
      cases b with
      | true => exact hL.on N x _ _ _ _ _ h σ a w c0 cs0 u p hu hf
      | false => exact hL.on N y _ _ _ _ _ h σ a w c0 cs0 u p hu hf
    · cases h
  all_goals (simp only [execL, isOn] at h; cases h)
end
end Go.Ab
namespace Go.Ab
structure CxOk (P : Program) (cx : Cx) : Prop where
  fn : ∀ f cf, cx.fn f = some cf → ∃ fn, P.funcs[f]? = some fn ∧ comp P fn = some cf
  growE : ∀ f e, cx.ext f = some e → ∀ args h v h', e args h = some (v, h') → Grow h h'
  ext : ∀ f e, cx.ext f = some e → ∀ args h v h', e args h = some (v, h') → ∀ σ w args', HR σ h w → LR σ args args' → Fresh σ h.next h'.next → CallRet P σ h w f args'.toArray v h'
theorem comp_inv {P : Program} {fn : Func} {cf : CFn} (h : comp P fn = some cf) : ∃ c r, fn.body = some c ∧ compR P fn.results.toList = some r ∧ (fn.name == "runtime.NumGoroutine") = false ∧ cf.body = compC P fn.ntmps c ∧ cf.ntmps = fn.ntmps ∧ cf.results = r := by
  unfold comp at h
  split at h
  · rename_i c r h1 h2
    split at h
    · cases h
    · rename_i h3
      injection h with h; subst h
      exact ⟨c, r, h1, h2, by simpa using h3, rfl, rfl, rfl⟩
  · cases h
theorem callFunc_enter {P : Program} {f : Nat} {fn : Func} {c : Code} {w : World} {args : Array Value} (hf : P.funcs[f]? = some fn) (hb : fn.body = some c) (hn : (fn.name == "runtime.NumGoroutine") = false) :
    (callFunc f args).run P w = .ok (.enter f args) w := by
  have hn' : ¬ fn.name = "runtime.NumGoroutine" := by simpa using hn
  simp [callFunc, hf, hb, hn']
theorem putArgs_get : ∀ (l : List AV) (n : Nat) (ts : TS) (t : Nat), (putArgs l n ts).get t = if t < n then ts.get t else match l[t - n]? with | some v => some v | none => ts.get t
  | [], n, ts, t => by simp [putArgs]
  | v :: r, n, ts, t => by
    simp only [putArgs, putArgs_get r (n + 1), Tr.get_set]
    by_cases h : t < n
    · simp [h, Nat.lt_succ_of_lt h, Nat.ne_of_lt h]
    · by_cases e : t = n
      · subst e; simp
      · have h1 : ¬ t < n + 1 := by omega
        have h2 : t - n = (t - (n + 1)) + 1 := by omega
        simp [h, h1, e, h2]
theorem enter_tr {σ : Ren} {args : List AV} {args' : List Value} (hl : LR σ args args') (h : H) (n : Nat) : TR σ (startA args h).ts (args'.toArray ++ Array.replicate (n - args'.toArray.size) undef) := by
  intro t v hv
  simp only [startA, putArgs_get] at hv
  simp at hv
  have hn : Tr.get (Tr.leaf : Tr AV) t = none := rfl
  rw [hn] at hv
  cases e : args[t]? with
  | none => rw [e] at hv; cases hv
  | some u =>
    rw [e] at hv; injection hv with hv; subst hv
    obtain ⟨v', h1, h2⟩ := hl.get e
    refine ⟨v', ?_, h2⟩
    have hlt : t < args'.length := by
      rcases Nat.lt_or_ge t args'.length with q | q
      · exact q
      · rw [List.getElem?_eq_none q] at h1; cases h1
    rw [Array.getElem?_append_left (by simpa using hlt)]
    simpa using h1
theorem enter_pre {σ : Ren} {args : List AV} {args' : List Value} {h : H} {w : World} (r : HR σ h w) (hl : LR σ args args') {n : Nat} (hn : args.length ≤ n) :
    Pre n σ (startA args h) { tmps := args'.toArray ++ Array.replicate (n - args'.toArray.size) undef, defers := [] } w := by
  refine ⟨r, enter_tr hl h n, ?_, trivial⟩
  have := hl.1
  simp; omega
theorem loadVar_of {P : Program} {σ : Ren} {h : H} {w : World} (r : HR σ h w) {t : TypeId} {s : Nat} {g : Bool} (hs : sizeT P t = some s) (hg : isAggT P t = some g) {b o : Nat} {v : AV} {x : Value} (hx : VR σ (.ptr b o) x) (hv : loadA s g h b o = some v) :
    Gives P σ w (do loadVar t (← asAddr x)) v := by
  obtain ⟨v', h1, h2⟩ := load_sim r hs hg hx hv
  refine ⟨v', ?_, h2⟩
  cases hx
  simpa [Instr.loadAt, Instr.sureAddr, asAddr] using h1
def resF (tmps : Array Value) : ResultVar → Sem Value
  | .tmp t => pure (tmps.getD t undef)
  | .cell a t => do loadVar t (← asAddr (tmps.getD a undef))
theorem resA_ok {P : Program} {σ : Ren} {h : H} {w : World} (r : HR σ h w) {ts : TS} {tmps : Array Value} (htr : TR σ ts tmps) : ∀ (rs : List ResultVar) (cr : List (Nat × Option (Nat × Bool))) (l : List AV),
    compR P rs = some cr → resA ts h cr = some l → ∃ vs, (rs.mapM (resF tmps)).run P w = .ok vs w ∧ LR σ l vs
  | [], cr, l, hc, hl => by
    simp [compR] at hc; subst hc
    simp [resA] at hl; subst hl
    exact ⟨[], rfl, LR.nil σ⟩
  | .tmp t :: rs, cr, l, hc, hl => by
    simp only [compR] at hc
    cases e : compR P rs with
    | none => simp [e] at hc
    | some cr' =>
      simp only [e, Option.map_some, Option.some.injEq] at hc
      subst hc
      simp only [resA] at hl
      split at hl
      · rename_i l' e2
        injection hl with hl; subst hl
        obtain ⟨vs, h1, h2⟩ := resA_ok r htr rs cr' l' e e2
        refine ⟨tmps.getD t undef :: vs, ?_, LR.cons ?_ h2⟩
        · rw [List.mapM_cons]; simp only [Sem.run_bind, resF, Sem.run_pure, Result.andThen_ok]; rw [h1]; rfl
        · have := evA_ok (a := ⟨tmps, []⟩) htr (.tmp t)
          exact this
      · cases hl
  | .cell a t :: rs, cr, l, hc, hl => by
    simp only [compR] at hc
    split at hc
    · rename_i s g cr' e1 e2 e3
      injection hc with hc; subst hc
      simp only [resA] at hl
      split at hl
      · rename_i b o l' e4 e5
        split at hl
        · rename_i v e6
          injection hl with hl; subst hl
          obtain ⟨vs, h1, h2⟩ := resA_ok r htr rs cr' l' e3 e5
          have hx := evA_ok (a := ⟨tmps, []⟩) htr (.tmp a)
          change VR σ (evA ts (.t a)) (tmps.getD a undef) at hx
          rw [e4] at hx
          obtain ⟨v', k1, k2⟩ := loadVar_of r e1 e2 hx e6
          refine ⟨v' :: vs, ?_, LR.cons k2 h2⟩
          rw [List.mapM_cons, Sem.run_bind]
          change (resF tmps (.cell a t)).run P w = _ at k1
          rw [k1]
          simp only [Sem.run_bind, Sem.run_pure, Result.andThen_ok]
          rw [h1]; rfl
        · cases hl
      · cases hl
    · cases hc
theorem results_ok {P : Program} {σ : Ren} {h : H} {w : World} (r : HR σ h w) {ts : TS} {tmps : Array Value} (htr : TR σ ts tmps) {fn : Func} {cr : List (Nat × Option (Nat × Bool))} {l : List AV}
    (hc : compR P fn.results.toList = some cr) (hl : resA ts h cr = some l) : ∃ v', (results fn tmps).run P w = .ok v' w ∧ VR σ (tupA l) v' := by
  obtain ⟨vs, h1, h2⟩ := resA_ok r htr _ _ _ hc hl
  have hrun : (results fn tmps).run P w = .ok (if h : vs.toArray.size = 1 then vs.toArray[0] else .tuple vs.toArray) w := by
    change (do let vs ← fn.results.mapM (resF tmps); pure (if h : vs.size = 1 then vs[0] else .tuple vs) : Sem Value).run P w = _
    rw [Array.mapM_eq_mapM_toList]
    rw [Sem.run_bind]
    have : (List.toArray <$> fn.results.toList.mapM (resF tmps)).run P w = .ok vs.toArray w := by
      rw [map_eq_pure_bind, Sem.run_bind, h1]; rfl
    rw [this]
    rfl
  refine ⟨_, hrun, ?_⟩
  match l, vs, h2 with
  | [], [], _ => exact VR.mk_tup (LR.nil σ)
  | [a], [b], h2 => obtain ⟨v', r', e, k1, k2⟩ := h2.cons_inv; injection e with e1 e2; subst e1; exact k1
  | [], _ :: _, h2 => have := h2.1; simp at this
  | [_], [], h2 => have := h2.1; simp at this
  | [_], _ :: _ :: _, h2 => have := h2.1; simp at this
  | _ :: _ :: _, [], h2 => have := h2.1; simp at this
  | _ :: _ :: _, [_], h2 => have := h2.1; simp at this
  | a :: b :: r, a' :: b' :: r', h2 =>
    have : ¬ (a' :: b' :: r').toArray.size = 1 := by simp
    rw [dif_neg this]
    exact VR.mk_tup h2
end Go.Ab
namespace Go.Ab
def CrR (σ : Ren) (h : H) (w : World) : Cr → Ending → World → Prop
  | .ret v h', e, w' => ∃ v' σ', e = .returned v' ∧ VR σ' v v' ∧ HR σ' h' w' ∧ Ext σ σ' h h' w w'
  | .pan v h', e, w' => ∃ v' σ', e = .panicked [{ v := v', recovered := false }] ∧ VR σ' v v' ∧ HR σ' h' w' ∧ Ext σ σ' h h' w w'
  | .no, _, _ => False
def CrGrow (h : H) : Cr → Prop
  | .ret _ h' => Grow h h'
  | .pan _ h' => Grow h h'
  | .no => True
def CrFresh (σ : Ren) (n : Nat) : Cr → Prop
  | .ret _ h' => Fresh σ n h'.next
  | .pan _ h' => Fresh σ n h'.next
  | .no => True
theorem CrR.step {σ σ1 : Ren} {h h1 : H} {w w1 : World} {r : Cr} {e : Ending} {w' : World} (x : Ext σ σ1 h h1 w w1) (p : CrR σ1 h1 w1 r e w') : CrR σ h w r e w' := by
  cases r with
  | ret v h' => obtain ⟨v', σ', a, b, c, d⟩ := p; exact ⟨v', σ', a, b, c, x.trans d⟩
  | pan v h' => obtain ⟨v', σ', a, b, c, d⟩ := p; exact ⟨v', σ', a, b, c, x.trans d⟩
  | no => exact p.elim
section
variable {P : Program} {cx : Cx} {L : Lv}
theorem leaveA_grow (hL : LvOk P L) (cf : CFn) : ∀ (ds : List (Nat × List AV)) (ts : TS) (h : H) (u : Option AV), CrGrow h (leaveA L.callD cf ds ts h u)
  | [], ts, h, none => by
    simp only [leaveA]
    split
    · exact Grow.refl _
    · trivial
  | [], ts, h, some v => Grow.refl _
  | d :: ds, ts, h, u => by
    simp only [leaveA]
    split
    · rename_i h' u' e
      have h1 := hL.dgrow _ _ _ _ _ _ e
      have h2 := leaveA_grow hL cf ds ts h' u'
      generalize leaveA L.callD cf ds ts h' u' = q at h2
      cases q with
      | ret v h3 => exact Grow.trans h1 h2
      | pan v h3 => exact Grow.trans h1 h2
      | no => trivial
    · trivial
theorem leaves_ok (hL : LvOk P L) {fn : Func} {cf : CFn} (hc : compR P fn.results.toList = some cf.results) (tmps : Array Value) (ts : TS) (R : Ending → World → Prop) : ∀ (ds : List (Nat × List AV)) (ds' : List Deferred) (h : H) (u : Option AV) (um : FrameMode) (w : World) (σ : Ren),
    (∀ e w', CrR σ h w (leaveA L.callD cf ds ts h u) e w' → R e w') → leaveA L.callD cf ds ts h u ≠ .no → DsR σ ds ds' → TR σ ts tmps → HR σ h w → UZ σ u um → CrFresh σ h.next (leaveA L.callD cf ds ts h u) →
    Leaves P fn tmps R ds' um w
  | [], ds', h, u, um, w, σ, hR, hne, hds, htr, hr, hu, hf => by
    cases ds' with
    | cons d ds' => exact hds.elim
    | nil =>
      cases u with
      | none =>
        cases hu
        simp only [leaveA] at hR hne
        cases e : resA ts h cf.results with
        | none => simp [e] at hne
        | some l =>
          simp only [e] at hR
          obtain ⟨v', h1, h2⟩ := results_ok hr htr hc e
          exact ⟨v', h1, hR _ _ ⟨v', σ, rfl, h2, hr, Ext.refl _ _ _⟩⟩
      | some v =>
        obtain ⟨v', h1, rfl⟩ := hu
        exact hR _ _ ⟨v', σ, rfl, h1, hr, Ext.refl _ _ _⟩
  | d :: ds, ds', h, u, um, w, σ, hR, hne, hds, htr, hr, hu, hf => by
    cases ds' with
    | nil => exact hds.elim
    | cons d' ds' =>
      obtain ⟨⟨cap, q1, q2⟩, q3⟩ := hds
      simp only [leaveA] at hR hne hf
      split at hne
      · rename_i h1 u1 e
        simp only [e] at hR hf
        have hg := leaveA_grow hL cf ds ts h1 u1
        have hfr : Fresh σ h.next h1.next ∧ ∀ σ1 w1, Ext σ σ1 h h1 w w1 → CrFresh σ1 h1.next (leaveA L.callD cf ds ts h1 u1) := by
          generalize leaveA L.callD cf ds ts h1 u1 = q at hg hf hne
          cases q with
          | ret v h3 => exact ⟨Fresh.left hf hg.next, fun σ1 w1 x => Fresh.step hf x hg.next⟩
          | pan v h3 => exact ⟨Fresh.left hf hg.next, fun σ1 w1 x => Fresh.step hf x hg.next⟩
          | no => exact absurd rfl hne
        obtain ⟨m1, m2⟩ := hL.dok _ _ _ _ _ _ e σ w _ um hr q2 hu hfr.1
        refine ⟨?_, .func d.1, cap, d.1, (d'.args.toList ++ cap.toList).toArray, q1, ?_, ?_⟩
        · cases u with
          | none => cases hu; intro h; cases h
          | some v => obtain ⟨v', _, rfl⟩ := hu; intro h; cases h
        · rw [q1]
          have : d'.args ++ cap = (d'.args.toList ++ cap.toList).toArray := by apply Array.ext'; simp
          simp only [invoke, this]
          exact m1
        · refine CallsD.mono m2 fun e' u' w' he => ?_
          obtain ⟨v', σ', rfl, k1, k2, k3⟩ := he
          exact leaves_ok hL hc tmps ts R ds ds' h1 u1 (settle u') w' σ' (fun e2 w2 hc2 => hR e2 w2 (CrR.step k3 hc2)) hne (q3.mono k3.le) (htr.mono k3.le) k2 k1.settle (hfr.2 σ' w' k3)
      · exact absurd rfl hne
theorem body_leaves (hL : LvOk P L) {fn : Func} {cf : CFn} (hc : compR P fn.results.toList = some cf.results) {N : Nat} {σ σ1 : Ren} {h : H} {w w1 : World} {f : Fl} {s' : S} {e : Exit} {a1 : Act} {u : Option AV}
    (hfl : (f = .norm ∧ u = none) ∨ (f = .ret ∧ u = none) ∨ ∃ v, f = .pan v ∧ u = some v) (hne : leaveA L.callD cf s'.ds s'.ts s'.h u ≠ .no) (hfr : CrFresh σ h.next (leaveA L.callD cf s'.ds s'.ts s'.h u))
    (q1 : FR σ1 f e) (q2 : Pre N σ1 s' a1 w1) (q3 : Ext σ σ1 h s'.h w w1) : bodyPostD P fn (CrR σ h w (leaveA L.callD cf s'.ds s'.ts s'.h u)) e a1 w1 := by
  have hg := leaveA_grow hL cf s'.ds s'.ts s'.h u
  have hfr1 : CrFresh σ1 s'.h.next (leaveA L.callD cf s'.ds s'.ts s'.h u) := by
    generalize leaveA L.callD cf s'.ds s'.ts s'.h u = q at hg hfr hne
    cases q with
    | ret v h3 => exact Fresh.step hfr q3 hg.next
    | pan v h3 => exact Fresh.step hfr q3 hg.next
    | no => exact absurd rfl hne
  have go : ∀ um, UZ σ1 u um → Leaves P fn a1.tmps (CrR σ h w (leaveA L.callD cf s'.ds s'.ts s'.h u)) a1.defers um w1 := fun um hu =>
    leaves_ok hL hc a1.tmps s'.ts _ s'.ds a1.defers s'.h u um w1 σ1 (fun e2 w2 hc2 => CrR.step q3 hc2) hne q2.ds q2.tr q2.hr hu hfr1
  rcases hfl with ⟨rfl, rfl⟩ | ⟨rfl, rfl⟩ | ⟨v, rfl, rfl⟩
  · cases q1; exact go .returning rfl
  · cases q1; exact go .returning rfl
  · obtain ⟨v', k1, rfl⟩ := q1
    exact go _ ⟨v', k1, rfl⟩
theorem callL_fn (hx : CxOk P cx) (hL : LvOk P L) {f : Nat} {args : List AV} {h : H} {r : Cr} (hext : cx.ext f = none) (hr : callL cx L f args h = r) (hne : r ≠ .no) :
    ∃ fn cf c s fl rc u, P.funcs[f]? = some fn ∧ comp P fn = some cf ∧ fn.body = some c ∧ compR P fn.results.toList = some cf.results ∧ (fn.name == "runtime.NumGoroutine") = false ∧ args.length ≤ fn.ntmps ∧ L.exec (compC P fn.ntmps c) (startA args h) .off = .ok fl s rc ∧
      ((fl = .norm ∧ u = none) ∨ (fl = .ret ∧ u = none) ∨ ∃ v, fl = .pan v ∧ u = some v) ∧ r = leaveA L.callD cf s.ds s.ts s.h u := by
  unfold callL at hr
  rw [hext] at hr
  simp only at hr
  split at hr
  · rename_i cf hcf
    obtain ⟨fn, h1, h2⟩ := hx.fn f cf hcf
    obtain ⟨c, rr, h3, h4, h5, h6, h7, h8⟩ := comp_inv h2
    rw [h6] at hr
    split at hr
    · rename_i s rc e1 e2
      exact ⟨fn, cf, c, s, .norm, rc, none, h1, h2, h3, by rw [h8]; exact h4, h5, by rw [← h7]; exact Nat.le_of_ble_eq_true e1, e2, .inl ⟨rfl, rfl⟩, hr.symm⟩
    · rename_i s rc e1 e2
      exact ⟨fn, cf, c, s, .ret, rc, none, h1, h2, h3, by rw [h8]; exact h4, h5, by rw [← h7]; exact Nat.le_of_ble_eq_true e1, e2, .inr (.inl ⟨rfl, rfl⟩), hr.symm⟩
    · rename_i v s rc e1 e2
      exact ⟨fn, cf, c, s, .pan v, rc, some v, h1, h2, h3, by rw [h8]; exact h4, h5, by rw [← h7]; exact Nat.le_of_ble_eq_true e1, e2, .inr (.inr ⟨v, rfl, rfl⟩), hr.symm⟩
    · exact absurd hr.symm hne
  · exact absurd hr.symm hne
theorem callL_grow (hx : CxOk P cx) (hL : LvOk P L) {f : Nat} {args : List AV} {h : H} : CrGrow h (callL cx L f args h) := by
  cases hext : cx.ext f with
  | some e =>
    unfold callL
    rw [hext]
    simp only
    split
    · rename_i v h' he; exact hx.growE f e hext _ _ _ _ he
    · trivial
  | none =>
    generalize hq : callL cx L f args h = q
    by_cases hne : q = .no
    · subst hne; trivial
    · obtain ⟨fn, cf, c, s, fl, rc, u, h1, h2, h3, h4, h5, h6, h7, h8, h9⟩ := callL_fn hx hL hext hq hne
      have hg1 := hL.egrow _ _ _ _ _ _ h7
      have hg2 := leaveA_grow hL cf s.ds s.ts s.h u
      rw [h9]
      generalize leaveA L.callD cf s.ds s.ts s.h u = z at hg2
      cases z with
      | ret v h3 => exact Grow.trans hg1 hg2
      | pan v h3 => exact Grow.trans hg1 hg2
      | no => trivial
theorem callL_ok (hmix : P.follows .mixedOrders = true) (hx : CxOk P cx) (hL : LvOk P L) {f : Nat} {args : List AV} {h : H} {r : Cr} (hr : callL cx L f args h = r) (hne : r ≠ .no) {σ : Ren} {w : World} {args' : List Value} (hh : HR σ h w) (hl : LR σ args args') (hf : CrFresh σ h.next r) :
    (callFunc f args'.toArray).run P w = .ok (.enter f args'.toArray) w ∧ Calls P f args'.toArray w (CrR σ h w r) := by
  cases hext : cx.ext f with
  | some e =>
    unfold callL at hr
    rw [hext] at hr
    simp only at hr
    split at hr
    · rename_i v h' he
      subst hr
      obtain ⟨m1, m2⟩ := hx.ext f e hext _ _ _ _ he σ w args' hh hl hf
      exact ⟨m1, m2⟩
    · exact absurd hr.symm hne
  | none =>
    obtain ⟨fn, cf, c, s, fl, rc, u, h1, h2, h3, h4, h5, h6, h7, h8, h9⟩ := callL_fn hx hL hext hr hne
    refine ⟨callFunc_enter h1 h3 h5, calls_of_wp_defers h1 h3 ?_⟩
    have hp := enter_pre (n := fn.ntmps) hh hl h6
    have hg2 := leaveA_grow hL cf s.ds s.ts s.h u
    have hfs : Fresh σ (startA args h).h.next s.h.next := by
      rw [h9] at hf hne
      generalize leaveA L.callD cf s.ds s.ts s.h u = z at hg2 hf hne
      cases z with
      | ret v h3 => exact Fresh.left hf hg2.next
      | pan v h3 => exact Fresh.left hf hg2.next
      | no => exact absurd rfl hne
    have := (hL.off fn.ntmps c _ _ _ _ h7 σ _ w hp hfs).wp
    refine wp_mono this fun e a1 w1 hq => ?_
    obtain ⟨σ1, q1, q2, q3⟩ := hq
    rw [h9] at hf hne ⊢
    exact body_leaves hL h4 h8 hne hf q1 q2 q3
theorem callDL_ok (hmix : P.follows .mixedOrders = true) (hx : CxOk P cx) (hL : LvOk P L) {f : Nat} {args : List AV} {h h' : H} {u u' : Option AV} (hr : callDL cx L f args h u = some (h', u')) :
    Grow h h' ∧ ∀ (σ : Ren) (w : World) (args' : List Value) (um : FrameMode), HR σ h w → LR σ args args' → UZ σ u um → Fresh σ h.next h'.next →
    (callFunc f args'.toArray).run P w = .ok (.enter f args'.toArray) w ∧ CallsD P f args'.toArray um w fun e um' w' => ∃ v' σ', e = .returned v' ∧ UR σ' u' um' ∧ HR σ' h' w' ∧ Ext σ σ' h h' w w' := by
  unfold callDL at hr
  split at hr
  · rename_i cf hcf
    obtain ⟨fn, h1, h2⟩ := hx.fn f cf hcf
    obtain ⟨c, rr, h3, h4, h5, h6, h7, h8⟩ := comp_inv h2
    rw [h6] at hr
    have h4' : compR P fn.results.toList = some cf.results := by rw [h8]; exact h4
    have hend : ∀ {s : S} {v : Option AV}, endD cf s v = some (h', u') → s.ds = [] ∧ s.h = h' ∧ v = u' ∧ ∃ l, resA s.ts s.h cf.results = some l := by
      intro s v e
      unfold endD at e
      split at e
      · rename_i l q1 q2
        injection e with e; injection e with e1 e2
        exact ⟨q1, e1, e2, l, q2⟩
      · cases e
    have noOn : ∀ {fl : Fl} {s : S} {rc : Rc}, args.length ≤ fn.ntmps → L.exec (compC P fn.ntmps c) (startA args h) .off = .ok fl s rc → (fl = .norm ∨ fl = .ret) → endD cf s u = some (h', u') →
        Grow h h' ∧ ∀ (σ : Ren) (w : World) (args' : List Value) (um : FrameMode), HR σ h w → LR σ args args' → UZ σ u um → Fresh σ h.next h'.next →
        (callFunc f args'.toArray).run P w = .ok (.enter f args'.toArray) w ∧ CallsD P f args'.toArray um w fun e um' w' => ∃ v' σ', e = .returned v' ∧ UR σ' u' um' ∧ HR σ' h' w' ∧ Ext σ σ' h h' w w' := by
      intro fl s rc hn he hfl hen
      obtain ⟨k1, k2, k3, l, k4⟩ := hend hen
      have hg1 := hL.egrow _ _ _ _ _ _ he
      subst k2
      refine ⟨hg1, fun σ w args' um hh hl hu hf => ⟨callFunc_enter h1 h3 h5, ?_⟩⟩
      have hp := enter_pre (n := fn.ntmps) hh hl hn
      have hw := (hL.off fn.ntmps c _ _ _ _ he σ _ w hp hf).wp
      refine CallsD.mono (callsD_of_wp (R := fun e w' => ∃ v' σ', e = .returned v' ∧ Le σ σ' ∧ HR σ' s.h w' ∧ Ext σ σ' h s.h w w') h1 h3 (wp_mono hw fun e a1 w1 hq => ?_)) fun e u2 w2 he2 => ?_
      · obtain ⟨σ1, q1, q2, q3⟩ := hq
        have hd : a1.defers = [] := by
          have := q2.ds
          rw [k1] at this
          cases ha : a1.defers with
          | nil => rfl
          | cons x y => rw [ha] at this; exact this.elim
        obtain ⟨v', m1, m2⟩ := results_ok q2.hr q2.tr h4' k4
        rcases hfl with rfl | rfl
        · cases q1; exact ⟨hd, v', m1, v', σ1, rfl, q3.le, q2.hr, q3⟩
        · cases q1; exact ⟨hd, v', m1, v', σ1, rfl, q3.le, q2.hr, q3⟩
      · obtain ⟨rfl, v', σ', e1, e2, e3, e4⟩ := he2
        exact ⟨v', σ', e1, by rw [← k3]; exact hu.ur.mono e2, e3, e4⟩
    split at hr
    · rename_i e1 _
      have hn : args.length ≤ fn.ntmps := by rw [← h7]; exact Nat.le_of_ble_eq_true e1
      unfold dOff at hr
      split at hr
      · rename_i s rc e2; exact noOn hn e2 (.inl rfl) hr
      · rename_i s rc e2; exact noOn hn e2 (.inr rfl) hr
      · cases hr
    · rename_i e1 _
      have hn : args.length ≤ fn.ntmps := by rw [← h7]; exact Nat.le_of_ble_eq_true e1
      unfold dOn at hr
      split at hr
      · rename_i s r' e3
        obtain ⟨k1, k2, k3, l, k4⟩ := hend hr
        have hg1 := hL.egrow _ _ _ _ _ _ e3
        subst k2
        subst k3
        refine ⟨hg1, fun σ w args' um hh hl hu hf => ⟨callFunc_enter h1 h3 h5, ?_⟩⟩
        have hp := enter_pre (n := fn.ntmps) hh hl hn
        refine callsD_of_wpS h1 h3 fun c0 cs0 hc0 => ?_
        have hw := hL.on fn.ntmps c _ _ _ _ _ e3 σ _ w c0 cs0 um hp hu.ur hf
        have hc : ({ c0 with mode := um } : Frame) = c0 := by subst hc0; rfl
        rw [hc] at hw
        intro b k hb hro
        obtain ⟨e', a1, cs1, w1, hq, harr⟩ := hw b k hb hro
        refine ⟨e', a1, cs1, w1, ?_, harr⟩
        obtain ⟨σ1, u1, rfl, hu1, q1, q2, q3⟩ := hq
        have hd : a1.defers = [] := by
          have := q2.ds
          rw [k1] at this
          cases ha : a1.defers with
          | nil => rfl
          | cons x y => rw [ha] at this; exact this.elim
        obtain ⟨v', m1, m2⟩ := results_ok q2.hr q2.tr h4' k4
        cases q1
        exact ⟨hd, u1, rfl, v', m1, v', σ1, rfl, hu1, q2.hr, q3⟩
      · cases hr
    · cases hr
  · cases hr
theorem lev0_ok : LvOk P lev0 where
  cl := ⟨⟨fun _ _ _ _ _ e => (by cases e), fun _ _ _ _ _ e => (by cases e)⟩, fun _ _ _ _ _ e => (by cases e), fun _ _ _ _ _ e => (by cases e)⟩
  egrow := fun _ _ _ _ _ _ e => (by cases e)
  roff := fun _ _ _ _ _ e => (by cases e)
  ron := fun _ _ _ _ _ _ e => (by cases e)
  off := fun _ _ _ _ _ _ e => (by cases e)
  on := fun _ _ _ _ _ _ _ e => (by cases e)
  dgrow := fun _ _ _ _ _ _ e => (by cases e)
  dok := fun _ _ _ _ _ _ e => (by cases e)
theorem mkLv_ok (hmix : P.follows .mixedOrders = true) (hx : CxOk P cx) (hL : LvOk P L) : LvOk P (mkLv cx L) := by
  have hcg : ∀ f args h r, callL cx L f args h = r → CrGrow h r := fun f args h r e => by rw [← e]; exact callL_grow hx hL
  refine ⟨⟨⟨fun f args h v h' e => hcg f args h _ e, fun f args h v h' e σ w args' hh hl hf => ?_⟩, fun f args h v h' e => hcg f args h _ e, fun f args h v h' e σ w args' hh hl hf => ?_⟩,
    fun c s rc f s' rc' e => execL_grow (cx := cx) hL c s rc f s' rc' e, fun c s f s' rc' e => execL_off (cx := cx) hL c s f s' rc' e, fun c s r f s' rc' e => execL_on (cx := cx) hL c s r f s' rc' e,
    fun N c s f s' rc' e σ a w p hf => exec_off (cx := cx) hmix hL N c s f s' rc' e σ a w p hf, fun N c s f s' r r' e σ a w c0 cs0 u p hu hf => exec_on (cx := cx) hmix hL N c s f s' r r' e σ a w c0 cs0 u p hu hf,
    fun f args h u h' u' e => (callDL_ok hmix hx hL e).1, fun f args h u h' u' e σ w args' um hh hl hu hf => (callDL_ok hmix hx hL e).2 σ w args' um hh hl hu hf⟩
  · exact callL_ok hmix hx hL (r := .ret v h') e (by intro h; cases h) hh hl hf
  · exact callL_ok hmix hx hL (r := .pan v h') e (by intro h; cases h) hh hl hf
theorem lev_ok (hmix : P.follows .mixedOrders = true) (hx : CxOk P cx) : ∀ n, LvOk P (lev cx n)
  | 0 => lev0_ok
  | n + 1 => mkLv_ok hmix hx (lev_ok hmix hx n)
end
theorem calls_ok {P : Program} {cx : Cx} (hmix : P.follows .mixedOrders = true) (hx : CxOk P cx) {n f : Nat} {args : List AV} {h h' : H} {v : AV} (hr : (lev cx n).call f args h = .ret v h') {σ : Ren} {w : World} {args' : List Value} (hh : HR σ h w) (hl : LR σ args args') (hf : Fresh σ h.next h'.next) :
    Calls P f args'.toArray w fun e w' => ∃ v' σ', e = .returned v' ∧ VR σ' v v' ∧ HR σ' h' w' ∧ Ext σ σ' h h' w w' :=
  ((lev_ok hmix hx n).cl.ret f args h v h' hr σ w args' hh hl hf).2
end Go.Ab
