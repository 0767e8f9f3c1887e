/- Each operation of the model does what the abstract one does: those that have to do with values alone, and loads. -/
import Derived.Test.YtgkchcbnbbgdpaaGreatDoorAbHeap
namespace Go.Ab

def TR (σ : Ren) (ts : TS) (tmps : Array Value) : Prop := ∀ t v, ts.get t = some v → ∃ v', tmps[t]? = some v' ∧ VR σ v v'

theorem TR.mono {σ σ' : Ren} (hle : Le σ σ') {ts : TS} {tmps : Array Value} (h : TR σ ts tmps) : TR σ' ts tmps :=
  fun t v e => let ⟨v', a, b⟩ := h t v e; ⟨v', a, b.mono hle⟩

theorem TR.put {σ : Ren} {ts : TS} {a : Act} (h : TR σ ts a.tmps) {dst : Option Nat} {v : AV} {v' : Value} (hv : VR σ v v') (hd : dstOk a.tmps.size dst = true) : TR σ (putT ts dst v) (a.put dst v').tmps := by
  cases dst with
  | none => exact h
  | some d =>
    have hlt : d < a.tmps.size := by simpa [dstOk, Nat.blt_eq] using hd
    intro t u ht
    simp only [putT, Tr.get_set] at ht
    simp only [Act.put]
    by_cases e : t = d
    · subst e
      rw [if_pos rfl] at ht; injection ht with ht; subst ht
      exact ⟨v', by simp [Array.getElem?_setIfInBounds, hlt], hv⟩
    · rw [if_neg e] at ht
      obtain ⟨u', h1, h2⟩ := h t u ht
      exact ⟨u', by rw [Array.getElem?_setIfInBounds, if_neg (Ne.symm e)]; exact h1, h2⟩

theorem Act.size_put (a : Act) (dst : Option Nat) (v : Value) : (a.put dst v).tmps.size = a.tmps.size := by
  cases dst <;> simp [Act.put]

theorem VR.undef (σ : Ren) : VR σ undefA undef := .tup (by simp) fun i v v' a => by simp at a

theorem VR.ofV1 (σ : Ren) (v : Value) : VR σ (ofV1 v) v := by
  cases v with
  | bool b => exact .bool b
  | int k n => exact .int k n
  | string s => exact .str s
  | pointer a => cases a <;> simp only [Ab.ofV1] <;> first | exact .pnil | exact .any _
  | slice a n c =>
    unfold Ab.ofV1
    split <;> first | exact .any _ | skip
    all_goals (rename_i h; first | cases h | skip)
    all_goals first | exact .snil | exact .any _
  | map r => cases r <;> simp only [Ab.ofV1] <;> first | exact .mnil | exact .any _
  | nilFunc => exact .fnil
  | nilIface => exact .inil
  | _ => exact .any _

theorem VR.ofV (σ : Ren) (v : Value) : VR σ (ofV v) v := by
  cases v with
  | agg cs =>
    refine .agg (by simp) fun i a b ha hb => ?_
    simp only [List.getElem?_map, Array.getElem?_toList, Option.map_eq_some_iff] at ha
    obtain ⟨c, hc, rfl⟩ := ha
    rw [hc] at hb; injection hb with hb; subst hb
    exact VR.ofV1 σ c
  | _ => simp only [Ab.ofV]; exact VR.ofV1 σ _

theorem LR.ofV_cells (σ : Ren) (v : Value) : LR σ (Ab.ofV v).cells v.cells.toList :=
  (VR.ofV σ v).cells fun ds e => by subst e; exact ⟨_, rfl⟩

theorem evA_ok {σ : Ren} {ts : TS} {a : Act} (h : TR σ ts a.tmps) (x : Operand) : VR σ (evA ts (opd x)) (a.eval x) := by
  cases x with
  | tmp t =>
    simp only [opd, evA, Act.eval]
    cases e : ts.get t with
    | none => exact .any _
    | some v =>
      obtain ⟨v', h1, h2⟩ := h t v e
      simpa [Array.getD, Array.getElem?_eq_some_iff.1 h1 |>.1, (Array.getElem?_eq_some_iff.1 h1).2] using h2
  | const v => exact VR.ofV σ v
  | global g => exact .any _
  | func f => exact .fn (by simp) (fun i v v' a => by simp at a) (by simp) (fun i v v' a => by simp at a)

theorem evL_ok {σ : Ren} {ts : TS} {a : Act} (h : TR σ ts a.tmps) (l : List Operand) : LR σ ((l.map opd).map (evA ts)) (l.map a.eval) := by
  rw [List.map_map]
  exact LR.map_ev _ _ l fun x _ => evA_ok h x

section
variable {P : Program} {w : World}

theorem run_sizeOf {t : TypeId} {s : Nat} (h : sizeT P t = some s) : (sizeOf t).run P w = .ok s w := by
  unfold sizeT at h
  cases e : P.info? t with
  | none => simp [e] at h
  | some i => simp [e] at h; simp [sizeOf, typeInfo, e, h]

theorem run_isAgg {t : TypeId} {g : Bool} (h : isAggT P t = some g) : (isAgg t).run P w = .ok g w := by
  unfold isAggT at h
  cases e : P.underlying t with
  | none => simp [e] at h
  | some d =>
    simp only [isAgg, Sem.run_bind, run_underlying e, Result.andThen_ok]
    rw [e] at h
    cases d <;> simp at h <;> subst h <;> rfl

theorem run_zero {t : TypeId} {z : AV} (h : zeroT P t = some z) : ∃ v, (zeroValue t).run P w = .ok v w ∧ z = ofV v := by
  unfold zeroT at h
  cases e : P.info? t with
  | none => simp [e] at h
  | some i =>
    rw [e] at h
    cases e' : i.zero with
    | none => simp [e'] at h
    | some v => simp [e'] at h; exact ⟨v, by simp [zeroValue, typeInfo, e, e'], h.symm⟩

end

/-- The row of cells behind an address. -/
theorem row_ok {σ : Ren} {h : H} {w : World} (r : HR σ h w) {b : Nat} {cs : List AV} {L : Loc} (hg : h.cells b = some cs) (hs : σ b = some L) {o n : Nat} (hn : o + n ≤ cs.length) :
    ∃ ds, LR σ ((cs.drop o).take n) ds ∧ ds.length = n ∧ ∀ j v, ds[j]? = some v → w.cell? ((⟨L.blk, L.base + o, none⟩ : Addr).add j) = some v := by
  have hgb : ∃ own, h.get b = some (.cells own cs) := by
    unfold H.cells at hg
    split at hg
    · rename_i own cs' e; injection hg with hg; subst hg; exact ⟨own, e⟩
    · cases hg
  obtain ⟨own, hgb⟩ := hgb
  obtain ⟨arr, e, fr, h1, h2, h3, h4⟩ := r.blk b _ L hgb hs
  have hlen := h3.1
  simp only [List.length_take, List.length_drop, Array.length_toList] at hlen
  refine ⟨(((arr.toList.drop L.base).take cs.length).drop o).take n, (h3.drop o).take n, ?_, ?_⟩
  · simp only [List.length_take, List.length_drop, Array.length_toList]; omega
  · intro j v hv
    have hadd : (⟨L.blk, L.base + o, none⟩ : Addr).add j = ⟨L.blk, L.base + o + j, none⟩ := Addr.add_lit _ _ _
    rw [hadd]
    rw [List.getElem?_take] at hv
    split at hv
    · rw [List.getElem?_drop, List.getElem?_take] at hv
      split at hv
      · rw [List.getElem?_drop, Array.getElem?_toList] at hv
        simp only [World.cell?, h1, Option.isSome_none, if_false, Bool.false_eq_true]
        rw [← hv]; congr 1; omega
      · cases hv
    · cases hv

theorem cell_ok {σ : Ren} {h : H} {w : World} (r : HR σ h w) {b : Nat} {cs : List AV} {L : Loc} (hg : h.cells b = some cs) (hs : σ b = some L) {o : Nat} {v : AV} (hv : cs[o]? = some v) :
    ∃ v', w.cell? ⟨L.blk, L.base + o, none⟩ = some v' ∧ VR σ v v' := by
  have ho : o < cs.length := by
    rcases Nat.lt_or_ge o cs.length with h | h
    · exact h
    · rw [List.getElem?_eq_none h] at hv; cases hv
  obtain ⟨ds, h1, h2, h3⟩ := row_ok r hg hs (o := o) (n := 1) (by omega)
  obtain ⟨v', e1, e2⟩ := h1.get (i := 0) (v := v) (by rw [List.getElem?_take, if_pos (by omega), List.getElem?_drop]; simpa using hv)
  exact ⟨v', by simpa [Addr.add] using h3 0 v' e1, e2⟩

section
variable {P : Program} {σ : Ren} {h : H} {w : World}

/-- A value is handed out, the world is as it was. -/
def Gives (P : Program) (σ : Ren) (w : World) (s : Sem Value) (v : AV) : Prop := ∃ v', s.run P w = .ok v' w ∧ VR σ v v'

theorem Gives.pure {v : AV} {v' : Value} (hv : VR σ v v') : Gives P σ w (Pure.pure v') v := ⟨v', rfl, hv⟩

theorem load_sim (r : HR σ h w) {t : TypeId} {s : Nat} {g : Bool} (hs : sizeT P t = some s) (hg : isAggT P t = some g) {b o : Nat} {v : AV} {x : Value} (hx : VR σ (.ptr b o) x) (hv : loadA s g h b o = some v) :
    Gives P σ w (Instr.loadAt t x) v := by
  cases hx with
  | ptr hL =>
    rename_i L
    unfold loadA at hv
    cases hc : h.cells b with
    | none => simp [hc] at hv
    | some cs =>
      simp only [hc] at hv
      unfold partA at hv
      cases g with
      | true =>
        simp only at hv
        cases hle : Nat.ble (o + s) cs.length with
        | false => simp [hle] at hv
        | true =>
          simp only [hle, Option.some.injEq] at hv
          subst hv
          obtain ⟨ds, h1, h2, h3⟩ := row_ok r hc hL (o := o) (n := s) (Nat.le_of_ble_eq_true hle)
          have hrun := run_loadCells_list (P := P) w ⟨L.blk, L.base + o, none⟩ ds h3
          rw [h2] at hrun
          exact ⟨.agg ds.toArray, by simp [Instr.loadAt, Instr.sureAddr, loadVar, run_isAgg hg, run_sizeOf hs, hrun], VR.mk_agg h1⟩
      | false =>
        simp only at hv
        obtain ⟨v', h1, h2⟩ := cell_ok r hc hL hv
        exact ⟨v', by simp [Instr.loadAt, Instr.sureAddr, loadVar, run_isAgg hg, run_load, h1], h2⟩

theorem part_sim {t : TypeId} {s off : Nat} {g : Bool} (hs : sizeT P t = some s) (hg : isAggT P t = some g) {cs : List AV} {ds : Array Value} (hl : LR σ cs ds.toList) {v : AV} (hv : partA cs off s g = some v) :
    Gives P σ w (part t ds off) v := by
  unfold partA at hv
  cases g with
  | true =>
    simp only at hv
    cases hle : Nat.ble (off + s) cs.length with
    | false => simp [hle] at hv
    | true =>
      simp only [hle, Option.some.injEq] at hv
      subst hv
      refine ⟨.agg (ds.extract off (off + s)), by simp [part, run_isAgg hg, run_sizeOf hs], VR.mk_agg' ?_⟩
      have : (ds.extract off (off + s)).toList = (ds.toList.drop off).take s := by
        rw [Array.toList_extract, List.extract_eq_take_drop]; congr 1; omega
      rw [this]
      exact (hl.drop off).take s
  | false =>
    simp only at hv
    obtain ⟨v', h1, h2⟩ := hl.get hv
    have h1' : ds[off]? = some v' := by simpa using h1
    exact ⟨v', by simp [part, run_isAgg hg, h1'], h2⟩
end
end Go.Ab
