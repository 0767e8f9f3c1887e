/- Operations that make or write memory. -/
import Derived.Test.YtgkchcbnbbgdpaaGreatDoorAbOps4
import Derived.Laws.BytesString
namespace Go.Ab
section
variable {P : Program} {σ : Ren} {h : H} {w : World}

/-- A value is handed out; heap and world have gone on. -/
def Makes (P : Program) (σ : Ren) (h : H) (w : World) (s : Sem Value) (v : AV) (h' : H) : Prop :=
  (∀ b, h.next ≤ b → b < h'.next → σ b = none) → ∃ σ' v' w', s.run P w = .ok v' w' ∧ VR σ' v v' ∧ HR σ' h' w' ∧ Ext σ σ' h h' w w'

def Does (P : Program) (σ : Ren) (h : H) (w : World) (s : Sem Unit) (h' : H) : Prop :=
  (∀ b, h.next ≤ b → b < h'.next → σ b = none) → ∃ σ' w', s.run P w = .ok () w' ∧ HR σ' h' w' ∧ Ext σ σ' h h' w w'

theorem Gives.makes (r : HR σ h w) {s : Sem Value} {v : AV} (g : Gives P σ w s v) : Makes P σ h w s v h := fun _ =>
  let ⟨v', h1, h2⟩ := g; ⟨σ, v', w, h1, h2, r, Ext.refl σ h w⟩

theorem run_newObj (o : Obj) : (newObj o).run P w = .ok w.heap.size (w.alloc o) := rfl

theorem newRow_sim (r : HR σ h w) {cs : List AV} {arr : Array Value} {e : TypeId} {ds extra : List Value} (hd : LR σ cs ds) (ha : arr.toList = ds ++ extra) (hn : σ h.next = none) :
    ∃ σ' L, (newRow e arr).run P w = .ok ⟨L.blk, 0, none⟩ (w.alloc (.cells arr e)) ∧ σ' h.next = some L ∧ L.base = 0 ∧ L.size = arr.size ∧ HR σ' (h.new (.cells true cs)) (w.alloc (.cells arr e)) ∧ Ext σ σ' h (h.new (.cells true cs)) w (w.alloc (.cells arr e)) := by
  obtain ⟨h1, h2⟩ := r.newCells cs arr e ds extra hd ha hn
  exact ⟨_, ⟨w.heap.size, 0, arr.size⟩, by simp [newRow, run_newObj], setR_same _ _ _, rfl, rfl, h1, h2⟩

theorem fresh_new {x : Bk} (hf : ∀ b, h.next ≤ b → b < (h.new x).next → σ b = none) : σ h.next = none := hf _ (Nat.le_refl _) (by rw [H.next_new]; omega)

theorem alloc_sim (r : HR σ h w) {e : TypeId} {z : List AV} (hz : cellsT P e = some z) : Makes P σ h w (Instr.alloc e true (.tuple #[])) (.ptr h.next 0) (h.new (.cells true z)) := by
  intro hf
  unfold cellsT at hz
  cases hzt : zeroT P e with
  | none => simp [hzt] at hz
  | some zv =>
    simp only [hzt, Option.map_some, Option.some.injEq] at hz
    obtain ⟨v, h1, h2⟩ := run_zero (P := P) (w := w) hzt
    subst h2; subst hz
    obtain ⟨σ', L, k1, k2, k3, k4, k5, k6⟩ := newRow_sim (P := P) (e := e) r (LR.ofV_cells σ v) (List.append_nil _).symm (fresh_new hf)
    refine ⟨σ', .pointer (some ⟨L.blk, 0, none⟩), _, ?_, ?_, k5, k6⟩
    · simp [Instr.alloc, h1, newVar, k1]
    · have := VR.ptr (σ := σ') (o := 0) k2
      rwa [k3] at this

theorem box_sim (r : HR σ h w) {e : TypeId} {v : AV} {v' : Value} (hv : VR σ v v') (hk : ∀ ds, v' = .agg ds → ∃ cs, v = .agg cs) : Makes P σ h w (Instr.box e v') (.ptr h.next 0) (h.new (.cells true v.cells)) := by
  intro hf
  obtain ⟨σ', L, k1, k2, k3, k4, k5, k6⟩ := newRow_sim (P := P) (e := e) r (hv.cells hk) (List.append_nil _).symm (fresh_new hf)
  refine ⟨σ', .pointer (some ⟨L.blk, 0, none⟩), _, ?_, ?_, k5, k6⟩
  · simp [Instr.box, newVar, k1]
  · have := VR.ptr (σ := σ') (o := 0) k2
    rwa [k3] at this

theorem mkMap_sim (r : HR σ h w) {t : TypeId} : Makes P σ h w (Instr.makeMap t none) (.map h.next) (h.new (.map [] 0)) := by
  intro hf
  obtain ⟨h1, h2⟩ := r.new (.map [] 0) (.map #[] 0) 0 (fresh_new hf) (fun σ' w' hle hw => ⟨#[], hw, rfl, fun i e e' a => by simp at a⟩)
  exact ⟨_, .map (some w.heap.size), _, by simp [Instr.makeMap, run_newObj], .map (L := ⟨w.heap.size, 0, 0⟩) (setR_same _ _ _), h1, h2⟩

theorem setRow_size (w : World) (g : Nat) (cs : Array Value) : (w.setRow g cs).heap.size = w.heap.size := by simp [World.setRow]

/-- A store of a row of cells. -/
theorem storeCells_sim (r : HR σ h w) {b o : Nat} {vs : List AV} {h' : H} (hst : storeA h b o vs = some h') {L : Loc} (hs : σ b = some L) {ds : List Value} (hd : LR σ vs ds) :
    ∃ w', (storeCells ⟨L.blk, L.base + o, none⟩ ds).run P w = .ok () w' ∧ HR σ h' w' ∧ Ext σ σ h h' w w' := by
  unfold storeA at hst
  split at hst
  · rename_i cs hg
    split at hst
    · rename_i hle hok
      injection hst with hst; subst hst
      have hle := Nat.le_of_ble_eq_true hle
      obtain ⟨arr, e, fr, h1, h2, h3, h4⟩ := r.blk b _ L hg hs
      rw [h4 rfl] at h1
      have hlen := h3.1
      simp only [List.length_take, List.length_drop, Array.length_toList] at hlen
      have hdl := hd.1
      obtain ⟨h2, hin⟩ := h2
      have hrun := run_storeCells_at P L.blk (L.base + o) e ds 0 arr w h1 (by omega) (hd.oneCell hok)
      simp only [Nat.add_zero] at hrun
      have hsp : (splice cs o vs).length = cs.length := by unfold splice; simp; omega
      generalize hnew : (arr.toList.take (L.base + o) ++ ds ++ arr.toList.drop (L.base + o + ds.length)).toArray = new at hrun
      have hnl : new.toList = arr.toList.take (L.base + o) ++ ds ++ arr.toList.drop (L.base + o + ds.length) := by rw [← hnew]
      have hnsz : new.size = arr.size := by
        rw [← Array.length_toList, hnl]; simp; omega
      have hlr : LR σ (splice cs o vs) ((new.toList.drop L.base).take (splice cs o vs).length) := by
        have : (new.toList.drop L.base).take (splice cs o vs).length = ((arr.toList.drop L.base).take cs.length).take o ++ ds ++ ((arr.toList.drop L.base).take cs.length).drop (o + ds.length) := by
          rw [hsp, hnl]
          apply List.ext_getElem?
          intro i
          simp only [List.getElem?_take, List.getElem?_drop, List.getElem?_append, List.length_take, List.length_append, List.length_drop, Array.length_toList]
          have m1 : min (L.base + o) arr.size = L.base + o := by omega
          have m2 : min cs.length (arr.size - L.base) = cs.length := hlen.symm
          have m3 : min o cs.length = o := by omega
          simp only [m1, m2, m3]
          by_cases h5 : i < cs.length
          · rw [if_pos h5]
            by_cases h6 : i < o
            · rw [if_pos (by omega), if_pos (by omega), if_pos (by omega), if_pos (by omega), if_pos (by omega), if_pos (by omega), if_pos h5]
            · by_cases h7 : i < o + ds.length
              · rw [if_pos (by omega), if_neg (by omega), if_pos (by omega), if_neg (by omega)]
                congr 1; omega
              · rw [if_neg (by omega), if_neg (by omega), if_pos (by omega)]
                congr 1; omega
          · rw [if_neg h5, if_neg (by omega), if_neg (by omega)]
        rw [this]
        exact h3.splice hd o
      obtain ⟨k1, k2⟩ := r.change (w' := w.setRow L.blk new) hs (.inl ⟨cs, hg⟩) (.cells true (splice cs o vs)) (setRow_size w _ _) rfl rfl rfl (fun k hk => setRow_other w _ _ _ hk)
        ⟨new, e, (0, 0), setRow_heap w L.blk arr new e (0, 0) h1, ⟨by rw [hnsz, h2], by rw [hsp]; exact hin⟩, hlr, fun _ => rfl⟩
      exact ⟨_, hrun, k1, k2⟩
    · cases hst
  · cases hst

theorem store_sim (r : HR σ h w) {t : TypeId} {s : Nat} (hs : sizeT P t = some s) {b o : Nat} {x : Value} (hx : VR σ (.ptr b o) x) {v : AV} {v' : Value} (hv : VR σ v v') (hl : v.cells.length = s) {h' : H} (hst : storeA h b o v.cells = some h') :
    Does P σ h w (Instr.storeAt t x v') h' := by
  intro _
  cases hx with
  | @ptr _ _ L hL =>
    have hk : ∀ ds, v' = .agg ds → ∃ cs, v = .agg cs := by
      intro ds e
      subst e
      cases hv with
      | agg => exact ⟨_, rfl⟩
      | any =>
        unfold storeA at hst
        split at hst
        · simp [AV.cells, cellsOk, cellOk] at hst
        · cases hst
    have hc := hv.cells hk
    obtain ⟨w', h1, h2, h3⟩ := storeCells_sim (P := P) r hst hL hc
    have hsz : v'.cells.size = s := by rw [← Array.length_toList, ← hc.1, hl]
    exact ⟨σ, w', by simp [Instr.storeAt, Instr.sureAddr, storeVar, run_sizeOf hs, hsz, h1], h2, h3⟩
end
end Go.Ab
