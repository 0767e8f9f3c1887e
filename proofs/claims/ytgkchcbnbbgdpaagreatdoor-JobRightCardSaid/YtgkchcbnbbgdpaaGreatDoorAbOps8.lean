/- Structs and rows written out, maps, small things. -/
import Derived.Test.YtgkchcbnbbgdpaaGreatDoorAbOps7
namespace Go.Ab

theorem foldl_fill (off : Nat) : ∀ (l : List Value) (k : Nat) (arr : Array Value), off + k + l.length ≤ arr.size →
    ((l.zipIdx k).foldl (fun cs p => cs.setIfInBounds (off + p.2) p.1) arr).toList = arr.toList.take (off + k) ++ l ++ arr.toList.drop (off + k + l.length)
  | [], k, arr, _ => by simp
  | v :: l, k, arr, h => by
    simp only [List.length_cons] at h
    rw [List.zipIdx_cons, List.foldl_cons, foldl_fill off l (k + 1) _ (by simp; omega)]
    have e := list_seg_step arr.toList (off + k) v l (by simp; omega)
    simpa [Array.toList_setIfInBounds, Nat.add_assoc, Nat.add_comm 1 l.length] using e

theorem VR.cells' {σ : Ren} {v : AV} {v' : Value} (h : VR σ v v') (hv : isAny v = false) : LR σ v.cells v'.cells.toList :=
  h.cells fun ds e => by
    subst e
    cases h with
    | agg => exact ⟨_, rfl⟩
    | any => cases hv

section
variable {P : Program} {σ : Ren} {h : H} {w : World}

/-- The parts of a literal, laid one behind the other. -/
theorem fill_sim {ts : TS} {a : Act} (htr : TR σ ts a.tmps) (place : Nat → Option (Nat × Nat)) : ∀ (parts : List (Nat × Operand)) (rp : List (Nat × Nat × Opd)) (cs : List AV) (ds : Array Value) (out : List AV),
    (∀ (i : Nat) (p : Nat × Operand), parts[i]? = some p → ∃ q, rp[i]? = some q ∧ place p.1 = some (q.1, q.2.1) ∧ q.2.2 = opd p.2) → parts.length = rp.length → LR σ cs ds.toList → fillA ts cs rp = some out →
    ∃ arr, Instr.fill place ds (parts.map fun p => (p.1, a.eval p.2)) = some arr ∧ LR σ out arr.toList ∧ arr.size = ds.size := by
  intro parts
  induction parts with
  | nil =>
    intro rp cs ds out _ hl hc hf
    cases rp with
    | nil =>
      simp only [fillA, Option.some.injEq] at hf
      subst hf
      exact ⟨ds, rfl, hc, rfl⟩
    | cons => simp at hl
  | cons p parts ih =>
    intro rp cs ds out hp hl hc hf
    cases rp with
    | nil => simp at hl
    | cons q rp =>
      obtain ⟨q', e1, e2, e3⟩ := hp 0 p rfl
      simp at e1
      subst e1
      obtain ⟨off, size, x⟩ := q
      simp only at e2 e3
      subst e3
      simp only [fillA] at hf
      split at hf
      · rename_i g1 g2 g3
        have hv := evA_ok htr p.2
        have hcv := hv.cells' g1
        have g2 := Nat.eq_of_beq_eq_true g2
        have g3 := Nat.le_of_ble_eq_true g3
        have hsz : (a.eval p.2).cells.size = size := by rw [← Array.length_toList, ← hcv.1, g2]
        have hlen := hc.1
        simp only [Array.length_toList] at hlen
        have hcond : ¬ ((a.eval p.2).cells.size ≠ size ∨ off + (a.eval p.2).cells.size > ds.size) := by
          intro hh; rcases hh with hh | hh <;> omega
        generalize hfo : (a.eval p.2).cells.zipIdx.foldl (fun (cs : Array Value) (p : Value × Nat) => cs.setIfInBounds (off + p.2) p.1) ds = nd
        have hnd : nd.toList = ds.toList.take off ++ (a.eval p.2).cells.toList ++ ds.toList.drop (off + (a.eval p.2).cells.toList.length) := by
          rw [← hfo, ← Array.foldl_toList, Array.toList_zipIdx]
          have := foldl_fill off (a.eval p.2).cells.toList 0 ds (by rw [Array.length_toList]; omega)
          simpa using this
        have hnsz : nd.size = ds.size := by
          rw [← Array.length_toList, hnd]; simp; omega
        obtain ⟨arr, k1, k2, k3⟩ := ih rp (splice cs off (evA ts (opd p.2)).cells) nd out (fun i p' hi => hp (i + 1) p' (by simpa using hi)) (by simpa using hl) (by rw [hnd]; exact hc.splice hcv off) hf
        refine ⟨arr, ?_, k2, by rw [k3, hnsz]⟩
        have hstep : Instr.fill place ds ((p.1, a.eval p.2) :: parts.map fun p => (p.1, a.eval p.2)) = Instr.fill place nd (parts.map fun p => (p.1, a.eval p.2)) := by
          simp only [Instr.fill, e2]
          rw [if_neg (by simp [hsz]; omega), ← hfo]
        rw [List.map_cons, hstep, k1]
      · cases hf

theorem partsA_ok (z : Nat) : ∀ (parts : List (Nat × Operand)), (partsA z parts).length = parts.length ∧ ∀ (i : Nat) (p : Nat × Operand), parts[i]? = some p → (partsA z parts)[i]? = some (p.1 * z, z, opd p.2)
  | [] => ⟨rfl, fun i p h => by simp at h⟩
  | (j, x) :: r => by
    obtain ⟨h1, h2⟩ := partsA_ok z r
    refine ⟨by simp [partsA, h1], fun i p h => ?_⟩
    cases i with
    | zero => simp at h; subst h; rfl
    | succ i => simp at h; simpa [partsA] using h2 i p h

theorem partsS_ok {fs : Array Field} : ∀ (parts : List (Nat × Operand)) (l : List (Nat × Nat × Opd)), partsS P fs parts = some l → l.length = parts.length ∧
    ∀ (i : Nat) (p : Nat × Operand), parts[i]? = some p → ∃ f s, fs[p.1]? = some f ∧ sizeT P f.type = some s ∧ l[i]? = some (f.offset, s, opd p.2)
  | [], l, h => by simp [partsS] at h; subst h; exact ⟨rfl, fun i p h => by simp at h⟩
  | (j, x) :: r, l, h => by
    simp only [partsS] at h
    split at h
    · rename_i f l' g1 g2
      split at h
      · rename_i s g3
        injection h with h; subst h
        obtain ⟨h1, h2⟩ := partsS_ok r l' g2
        refine ⟨by simp [h1], fun i p hp => ?_⟩
        cases i with
        | zero => simp at hp; subst hp; exact ⟨f, s, g1, g3, rfl⟩
        | succ i => simp at hp; simpa using h2 i p hp
      · cases h
    · cases h
end
end Go.Ab
