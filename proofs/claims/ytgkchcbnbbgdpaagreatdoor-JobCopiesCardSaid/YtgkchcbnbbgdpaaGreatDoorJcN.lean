/- JobCopies: what its functions compute, in plain Lean: eventually (with rounds enough) each comes to a value that is told. -/
import Derived.Test.YtgkchcbnbbgdpaaGreatDoorJcL
set_option linter.unusedVariables false
set_option linter.unusedSimpArgs false
namespace Go.Proofs.YtgkchcbnbbgdpaaGreatDoor.QJobCopies
open Go.RowKit Go.Proofs.YtgkchcbnbbgdpaaGreatDoorW.PrintWords Go.Proofs.YtgkchcbnbbgdpaaGreatDoorW.PrintLast
open Classical

def Evt {α : Type} (g : Nat → Option α) (r : α) : Prop := ∃ k0, ∀ k, k0 ≤ k → g k = some r
theorem Evt.step {α : Type} {g g' : Nat → Option α} {r : α} (h : Evt g' r) (e : ∀ k, g (k + 1) = g' k) : Evt g r := by
  obtain ⟨k0, h⟩ := h
  refine ⟨k0 + 1, fun k hk => ?_⟩
  obtain ⟨m, rfl⟩ : ∃ m, k = m + 1 := ⟨k - 1, by omega⟩
  rw [e]; exact h m (by omega)
theorem Evt.const {α : Type} (r : α) : Evt (fun _ => some r) r := ⟨0, fun _ _ => rfl⟩
theorem Evt.congr {α : Type} {g g' : Nat → Option α} {r : α} (h : Evt g' r) (e : ∀ k, g k = g' k) : Evt g r := by
  obtain ⟨k0, h⟩ := h
  exact ⟨k0, fun k hk => (e k).trans (h k hk)⟩
theorem Evt.bind {α β : Type} {g : Nat → Option α} {f : Nat → α → Option β} {r : α} {s : β} (hg : Evt g r) (hf : Evt (fun k => f k r) s) : Evt (fun k => (g k).bind (f k)) s := by
  obtain ⟨k0, h0⟩ := hg
  obtain ⟨k1, h1⟩ := hf
  refine ⟨k0 + k1, fun k hk => ?_⟩
  show (g k).bind (f k) = some s
  rw [h0 k (by omega)]; exact h1 k (by omega)

theorem wrap_nat {i n : Nat} (h : i < n) (hn : n < 4611686018427387904) : wrap64 ((i : Int) + 1) = ((i + 1 : Nat) : Int) := by
  unfold wrap64
  omega

/-- Two rows, element by element; behind the last one it goes on. -/
theorem loop_eq {α : Type} {x0 x1 : List α} {F : Nat → Int → Option Bool} {r : Bool} (hl : x0.length = x1.length)
    (hne : ∀ (i : Nat) (h : i < x0.length), x0[i] ≠ x1[i]'(hl ▸ h) → Evt (fun k => F k i) false)
    (heq : ∀ (i : Nat) (h : i < x0.length), x0[i] = x1[i]'(hl ▸ h) → ∀ s, Evt (fun k => F k ((i + 1 : Nat) : Int)) s → Evt (fun k => F k i) s)
    (hend : Evt (fun k => F k (x0.length : Int)) r) : ∀ (d i : Nat), i + d = x0.length → Evt (fun k => F k i) (if x0.drop i = x1.drop i then r else false) := by
  intro d
  induction d with
  | zero =>
    intro i hi
    have hi' : i = x0.length := by omega
    subst hi'
    rw [if_pos (by rw [List.drop_length, hl, List.drop_length])]
    exact hend
  | succ d ih =>
    intro i hi
    have h : i < x0.length := by omega
    have h' : i < x1.length := by omega
    have e0 := List.drop_eq_getElem_cons h
    have e1 := List.drop_eq_getElem_cons h'
    by_cases hx : x0[i] = x1[i]
    · have := heq i h hx _ (ih (i + 1) (by omega))
      rw [e0, e1, hx]
      simpa only [List.cons.injEq, true_and] using this
    · have := hne i h hx
      rw [if_neg (by rw [e0, e1]; intro e; injection e with e _; exact hx e)]
      exact this

theorem rd58 {xs : List S58} {i : Nat} (h : i < xs.length) : rd_T58 xs (i : Int) = xs[i] := by simp [rd_T58, List.getD, h]
theorem rd61 {xs : List S61} {i : Nat} (h : i < xs.length) : rd_T61 xs (i : Int) = xs[i] := by simp [rd_T61, List.getD, h]
theorem rd66 {xs : List S66} {i : Nat} (h : i < xs.length) : rd_T66 xs (i : Int) = xs[i] := by simp [rd_T66, List.getD, h]
theorem rdL2 {xs : List (List S66)} {i : Nat} (h : i < xs.length) : rd_L2 xs (i : Int) = xs[i] := by simp [rd_L2, List.getD, h]
theorem ne58 (x y : S58) : ((!(x.f0 == y.f0) || (!(x.f1 == y.f1))) = true) ↔ x ≠ y := by
  cases x; cases y
  simp only [S58.mk.injEq, Bool.or_eq_true, Bool.not_eq_true', beq_eq_false_iff_ne, ne_eq, Classical.not_and_iff_not_or_not]
theorem ne61 (x y : S61) : ((!(x.f0 == y.f0) || (!(x.f1 == y.f1))) = true) ↔ x ≠ y := by
  cases x; cases y
  simp only [S61.mk.injEq, Bool.or_eq_true, Bool.not_eq_true', beq_eq_false_iff_ne, ne_eq, Classical.not_and_iff_not_or_not]
theorem ne66 (x y : S66) : ((!(x.f0 == y.f0) || (!(x.f1 == y.f1) || (!(x.f2 == y.f2) || (!(x.f3 == y.f3) || (!(x.f4 == y.f4) || (!(x.f5 == y.f5))))))) = true) ↔ x ≠ y := by
  cases x; cases y
  simp only [S66.mk.injEq, Bool.or_eq_true, Bool.not_eq_true', beq_eq_false_iff_ne, ne_eq, Classical.not_and_iff_not_or_not]

theorem ref13 {x y : List S58} (hx : x.length < 1000000) : Evt (fun k => outriderref13_Same.f k x y) (decide (x = y)) := by
  unfold outriderref13_Same.f
  by_cases hl : x.length = y.length
  · refine Evt.congr (g' := fun k => outriderref13_Same.l0 k x y (0 : Nat)) ?_ (fun k => if_pos (by omega))
    have := loop_eq (F := fun k i => outriderref13_Same.l0 k x y i) (r := true) hl (fun i h hne => ?_) (fun i h he s hs => ?_) ?_ x.length 0 (by omega)
    · simpa using this
    · refine (Evt.const false).step fun k => ?_
      simp only [outriderref13_Same.l0]
      rw [if_pos (by omega), if_pos (by omega), if_pos (by omega), if_pos (by rw [rd58 h, rd58 (hl ▸ h)]; exact (ne58 _ _).2 hne)]
    · refine hs.step fun k => ?_
      simp only [outriderref13_Same.l0]
      rw [if_pos (by omega), if_pos (by omega), if_pos (by omega), if_neg (by rw [rd58 h, rd58 (hl ▸ h)]; exact fun e => (ne58 _ _).1 e he), wrap_nat h (by omega)]
    · refine (Evt.const true).step fun k => ?_
      simp only [outriderref13_Same.l0]
      rw [if_neg (by omega)]
  · rw [decide_eq_false (fun e => hl (by rw [e]))]
    exact (Evt.const false).congr fun k => if_neg (by omega)

theorem ref08 {x y : List S66} (hx : x.length < 1000000) : Evt (fun k => outriderref08_Same.f k x y) (decide (x = y)) := by
  unfold outriderref08_Same.f
  by_cases hl : x.length = y.length
  · refine Evt.congr (g' := fun k => outriderref08_Same.l0 k x y (0 : Nat)) ?_ (fun k => if_pos (by omega))
    have := loop_eq (F := fun k i => outriderref08_Same.l0 k x y i) (r := true) hl (fun i h hne => ?_) (fun i h he s hs => ?_) ?_ x.length 0 (by omega)
    · simpa using this
    · refine (Evt.const false).step fun k => ?_
      simp only [outriderref08_Same.l0]
      rw [if_pos (by omega), if_pos (by omega), if_pos (by omega), if_pos (by rw [rd66 h, rd66 (hl ▸ h)]; exact (ne66 _ _).2 hne)]
    · refine hs.step fun k => ?_
      simp only [outriderref08_Same.l0]
      rw [if_pos (by omega), if_pos (by omega), if_pos (by omega), if_neg (by rw [rd66 h, rd66 (hl ▸ h)]; exact fun e => (ne66 _ _).1 e he), wrap_nat h (by omega)]
    · refine (Evt.const true).step fun k => ?_
      simp only [outriderref08_Same.l0]
      rw [if_neg (by omega)]
  · rw [decide_eq_false (fun e => hl (by rw [e]))]
    exact (Evt.const false).congr fun k => if_neg (by omega)

theorem insSame {x y : List S66} (hx : x.length < 1000000) : Evt (fun k => ins_Same.f k x y) (decide (x = y)) := by
  unfold ins_Same.f
  by_cases hl : x.length = y.length
  · refine Evt.congr (g' := fun k => ins_Same.l0 k y x (x.length : Int) (0 : Nat)) ?_ (fun k => if_pos (by omega))
    have := loop_eq (F := fun k i => ins_Same.l0 k y x (x.length : Int) i) (r := true) hl (fun i h hne => ?_) (fun i h he s hs => ?_) ?_ x.length 0 (by omega)
    · simpa using this
    · refine (Evt.const false).step fun k => ?_
      simp only [ins_Same.l0]
      rw [if_pos (by omega), if_pos (by omega), if_pos (by omega), if_pos (by omega), if_pos (by rw [rd66 h, rd66 (hl ▸ h)]; exact (ne66 _ _).2 hne)]
    · refine hs.step fun k => ?_
      simp only [ins_Same.l0]
      rw [if_pos (by omega), if_pos (by omega), if_pos (by omega), if_pos (by omega), if_neg (by rw [rd66 h, rd66 (hl ▸ h)]; exact fun e => (ne66 _ _).1 e he), wrap_nat h (by omega)]
    · refine (Evt.const true).step fun k => ?_
      simp only [ins_Same.l0]
      rw [if_neg (by omega)]
  · rw [decide_eq_false (fun e => hl (by rw [e]))]
    exact (Evt.const false).congr fun k => if_neg (by omega)
end Go.Proofs.YtgkchcbnbbgdpaaGreatDoor.QJobCopies
/- JobCopies: the plain law: two ways to say 'the same', two copies, and what is turned in a copy, come to true. -/
namespace Go.Proofs.YtgkchcbnbbgdpaaGreatDoor.QJobCopies
open Go.RowKit Go.Proofs.YtgkchcbnbbgdpaaGreatDoorW.PrintWords Go.Proofs.YtgkchcbnbbgdpaaGreatDoorW.PrintLast
open Classical

theorem shNe {a4 a5 a6 a7 a8 a9 b4 b5 b6 b7 b8 b9 : Int} : ((!(a4 == b4) || (!(a5 == b5) || (!(a6 == b6) || (!(a7 == b7) || (!(a8 == b8) || (!(a9 == b9))))))) = true) ↔ ¬ (a4 = b4 ∧ a5 = b5 ∧ a6 = b6 ∧ a7 = b7 ∧ a8 = b8 ∧ a9 = b9) := by
  simp only [Bool.or_eq_true, Bool.not_eq_true', beq_eq_false_iff_ne, ne_eq, Classical.not_and_iff_not_or_not]

section
variable {a0 : Int} {l1 : List S58} {l2 : List S61} {a3 a4 a5 a6 a7 a8 a9 : Int} {l10 : List (List S66)} {b0 : Int} {m1 : List S58} {m2 : List S61} {b3 b4 b5 b6 b7 b8 b9 : Int} {m10 : List (List S66)}

theorem ref17_jT : Evt (fun k => outriderref17_Same.j0 k true a0 l1 l2 a3 a4 a5 a6 a7 a8 a9 l10 b0 m1 m2 b3 b4 b5 b6 b7 b8 b9 m10) false := (Evt.const false).step fun k => by simp only [outriderref17_Same.j0, if_true]
theorem job_jT : Evt (fun k => job_Same.j0 k true a0 l1 l2 a3 a4 a5 a6 a7 a8 a9 l10 b0 m1 m2 b3 b4 b5 b6 b7 b8 b9 m10) false := (Evt.const false).step fun k => by simp only [job_Same.j0, if_true]

theorem ref17_l1 (h10 : l10.length = m10.length) (hb : l10.length < 1000000) (hr : ∀ r ∈ l10, r.length < 1000000) : Evt (fun k => outriderref17_Same.l1 k 0 a0 l1 l2 a3 a4 a5 a6 a7 a8 a9 l10 b0 m1 m2 b3 b4 b5 b6 b7 b8 b9 m10) (decide (l10 = m10)) := by
  have := loop_eq (F := fun k i => outriderref17_Same.l1 k i a0 l1 l2 a3 a4 a5 a6 a7 a8 a9 l10 b0 m1 m2 b3 b4 b5 b6 b7 b8 b9 m10) (r := true) h10 (fun i h hne => ?_) (fun i h he s hs => ?_) ?_ l10.length 0 (by omega)
  · simpa using this
  · refine Evt.step (g' := fun k => (outriderref08_Same.f k l10[i] (m10[i]'(h10 ▸ h))).bind fun t => (if t = true then (outriderref17_Same.l1 k (wrap64 ((i : Int) + 1)) a0 l1 l2 a3 a4 a5 a6 a7 a8 a9 l10 b0 m1 m2 b3 b4 b5 b6 b7 b8 b9 m10) else (some false))) ?_ fun k => ?_
    · refine Evt.bind (ref08 (hr _ (List.getElem_mem h))) ?_
      rw [decide_eq_false hne]
      exact (Evt.const false)
    · simp only [outriderref17_Same.l1]
      rw [if_pos (by omega), if_pos (by omega), if_pos (by omega), rdL2 h, rdL2 (h10 ▸ h)]
  · refine Evt.step (g' := fun k => (outriderref08_Same.f k l10[i] (m10[i]'(h10 ▸ h))).bind fun t => (if t = true then (outriderref17_Same.l1 k (wrap64 ((i : Int) + 1)) a0 l1 l2 a3 a4 a5 a6 a7 a8 a9 l10 b0 m1 m2 b3 b4 b5 b6 b7 b8 b9 m10) else (some false))) ?_ fun k => ?_
    · refine Evt.bind (ref08 (hr _ (List.getElem_mem h))) ?_
      rw [decide_eq_true he, wrap_nat h (by omega)]
      exact hs
    · simp only [outriderref17_Same.l1]
      rw [if_pos (by omega), if_pos (by omega), if_pos (by omega), rdL2 h, rdL2 (h10 ▸ h)]
  · refine (Evt.const true).step fun k => ?_
    simp only [outriderref17_Same.l1]
    rw [if_neg (by omega)]

theorem ref17_l0 (h2 : l2.length = m2.length) (hb2 : l2.length < 1000000) (h10 : l10.length = m10.length) (hb : l10.length < 1000000) (hr : ∀ r ∈ l10, r.length < 1000000) :
    Evt (fun k => outriderref17_Same.l0 k 0 a0 l1 l2 a3 a4 a5 a6 a7 a8 a9 l10 b0 m1 m2 b3 b4 b5 b6 b7 b8 b9 m10) (decide (l2 = m2 ∧ l10 = m10)) := by
  have := loop_eq (F := fun k i => outriderref17_Same.l0 k i a0 l1 l2 a3 a4 a5 a6 a7 a8 a9 l10 b0 m1 m2 b3 b4 b5 b6 b7 b8 b9 m10) (r := decide (l10 = m10)) h2 (fun i h hne => ?_) (fun i h he s hs => ?_) ?_ l2.length 0 (by omega)
  · by_cases e : l2 = m2
    · simpa [e] using this
    · simpa [e] using this
  · refine (Evt.const false).step fun k => ?_
    simp only [outriderref17_Same.l0]
    rw [if_pos (by omega), if_pos (by omega), if_pos (by omega), if_pos (by rw [rd61 h, rd61 (h2 ▸ h)]; exact (ne61 _ _).2 hne)]
  · refine hs.step fun k => ?_
    simp only [outriderref17_Same.l0]
    rw [if_pos (by omega), if_pos (by omega), if_pos (by omega), if_neg (by rw [rd61 h, rd61 (h2 ▸ h)]; exact fun e => (ne61 _ _).1 e he), wrap_nat h (by omega)]
  · refine (ref17_l1 (a0 := a0) (l1 := l1) (l2 := l2) (a3 := a3) (a4 := a4) (a5 := a5) (a6 := a6) (a7 := a7) (a8 := a8) (a9 := a9) (l10 := l10) (b0 := b0) (m1 := m1) (m2 := m2) (b3 := b3) (b4 := b4) (b5 := b5) (b6 := b6) (b7 := b7) (b8 := b8) (b9 := b9) (m10 := m10) h10 hb hr).step fun k => ?_
    simp only [outriderref17_Same.l0]
    rw [if_neg (by omega)]

theorem ref17Same (hb1 : l1.length < 1000000) (hb2 : l2.length < 1000000) (hb : l10.length < 1000000) (hr : ∀ r ∈ l10, r.length < 1000000) :
    Evt (fun k => outriderref17_Same.f k a0 l1 l2 a3 a4 a5 a6 a7 a8 a9 l10 b0 m1 m2 b3 b4 b5 b6 b7 b8 b9 m10) (decide ((a0 = b0 ∧ a3 = b3 ∧ a4 = b4 ∧ a5 = b5 ∧ a6 = b6 ∧ a7 = b7 ∧ a8 = b8 ∧ a9 = b9) ∧ l1 = m1 ∧ l2 = m2 ∧ l10 = m10)) := by
  unfold outriderref17_Same.f
  by_cases e0 : a0 = b0
  · by_cases e3 : a3 = b3
    · by_cases es : (!(a4 == b4) || (!(a5 == b5) || (!(a6 == b6) || (!(a7 == b7) || (!(a8 == b8) || (!(a9 == b9))))))) = true
      · rw [decide_eq_false (fun e => shNe.1 es e.1.2.2)]
        exact (ref17_jT (a0 := a0) (l1 := l1) (l2 := l2) (a3 := a3) (a4 := a4) (a5 := a5) (a6 := a6) (a7 := a7) (a8 := a8) (a9 := a9) (l10 := l10) (b0 := b0) (m1 := m1) (m2 := m2) (b3 := b3) (b4 := b4) (b5 := b5) (b6 := b6) (b7 := b7) (b8 := b8) (b9 := b9) (m10 := m10)).congr fun k => by rw [if_pos e0, if_pos e3, if_pos es]
      · have es' := Classical.not_not.1 (fun e => es (shNe.2 e))
        refine Evt.congr (Evt.bind (ref13 hb1) ?_) fun k => by rw [if_pos e0, if_pos e3, if_neg es]
        by_cases e1 : l1 = m1
        · rw [decide_eq_true e1]
          by_cases e2 : l2.length = m2.length
          · by_cases e10 : l10.length = m10.length
            · have hc : ((l10.length : Int) != (m10.length : Int)) = false := by simp [e10]
              refine Evt.step (g' := fun k => outriderref17_Same.l0 k 0 a0 l1 l2 a3 a4 a5 a6 a7 a8 a9 l10 b0 m1 m2 b3 b4 b5 b6 b7 b8 b9 m10) ?_ ?_
              · have h := ref17_l0 (a0 := a0) (l1 := l1) (a3 := a3) (a4 := a4) (a5 := a5) (a6 := a6) (a7 := a7) (a8 := a8) (a9 := a9) (b0 := b0) (m1 := m1) (b3 := b3) (b4 := b4) (b5 := b5) (b6 := b6) (b7 := b7) (b8 := b8) (b9 := b9) e2 hb2 e10 hb hr
                rw [show (decide ((a0 = b0 ∧ a3 = b3 ∧ a4 = b4 ∧ a5 = b5 ∧ a6 = b6 ∧ a7 = b7 ∧ a8 = b8 ∧ a9 = b9) ∧ l1 = m1 ∧ l2 = m2 ∧ l10 = m10)) = decide (l2 = m2 ∧ l10 = m10) from decide_eq_decide.2 ⟨fun h => h.2.2, fun h => ⟨⟨e0, e3, es'⟩, e1, h⟩⟩]
                exact h
              · intro k
                show (if true = true then _ else _) = _
                rw [if_pos rfl, if_pos (by omega), hc]
                simp only [outriderref17_Same.j0, Bool.false_eq_true, if_false]
            · rw [decide_eq_false (fun e => e10 (by rw [e.2.2.2]))]
              refine (ref17_jT (a0 := a0) (l1 := l1) (l2 := l2) (a3 := a3) (a4 := a4) (a5 := a5) (a6 := a6) (a7 := a7) (a8 := a8) (a9 := a9) (l10 := l10) (b0 := b0) (m1 := m1) (m2 := m2) (b3 := b3) (b4 := b4) (b5 := b5) (b6 := b6) (b7 := b7) (b8 := b8) (b9 := b9) (m10 := m10)).congr fun k => ?_
              show (if true = true then _ else _) = _
              rw [if_pos rfl, if_pos (by omega), show ((l10.length : Int) != (m10.length : Int)) = true by simp; omega]
          · rw [decide_eq_false (fun e => e2 (by rw [e.2.2.1]))]
            refine (ref17_jT (a0 := a0) (l1 := l1) (l2 := l2) (a3 := a3) (a4 := a4) (a5 := a5) (a6 := a6) (a7 := a7) (a8 := a8) (a9 := a9) (l10 := l10) (b0 := b0) (m1 := m1) (m2 := m2) (b3 := b3) (b4 := b4) (b5 := b5) (b6 := b6) (b7 := b7) (b8 := b8) (b9 := b9) (m10 := m10)).congr fun k => ?_
            show (if true = true then _ else _) = _
            rw [if_pos rfl, if_neg (by omega)]
        · rw [decide_eq_false e1, decide_eq_false (fun e => e1 e.2.1)]
          refine (ref17_jT (a0 := a0) (l1 := l1) (l2 := l2) (a3 := a3) (a4 := a4) (a5 := a5) (a6 := a6) (a7 := a7) (a8 := a8) (a9 := a9) (l10 := l10) (b0 := b0) (m1 := m1) (m2 := m2) (b3 := b3) (b4 := b4) (b5 := b5) (b6 := b6) (b7 := b7) (b8 := b8) (b9 := b9) (m10 := m10)).congr fun k => ?_
          show (if false = true then _ else _) = _
          rw [if_neg Bool.false_ne_true]
    · rw [decide_eq_false (fun e => e3 e.1.2.1)]
      exact (ref17_jT (a0 := a0) (l1 := l1) (l2 := l2) (a3 := a3) (a4 := a4) (a5 := a5) (a6 := a6) (a7 := a7) (a8 := a8) (a9 := a9) (l10 := l10) (b0 := b0) (m1 := m1) (m2 := m2) (b3 := b3) (b4 := b4) (b5 := b5) (b6 := b6) (b7 := b7) (b8 := b8) (b9 := b9) (m10 := m10)).congr fun k => by rw [if_pos e0, if_neg e3]
  · rw [decide_eq_false (fun e => e0 e.1.1)]
    exact (ref17_jT (a0 := a0) (l1 := l1) (l2 := l2) (a3 := a3) (a4 := a4) (a5 := a5) (a6 := a6) (a7 := a7) (a8 := a8) (a9 := a9) (l10 := l10) (b0 := b0) (m1 := m1) (m2 := m2) (b3 := b3) (b4 := b4) (b5 := b5) (b6 := b6) (b7 := b7) (b8 := b8) (b9 := b9) (m10 := m10)).congr fun k => by rw [if_neg e0]
end
end Go.Proofs.YtgkchcbnbbgdpaaGreatDoor.QJobCopies
/- JobCopies: the program's way to say 'the same', the copies, what is too much to be asked: what each comes to. -/
namespace Go.Proofs.YtgkchcbnbbgdpaaGreatDoor.QJobCopies
open Go.RowKit Go.Proofs.YtgkchcbnbbgdpaaGreatDoorW.PrintWords Go.Proofs.YtgkchcbnbbgdpaaGreatDoorW.PrintLast
open Classical

section
variable {a0 : Int} {l1 : List S58} {l2 : List S61} {a3 a4 a5 a6 a7 a8 a9 : Int} {l10 : List (List S66)} {b0 : Int} {m1 : List S58} {m2 : List S61} {b3 b4 b5 b6 b7 b8 b9 : Int} {m10 : List (List S66)}

theorem job_l2 (h10 : l10.length = m10.length) (hb : l10.length < 1000000) (hr : ∀ r ∈ l10, r.length < 1000000) : Evt (fun k => job_Same.l2 k (l10.length : Int) 0 a0 l1 l2 a3 a4 a5 a6 a7 a8 a9 l10 b0 m1 m2 b3 b4 b5 b6 b7 b8 b9 m10) (decide (l10 = m10)) := by
  have := loop_eq (F := fun k i => job_Same.l2 k (l10.length : Int) i a0 l1 l2 a3 a4 a5 a6 a7 a8 a9 l10 b0 m1 m2 b3 b4 b5 b6 b7 b8 b9 m10) (r := true) h10 (fun i h hne => ?_) (fun i h he s hs => ?_) ?_ l10.length 0 (by omega)
  · simpa using this
  · refine Evt.step (g' := fun k => (ins_Same.f k l10[i] (m10[i]'(h10 ▸ h))).bind fun t => (if t = true then (job_Same.l2 k (l10.length : Int) (wrap64 ((i : Int) + 1)) a0 l1 l2 a3 a4 a5 a6 a7 a8 a9 l10 b0 m1 m2 b3 b4 b5 b6 b7 b8 b9 m10) else (some false))) ?_ fun k => ?_
    · refine Evt.bind (insSame (hr _ (List.getElem_mem h))) ?_
      rw [decide_eq_false hne]
      exact (Evt.const false)
    · simp only [job_Same.l2]
      rw [if_pos (by omega), if_pos (by omega), if_pos (by omega), if_pos (by omega), rdL2 h, rdL2 (h10 ▸ h)]
  · refine Evt.step (g' := fun k => (ins_Same.f k l10[i] (m10[i]'(h10 ▸ h))).bind fun t => (if t = true then (job_Same.l2 k (l10.length : Int) (wrap64 ((i : Int) + 1)) a0 l1 l2 a3 a4 a5 a6 a7 a8 a9 l10 b0 m1 m2 b3 b4 b5 b6 b7 b8 b9 m10) else (some false))) ?_ fun k => ?_
    · refine Evt.bind (insSame (hr _ (List.getElem_mem h))) ?_
      rw [decide_eq_true he, wrap_nat h (by omega)]
      exact hs
    · simp only [job_Same.l2]
      rw [if_pos (by omega), if_pos (by omega), if_pos (by omega), if_pos (by omega), rdL2 h, rdL2 (h10 ▸ h)]
  · refine (Evt.const true).step fun k => ?_
    simp only [job_Same.l2]
    rw [if_neg (by omega)]

theorem job_l1 (h2 : l2.length = m2.length) (hb2 : l2.length < 1000000) (h10 : l10.length = m10.length) (hb : l10.length < 1000000) (hr : ∀ r ∈ l10, r.length < 1000000) :
    Evt (fun k => job_Same.l1 k (l2.length : Int) 0 a0 l1 l2 a3 a4 a5 a6 a7 a8 a9 l10 b0 m1 m2 b3 b4 b5 b6 b7 b8 b9 m10) (decide (l2 = m2 ∧ l10 = m10)) := by
  have := loop_eq (F := fun k i => job_Same.l1 k (l2.length : Int) i a0 l1 l2 a3 a4 a5 a6 a7 a8 a9 l10 b0 m1 m2 b3 b4 b5 b6 b7 b8 b9 m10) (r := decide (l10 = m10)) h2 (fun i h hne => ?_) (fun i h he s hs => ?_) ?_ l2.length 0 (by omega)
  · by_cases e : l2 = m2
    · simpa [e] using this
    · simpa [e] using this
  · refine (Evt.const false).step fun k => ?_
    simp only [job_Same.l1]
    rw [if_pos (by omega), if_pos (by omega), if_pos (by omega), if_pos (by omega), if_pos (by rw [rd61 h, rd61 (h2 ▸ h)]; exact (ne61 _ _).2 hne)]
  · refine hs.step fun k => ?_
    simp only [job_Same.l1]
    rw [if_pos (by omega), if_pos (by omega), if_pos (by omega), if_pos (by omega), if_neg (by rw [rd61 h, rd61 (h2 ▸ h)]; exact fun e => (ne61 _ _).1 e he), wrap_nat h (by omega)]
  · refine (job_l2 (a0 := a0) (l1 := l1) (l2 := l2) (a3 := a3) (a4 := a4) (a5 := a5) (a6 := a6) (a7 := a7) (a8 := a8) (a9 := a9) (l10 := l10) (b0 := b0) (m1 := m1) (m2 := m2) (b3 := b3) (b4 := b4) (b5 := b5) (b6 := b6) (b7 := b7) (b8 := b8) (b9 := b9) (m10 := m10) h10 hb hr).step fun k => ?_
    simp only [job_Same.l1]
    rw [if_neg (by omega)]

theorem job_l0 (h1 : l1.length = m1.length) (hb1 : l1.length < 1000000) (h2 : l2.length = m2.length) (hb2 : l2.length < 1000000) (h10 : l10.length = m10.length) (hb : l10.length < 1000000) (hr : ∀ r ∈ l10, r.length < 1000000) :
    Evt (fun k => job_Same.l0 k (l1.length : Int) 0 a0 l1 l2 a3 a4 a5 a6 a7 a8 a9 l10 b0 m1 m2 b3 b4 b5 b6 b7 b8 b9 m10) (decide (l1 = m1 ∧ l2 = m2 ∧ l10 = m10)) := by
  have := loop_eq (F := fun k i => job_Same.l0 k (l1.length : Int) i a0 l1 l2 a3 a4 a5 a6 a7 a8 a9 l10 b0 m1 m2 b3 b4 b5 b6 b7 b8 b9 m10) (r := decide (l2 = m2 ∧ l10 = m10)) h1 (fun i h hne => ?_) (fun i h he s hs => ?_) ?_ l1.length 0 (by omega)
  · by_cases e : l1 = m1
    · simpa [e] using this
    · simpa [e] using this
  · refine (Evt.const false).step fun k => ?_
    simp only [job_Same.l0]
    rw [if_pos (by omega), if_pos (by omega), if_pos (by omega), if_pos (by omega), if_pos (by rw [rd58 h, rd58 (h1 ▸ h)]; exact (ne58 _ _).2 hne)]
  · refine hs.step fun k => ?_
    simp only [job_Same.l0]
    rw [if_pos (by omega), if_pos (by omega), if_pos (by omega), if_pos (by omega), if_neg (by rw [rd58 h, rd58 (h1 ▸ h)]; exact fun e => (ne58 _ _).1 e he), wrap_nat h (by omega)]
  · refine (job_l1 (a0 := a0) (l1 := l1) (l2 := l2) (a3 := a3) (a4 := a4) (a5 := a5) (a6 := a6) (a7 := a7) (a8 := a8) (a9 := a9) (l10 := l10) (b0 := b0) (m1 := m1) (m2 := m2) (b3 := b3) (b4 := b4) (b5 := b5) (b6 := b6) (b7 := b7) (b8 := b8) (b9 := b9) (m10 := m10) h2 hb2 h10 hb hr).step fun k => ?_
    simp only [job_Same.l0]
    rw [if_neg (by omega)]

theorem jobSame (hb1 : l1.length < 1000000) (hb2 : l2.length < 1000000) (hb : l10.length < 1000000) (hr : ∀ r ∈ l10, r.length < 1000000) : Evt (fun k => job_Same.f k a0 l1 l2 a3 a4 a5 a6 a7 a8 a9 l10 b0 m1 m2 b3 b4 b5 b6 b7 b8 b9 m10) (decide ((a0 = b0 ∧ a3 = b3 ∧ a4 = b4 ∧ a5 = b5 ∧ a6 = b6 ∧ a7 = b7 ∧ a8 = b8 ∧ a9 = b9) ∧ l1 = m1 ∧ l2 = m2 ∧ l10 = m10)) := by
  unfold job_Same.f
  by_cases e0 : a0 = b0
  · by_cases e3 : a3 = b3
    · by_cases es : (!(a4 == b4) || (!(a5 == b5) || (!(a6 == b6) || (!(a7 == b7) || (!(a8 == b8) || (!(a9 == b9))))))) = true
      · rw [decide_eq_false (fun e => shNe.1 es e.1.2.2)]
        exact (job_jT (a0 := a0) (l1 := l1) (l2 := l2) (a3 := a3) (a4 := a4) (a5 := a5) (a6 := a6) (a7 := a7) (a8 := a8) (a9 := a9) (l10 := l10) (b0 := b0) (m1 := m1) (m2 := m2) (b3 := b3) (b4 := b4) (b5 := b5) (b6 := b6) (b7 := b7) (b8 := b8) (b9 := b9) (m10 := m10)).congr fun k => by rw [if_pos e0, if_pos e3, if_pos es]
      · have es' := Classical.not_not.1 (fun e => es (shNe.2 e))
        by_cases h1 : l1.length = m1.length
        · by_cases h2 : l2.length = m2.length
          · by_cases h10 : l10.length = m10.length
            · have hc : ((l10.length : Int) != (m10.length : Int)) = false := by simp [h10]
              refine Evt.step (g' := fun k => job_Same.l0 k (l1.length : Int) 0 a0 l1 l2 a3 a4 a5 a6 a7 a8 a9 l10 b0 m1 m2 b3 b4 b5 b6 b7 b8 b9 m10) ?_ ?_
              · have h := job_l0 (a0 := a0) (a3 := a3) (a4 := a4) (a5 := a5) (a6 := a6) (a7 := a7) (a8 := a8) (a9 := a9) (b0 := b0) (b3 := b3) (b4 := b4) (b5 := b5) (b6 := b6) (b7 := b7) (b8 := b8) (b9 := b9) h1 hb1 h2 hb2 h10 hb hr
                rw [show decide ((a0 = b0 ∧ a3 = b3 ∧ a4 = b4 ∧ a5 = b5 ∧ a6 = b6 ∧ a7 = b7 ∧ a8 = b8 ∧ a9 = b9) ∧ l1 = m1 ∧ l2 = m2 ∧ l10 = m10) = decide (l1 = m1 ∧ l2 = m2 ∧ l10 = m10) from decide_eq_decide.2 ⟨fun h => h.2, fun h => ⟨⟨e0, e3, es'⟩, h⟩⟩]
                exact h
              · intro k
                rw [if_pos e0, if_pos e3, if_neg es, if_pos (by omega), if_pos (by omega), hc]
                simp only [job_Same.j0, Bool.false_eq_true, if_false]
            · rw [decide_eq_false (fun e => h10 (by rw [e.2.2.2]))]
              exact (job_jT (a0 := a0) (l1 := l1) (l2 := l2) (a3 := a3) (a4 := a4) (a5 := a5) (a6 := a6) (a7 := a7) (a8 := a8) (a9 := a9) (l10 := l10) (b0 := b0) (m1 := m1) (m2 := m2) (b3 := b3) (b4 := b4) (b5 := b5) (b6 := b6) (b7 := b7) (b8 := b8) (b9 := b9) (m10 := m10)).congr fun k => by rw [if_pos e0, if_pos e3, if_neg es, if_pos (by omega), if_pos (by omega), show ((l10.length : Int) != (m10.length : Int)) = true by simp; omega]
          · rw [decide_eq_false (fun e => h2 (by rw [e.2.2.1]))]
            exact (job_jT (a0 := a0) (l1 := l1) (l2 := l2) (a3 := a3) (a4 := a4) (a5 := a5) (a6 := a6) (a7 := a7) (a8 := a8) (a9 := a9) (l10 := l10) (b0 := b0) (m1 := m1) (m2 := m2) (b3 := b3) (b4 := b4) (b5 := b5) (b6 := b6) (b7 := b7) (b8 := b8) (b9 := b9) (m10 := m10)).congr fun k => by rw [if_pos e0, if_pos e3, if_neg es, if_pos (by omega), if_neg (by omega)]
        · rw [decide_eq_false (fun e => h1 (by rw [e.2.1]))]
          exact (job_jT (a0 := a0) (l1 := l1) (l2 := l2) (a3 := a3) (a4 := a4) (a5 := a5) (a6 := a6) (a7 := a7) (a8 := a8) (a9 := a9) (l10 := l10) (b0 := b0) (m1 := m1) (m2 := m2) (b3 := b3) (b4 := b4) (b5 := b5) (b6 := b6) (b7 := b7) (b8 := b8) (b9 := b9) (m10 := m10)).congr fun k => by rw [if_pos e0, if_pos e3, if_neg es, if_neg (by omega)]
    · rw [decide_eq_false (fun e => e3 e.1.2.1)]
      exact (job_jT (a0 := a0) (l1 := l1) (l2 := l2) (a3 := a3) (a4 := a4) (a5 := a5) (a6 := a6) (a7 := a7) (a8 := a8) (a9 := a9) (l10 := l10) (b0 := b0) (m1 := m1) (m2 := m2) (b3 := b3) (b4 := b4) (b5 := b5) (b6 := b6) (b7 := b7) (b8 := b8) (b9 := b9) (m10 := m10)).congr fun k => by rw [if_pos e0, if_neg e3]
  · rw [decide_eq_false (fun e => e0 e.1.1)]
    exact (job_jT (a0 := a0) (l1 := l1) (l2 := l2) (a3 := a3) (a4 := a4) (a5 := a5) (a6 := a6) (a7 := a7) (a8 := a8) (a9 := a9) (l10 := l10) (b0 := b0) (m1 := m1) (m2 := m2) (b3 := b3) (b4 := b4) (b5 := b5) (b6 := b6) (b7 := b7) (b8 := b8) (b9 := b9) (m10 := m10)).congr fun k => by rw [if_neg e0]

theorem ref17_copyL {c1 : List S58} {c2 : List S61} (hb : l10.length < 1000000) (hr : ∀ r ∈ l10, r.length < 1000000) : ∀ (d i : Nat), i + d = l10.length → Evt (fun k => outriderref17_Copy.l0 k (l10.take i) (i : Int) a0 c1 c2 a3 a4 a5 a6 a7 a8 a9 l10) (a0, c1, c2, a3, a4, a5, a6, a7, a8, a9, l10) := by
  intro d
  induction d with
  | zero =>
    intro i hi
    refine (Evt.const (a0, c1, c2, a3, a4, a5, a6, a7, a8, a9, l10)).step fun k => ?_
    simp only [outriderref17_Copy.l0]
    rw [if_neg (by omega), List.take_of_length_le (by omega)]
  | succ d ih =>
    intro i hi
    have h : i < l10.length := by omega
    refine (ih (i + 1) (by omega)).step fun k => ?_
    simp only [outriderref17_Copy.l0, Option.bind_some, List.nil_append, List.length_nil]
    rw [if_pos (by omega), if_pos (by omega), rdL2 h, if_pos (by have := hr _ (List.getElem_mem h); omega), if_pos (by rw [List.length_take]; omega), wrap_nat h (by omega), List.take_succ_eq_append_getElem h]

theorem ref17Copy (hb1 : l1.length < 1000000) (hb2 : l2.length < 1000000) (hb : l10.length < 1000000) (hr : ∀ r ∈ l10, r.length < 1000000) : Evt (fun k => outriderref17_Copy.f k a0 l1 l2 a3 a4 a5 a6 a7 a8 a9 l10) (a0, l1, l2, a3, a4, a5, a6, a7, a8, a9, l10) := by
  unfold outriderref17_Copy.f
  refine (ref17_copyL hb hr l10.length 0 (by omega)).congr fun k => ?_
  simp only [Option.bind_some, List.nil_append, List.length_nil]
  rw [if_pos (by omega), if_pos (by omega)]
  rfl

theorem job_copyL {c1 : List S58} {c2 : List S61} (hb : l10.length < 1000000) (hr : ∀ r ∈ l10, r.length < 1000000) : ∀ (d i : Nat), i + d = l10.length → Evt (fun k => job_Copy.l0 k (l10.take i) l10 (l10.length : Int) (i : Int) a0 c1 c2 a3 a4 a5 a6 a7 a8 a9 l10) (a0, c1, c2, a3, a4, a5, a6, a7, a8, a9, l10) := by
  intro d
  induction d with
  | zero =>
    intro i hi
    refine (Evt.const (a0, c1, c2, a3, a4, a5, a6, a7, a8, a9, l10)).step fun k => ?_
    simp only [job_Copy.l0]
    rw [if_neg (by omega), List.take_of_length_le (by omega)]
  | succ d ih =>
    intro i hi
    have h : i < l10.length := by omega
    refine (ih (i + 1) (by omega)).step fun k => ?_
    simp only [job_Copy.l0, List.nil_append, List.length_nil]
    rw [if_pos (by omega), if_pos (by omega), if_pos (by omega), rdL2 h, if_pos (by have := hr _ (List.getElem_mem h); omega), if_pos (by rw [List.length_take]; omega), wrap_nat h (by omega), List.take_succ_eq_append_getElem h]

theorem jobCopy (hb1 : l1.length < 1000000) (hb2 : l2.length < 1000000) (hb : l10.length < 1000000) (hr : ∀ r ∈ l10, r.length < 1000000) : Evt (fun k => job_Copy.f k a0 l1 l2 a3 a4 a5 a6 a7 a8 a9 l10) (a0, l1, l2, a3, a4, a5, a6, a7, a8, a9, l10) := by
  unfold job_Copy.f
  refine (job_copyL hb hr l10.length 0 (by omega)).congr fun k => ?_
  simp only [List.nil_append, List.length_nil]
  rw [if_pos (by omega), if_pos (by omega)]
  rfl

theorem great_l0 (hb : l10.length < 1000000) : ∀ (d i : Nat), i + d = l10.length → ∃ g, Evt (fun k => outriderlaw17_Great.l0 k (i : Int) a0 l1 l2 a3 a4 a5 a6 a7 a8 a9 l10) g ∧ (g = false → ∀ (j : Nat) (h : j < l10.length), i ≤ j → l10[j].length ≤ 700) := by
  intro d
  induction d with
  | zero =>
    intro i hi
    refine ⟨false, (Evt.const false).step fun k => ?_, fun _ j h1 h2 => by omega⟩
    simp only [outriderlaw17_Great.l0]
    rw [if_neg (by omega)]
  | succ d ih =>
    intro i hi
    have h : i < l10.length := by omega
    by_cases hg : l10[i].length > 700
    · refine ⟨true, (Evt.const true).step fun k => ?_, fun e => by cases e⟩
      simp only [outriderlaw17_Great.l0]
      rw [if_pos (by omega), if_pos (by omega), rdL2 h, if_pos (by omega)]
    · obtain ⟨g, hg1, hg2⟩ := ih (i + 1) (by omega)
      refine ⟨g, hg1.step fun k => ?_, fun e j h1 h2 => ?_⟩
      · simp only [outriderlaw17_Great.l0]
        rw [if_pos (by omega), if_pos (by omega), rdL2 h, if_neg (by omega), wrap_nat h (by omega)]
      · by_cases e2 : j = i
        · subst e2; omega
        · exact hg2 e j h1 (by omega)

theorem great : ∃ g, Evt (fun k => outriderlaw17_Great.f k a0 l1 l2 a3 a4 a5 a6 a7 a8 a9 l10) g ∧ (g = false → l1.length < 1000000 ∧ l2.length < 1000000 ∧ l10.length < 1000000 ∧ ∀ r ∈ l10, r.length < 1000000) := by
  unfold outriderlaw17_Great.f
  have hT : Evt (fun k => outriderlaw17_Great.j0 k true a0 l1 l2 a3 a4 a5 a6 a7 a8 a9 l10) true := (Evt.const true).step fun k => by simp only [outriderlaw17_Great.j0, if_true]
  by_cases h1 : l1.length > 200
  · exact ⟨true, hT.congr fun k => if_pos (by omega), fun e => by cases e⟩
  · by_cases h2 : l2.length > 50
    · exact ⟨true, hT.congr fun k => by rw [if_neg (by omega), if_pos (by omega)], fun e => by cases e⟩
    · by_cases h10 : l10.length > 50
      · refine ⟨true, hT.congr fun k => ?_, fun e => by cases e⟩
        rw [if_neg (by omega), if_neg (by omega), decide_eq_true (by omega)]
      · obtain ⟨g, hg1, hg2⟩ := great_l0 (a0 := a0) (l1 := l1) (l2 := l2) (a3 := a3) (a4 := a4) (a5 := a5) (a6 := a6) (a7 := a7) (a8 := a8) (a9 := a9) (l10 := l10) (by omega) l10.length 0 (by omega)
        refine ⟨g, hg1.step fun k => ?_, fun e => ⟨by omega, by omega, by omega, fun r hr => ?_⟩⟩
        · rw [if_neg (by omega), if_neg (by omega), decide_eq_false (by omega)]
          simp only [outriderlaw17_Great.j0, Bool.false_eq_true, if_false]
          rfl
        · obtain ⟨j, hj, rfl⟩ := List.getElem_of_mem hr
          have := hg2 e j hj (by omega)
          omega
end
end Go.Proofs.YtgkchcbnbbgdpaaGreatDoor.QJobCopies
/- JobCopies: the law itself comes to true, whatever the two jobs. -/
namespace Go.Proofs.YtgkchcbnbbgdpaaGreatDoor.QJobCopies
open Go.RowKit Go.Proofs.YtgkchcbnbbgdpaaGreatDoorW.PrintWords Go.Proofs.YtgkchcbnbbgdpaaGreatDoorW.PrintLast
open Classical

section
variable {a0 : Int} {l1 : List S58} {l2 : List S61} {a3 a4 a5 a6 a7 a8 a9 : Int} {l10 : List (List S66)} {b0 : Int} {m1 : List S58} {m2 : List S61} {b3 b4 b5 b6 b7 b8 b9 : Int} {m10 : List (List S66)}

theorem law_end (hb1 : l1.length < 1000000) (hb2 : l2.length < 1000000) (hb : l10.length < 1000000) (hr : ∀ r ∈ l10, r.length < 1000000) {n1 : List S58} {n2 : List S61} {n10 : List (List S66)} {i : Int} (hi : ¬ i < (n10.length : Int)) :
    Evt (fun k => outriderlaw17_JobCopies.l2 k i a0 l1 l2 a3 a4 a5 a6 a7 a8 a9 l10 a0 l1 l2 a3 a4 a5 a6 a7 a8 a9 l10 a0 n1 n2 a3 a4 a5 a6 a7 a8 a9 n10) true := by
  refine Evt.step (g' := fun k => (outriderref17_Same.f k a0 l1 l2 a3 a4 a5 a6 a7 a8 a9 l10 a0 l1 l2 a3 a4 a5 a6 a7 a8 a9 l10).bind fun t => (if t = true then ((outriderlaw17_alive.f).bind fun t => (some t)) else (some false))) ?_ fun k => ?_
  · refine Evt.bind (ref17Same hb1 hb2 hb hr) ?_
    rw [decide_eq_true ⟨⟨rfl, rfl, rfl, rfl, rfl, rfl, rfl, rfl⟩, rfl, rfl, rfl⟩]
    exact (Evt.const true)
  · simp only [outriderlaw17_JobCopies.l2]
    rw [if_neg hi]

theorem law_l3 {n1 : List S58} {n2 : List S61} {N : Nat} {i : Nat} (hN : N < 1000000) (hi : i < N)
    (next : ∀ n10 : List (List S66), n10.length = N → (∀ r ∈ n10, r.length < 1000000) → Evt (fun k => outriderlaw17_JobCopies.l2 k ((i + 1 : Nat) : Int) a0 l1 l2 a3 a4 a5 a6 a7 a8 a9 l10 a0 l1 l2 a3 a4 a5 a6 a7 a8 a9 l10 a0 n1 n2 a3 a4 a5 a6 a7 a8 a9 n10) true) :
    ∀ (d j : Nat) (n10 : List (List S66)) (h : i < n10.length), n10.length = N → (∀ r ∈ n10, r.length < 1000000) → j + d = (n10[i]).length → Evt (fun k => outriderlaw17_JobCopies.l3 k (i : Int) (j : Int) a0 l1 l2 a3 a4 a5 a6 a7 a8 a9 l10 a0 l1 l2 a3 a4 a5 a6 a7 a8 a9 l10 a0 n1 n2 a3 a4 a5 a6 a7 a8 a9 n10) true := by
  intro d
  induction d with
  | zero =>
    intro j n10 h hl hr hj
    refine (next n10 hl hr).step fun k => ?_
    simp only [outriderlaw17_JobCopies.l3]
    rw [if_pos (by omega), if_pos (by omega), rdL2 h, if_neg (by omega), wrap_nat hi (by omega)]
  | succ d ih =>
    intro j n10 h hl hr hj
    have hrow := hr _ (List.getElem_mem h)
    have hset : ∀ x : S66, (n10.set i (n10[i].set j x)).length = N := fun x => by rw [List.length_set]; exact hl
    refine (ih (j + 1) (n10.set i (n10[i].set j ⟨(rd_T66 n10[i] j).f0, (rd_T66 n10[i] j).f1, (rd_T66 n10[i] j).f2, (rd_T66 n10[i] j).f3, (rd_T66 n10[i] j).f4, wrap64 (((rd_T66 n10[i] j).f5) + 1)⟩)) (by rw [List.length_set]; exact h) (hset _) ?_ ?_).step fun k => ?_
    · intro r hm
      rcases List.mem_or_eq_of_mem_set hm with e | e
      · exact hr r e
      · rw [e, List.length_set]; exact hrow
    · rw [List.getElem_set_self, List.length_set]; omega
    · simp only [outriderlaw17_JobCopies.l3]
      rw [if_pos (by omega), if_pos (by omega), rdL2 h, if_pos (by omega), if_pos (by omega), wrap_nat (show j < n10[i].length by omega) (by omega)]
      simp only [Int.toNat_natCast]

theorem law_l2 (hb1 : l1.length < 1000000) (hb2 : l2.length < 1000000) (hb : l10.length < 1000000) (hr : ∀ r ∈ l10, r.length < 1000000) {n1 : List S58} {n2 : List S61} {N : Nat} (hN : N < 1000000) :
    ∀ (d i : Nat), i + d = N → ∀ n10 : List (List S66), n10.length = N → (∀ r ∈ n10, r.length < 1000000) → Evt (fun k => outriderlaw17_JobCopies.l2 k (i : Int) a0 l1 l2 a3 a4 a5 a6 a7 a8 a9 l10 a0 l1 l2 a3 a4 a5 a6 a7 a8 a9 l10 a0 n1 n2 a3 a4 a5 a6 a7 a8 a9 n10) true := by
  intro d
  induction d with
  | zero =>
    intro i hi n10 hl h10
    exact law_end hb1 hb2 hb hr (by omega)
  | succ d ih =>
    intro i hi n10 hl h10
    have h : i < n10.length := by omega
    refine (law_l3 hN (show i < N by omega) (fun n10 hl h10 => ih (i + 1) (by omega) n10 hl h10) n10[i].length 0 n10 h hl h10 (by omega)).step fun k => ?_
    simp only [outriderlaw17_JobCopies.l2]
    rw [if_pos (by omega)]
    rfl

theorem law_l1 (hb1 : l1.length < 1000000) (hb2 : l2.length < 1000000) (hb : l10.length < 1000000) (hr : ∀ r ∈ l10, r.length < 1000000) {n1 : List S58} {n10 : List (List S66)} (hN : n10.length < 1000000) (h10 : ∀ r ∈ n10, r.length < 1000000) {M : Nat} (hM : M < 1000000) :
    ∀ (d i : Nat), i + d = M → ∀ n2 : List S61, n2.length = M → Evt (fun k => outriderlaw17_JobCopies.l1 k (i : Int) a0 l1 l2 a3 a4 a5 a6 a7 a8 a9 l10 a0 l1 l2 a3 a4 a5 a6 a7 a8 a9 l10 a0 n1 n2 a3 a4 a5 a6 a7 a8 a9 n10) true := by
  intro d
  induction d with
  | zero =>
    intro i hi n2 hl
    refine (law_l2 (a0 := a0) (a3 := a3) (a4 := a4) (a5 := a5) (a6 := a6) (a7 := a7) (a8 := a8) (a9 := a9) (n1 := n1) (n2 := n2) hb1 hb2 hb hr hN n10.length 0 (by omega) n10 rfl h10).step fun k => ?_
    simp only [outriderlaw17_JobCopies.l1]
    rw [if_neg (by omega)]
    rfl
  | succ d ih =>
    intro i hi n2 hl
    refine (ih (i + 1) (by omega) (n2.set i ⟨(rd_T61 n2 i).f0, wrap64 (((rd_T61 n2 i).f1) + 1)⟩) (by rw [List.length_set]; exact hl)).step fun k => ?_
    simp only [outriderlaw17_JobCopies.l1]
    rw [if_pos (by omega), if_pos (by omega), wrap_nat (show i < M by omega) (by omega)]
    simp only [Int.toNat_natCast]

theorem law_l0 (hb1 : l1.length < 1000000) (hb2 : l2.length < 1000000) (hb : l10.length < 1000000) (hr : ∀ r ∈ l10, r.length < 1000000) {n2 : List S61} (hM : n2.length < 1000000) {n10 : List (List S66)} (hN : n10.length < 1000000) (h10 : ∀ r ∈ n10, r.length < 1000000) {M : Nat} (hM1 : M < 1000000) :
    ∀ (d i : Nat), i + d = M → ∀ n1 : List S58, n1.length = M → Evt (fun k => outriderlaw17_JobCopies.l0 k (i : Int) a0 l1 l2 a3 a4 a5 a6 a7 a8 a9 l10 a0 l1 l2 a3 a4 a5 a6 a7 a8 a9 l10 a0 n1 n2 a3 a4 a5 a6 a7 a8 a9 n10) true := by
  intro d
  induction d with
  | zero =>
    intro i hi n1 hl
    refine (law_l1 (a0 := a0) (a3 := a3) (a4 := a4) (a5 := a5) (a6 := a6) (a7 := a7) (a8 := a8) (a9 := a9) (n1 := n1) hb1 hb2 hb hr hN h10 hM n2.length 0 (by omega) n2 rfl).step fun k => ?_
    simp only [outriderlaw17_JobCopies.l0]
    rw [if_neg (by omega)]
    rfl
  | succ d ih =>
    intro i hi n1 hl
    refine (ih (i + 1) (by omega) (n1.set i ⟨wrap64 (((rd_T58 n1 i).f0) + 1), (rd_T58 n1 i).f1⟩) (by rw [List.length_set]; exact hl)).step fun k => ?_
    simp only [outriderlaw17_JobCopies.l0]
    rw [if_pos (by omega), if_pos (by omega), wrap_nat (show i < M by omega) (by omega)]
    simp only [Int.toNat_natCast]

theorem law_j1 (hb1 : l1.length < 1000000) (hb2 : l2.length < 1000000) (hb : l10.length < 1000000) (hr : ∀ r ∈ l10, r.length < 1000000) : Evt (fun k => outriderlaw17_JobCopies.j1 k false a0 l1 l2 a3 a4 a5 a6 a7 a8 a9 l10 a0 l1 l2 a3 a4 a5 a6 a7 a8 a9 l10) true := by
  refine Evt.step (g' := fun k => (job_Copy.f k a0 l1 l2 a3 a4 a5 a6 a7 a8 a9 l10).bind fun x => ((outriderref17_Same.f k x.1 x.2.1 x.2.2.1 x.2.2.2.1 x.2.2.2.2.1 x.2.2.2.2.2.1 x.2.2.2.2.2.2.1 x.2.2.2.2.2.2.2.1 x.2.2.2.2.2.2.2.2.1 x.2.2.2.2.2.2.2.2.2.1 x.2.2.2.2.2.2.2.2.2.2 a0 l1 l2 a3 a4 a5 a6 a7 a8 a9 l10).bind fun t => (if t = true then (outriderlaw17_JobCopies.l0 k 0 a0 l1 l2 a3 a4 a5 a6 a7 a8 a9 l10 a0 l1 l2 a3 a4 a5 a6 a7 a8 a9 l10 x.1 x.2.1 x.2.2.1 x.2.2.2.1 x.2.2.2.2.1 x.2.2.2.2.2.1 x.2.2.2.2.2.2.1 x.2.2.2.2.2.2.2.1 x.2.2.2.2.2.2.2.2.1 x.2.2.2.2.2.2.2.2.2.1 x.2.2.2.2.2.2.2.2.2.2) else (some false)))) ?_ fun k => ?_
  · refine Evt.bind (jobCopy hb1 hb2 hb hr) ?_
    refine Evt.bind (ref17Same hb1 hb2 hb hr) ?_
    rw [decide_eq_true ⟨⟨rfl, rfl, rfl, rfl, rfl, rfl, rfl, rfl⟩, rfl, rfl, rfl⟩]
    exact law_l0 hb1 hb2 hb hr hb2 hb hr hb1 l1.length 0 (by omega) l1 rfl
  · simp only [outriderlaw17_JobCopies.j1, Bool.false_eq_true, if_false]

theorem law_j0 (g : Bool) (hg : g = false → l1.length < 1000000 ∧ l2.length < 1000000 ∧ l10.length < 1000000 ∧ ∀ r ∈ l10, r.length < 1000000) : Evt (fun k => outriderlaw17_JobCopies.j0 k g a0 l1 l2 a3 a4 a5 a6 a7 a8 a9 l10 b0 m1 m2 b3 b4 b5 b6 b7 b8 b9 m10) true := by
  cases g with
  | true => exact (Evt.const true).step fun k => by simp only [outriderlaw17_JobCopies.j0, if_true]
  | false =>
    obtain ⟨hb1, hb2, hb, hr⟩ := hg rfl
    refine Evt.step (g' := fun k => (outriderref17_Copy.f k a0 l1 l2 a3 a4 a5 a6 a7 a8 a9 l10).bind fun x => ((job_Same.f k a0 l1 l2 a3 a4 a5 a6 a7 a8 a9 l10 b0 m1 m2 b3 b4 b5 b6 b7 b8 b9 m10).bind fun t => ((outriderref17_Same.f k a0 l1 l2 a3 a4 a5 a6 a7 a8 a9 l10 b0 m1 m2 b3 b4 b5 b6 b7 b8 b9 m10).bind fun u => (if (t != u) = true then (outriderlaw17_JobCopies.j1 k true a0 l1 l2 a3 a4 a5 a6 a7 a8 a9 l10 x.1 x.2.1 x.2.2.1 x.2.2.2.1 x.2.2.2.2.1 x.2.2.2.2.2.1 x.2.2.2.2.2.2.1 x.2.2.2.2.2.2.2.1 x.2.2.2.2.2.2.2.2.1 x.2.2.2.2.2.2.2.2.2.1 x.2.2.2.2.2.2.2.2.2.2) else ((job_Same.f k a0 l1 l2 a3 a4 a5 a6 a7 a8 a9 l10 x.1 x.2.1 x.2.2.1 x.2.2.2.1 x.2.2.2.2.1 x.2.2.2.2.2.1 x.2.2.2.2.2.2.1 x.2.2.2.2.2.2.2.1 x.2.2.2.2.2.2.2.2.1 x.2.2.2.2.2.2.2.2.2.1 x.2.2.2.2.2.2.2.2.2.2).bind fun v => (outriderlaw17_JobCopies.j1 k (!v) a0 l1 l2 a3 a4 a5 a6 a7 a8 a9 l10 x.1 x.2.1 x.2.2.1 x.2.2.2.1 x.2.2.2.2.1 x.2.2.2.2.2.1 x.2.2.2.2.2.2.1 x.2.2.2.2.2.2.2.1 x.2.2.2.2.2.2.2.2.1 x.2.2.2.2.2.2.2.2.2.1 x.2.2.2.2.2.2.2.2.2.2)))))) ?_ fun k => ?_
    · refine Evt.bind (ref17Copy hb1 hb2 hb hr) ?_
      refine Evt.bind (jobSame hb1 hb2 hb hr) ?_
      refine Evt.bind (ref17Same hb1 hb2 hb hr) ?_
      refine Evt.congr (Evt.bind (jobSame hb1 hb2 hb hr) ?_) fun k => by rw [if_neg (by simp)]
      rw [decide_eq_true ⟨⟨rfl, rfl, rfl, rfl, rfl, rfl, rfl, rfl⟩, rfl, rfl, rfl⟩]
      exact law_j1 hb1 hb2 hb hr
    · simp only [outriderlaw17_JobCopies.j0, Bool.false_eq_true, if_false]

theorem law_true : ∃ k, outriderlaw17_JobCopies.f k a0 l1 l2 a3 a4 a5 a6 a7 a8 a9 l10 b0 m1 m2 b3 b4 b5 b6 b7 b8 b9 m10 = some true := by
  suffices h : Evt (fun k => outriderlaw17_JobCopies.f k a0 l1 l2 a3 a4 a5 a6 a7 a8 a9 l10 b0 m1 m2 b3 b4 b5 b6 b7 b8 b9 m10) true by
    obtain ⟨k, h⟩ := h
    exact ⟨k, h k (Nat.le_refl _)⟩
  unfold outriderlaw17_JobCopies.f
  obtain ⟨g, hg1, hg2⟩ := great (a0 := a0) (l1 := l1) (l2 := l2) (a3 := a3) (a4 := a4) (a5 := a5) (a6 := a6) (a7 := a7) (a8 := a8) (a9 := a9) (l10 := l10)
  refine Evt.bind hg1 ?_
  cases g with
  | true => exact (law_j0 (b0 := b0) (m1 := m1) (m2 := m2) (b3 := b3) (b4 := b4) (b5 := b5) (b6 := b6) (b7 := b7) (b8 := b8) (b9 := b9) (m10 := m10) true hg2).congr fun k => if_pos rfl
  | false =>
    obtain ⟨g', hg3, hg4⟩ := great (a0 := b0) (l1 := m1) (l2 := m2) (a3 := b3) (a4 := b4) (a5 := b5) (a6 := b6) (a7 := b7) (a8 := b8) (a9 := b9) (l10 := m10)
    refine Evt.congr (Evt.bind hg3 (law_j0 g' fun _ => hg2 rfl)) fun k => by rw [if_neg Bool.false_ne_true]
end
end Go.Proofs.YtgkchcbnbbgdpaaGreatDoor.QJobCopies
