/- JobValid: the plain law, first half: the reductions' check, the instructions' check. -/
import Derived.Test.YtgkchcbnbbgdpaaGreatDoorJvK
import Derived.Test.YtgkchcbnbbgdpaaGreatDoorJvI
import Derived.IntWalk
import Derived.Test.YtgkchcbnbbgdpaaGreatDoorJvM
set_option linter.unusedVariables false
set_option linter.unusedSimpArgs false
namespace Go.Proofs.YtgkchcbnbbgdpaaGreatDoor.QJobValid
open Go.RowKit Go.Proofs.YtgkchcbnbbgdpaaGreatDoorW.PrintWords Go.Proofs.YtgkchcbnbbgdpaaGreatDoorW.PrintLast
def Evt {α : Type} (g : Nat → Option α) (r : α) : Prop := ∃ k0, ∀ k, k0 ≤ k → g k = some r
theorem Evt.step {α : Type} {g g' : Nat → Option α} {r : α} (h : Evt g' r) (e : ∀ k, g (k + 1) = g' k) : Evt g r := by
  obtain ⟨k0, h⟩ := h
  refine ⟨k0 + 1, fun k hk => ?_⟩
  obtain ⟨m, rfl⟩ : ∃ m, k = m + 1 := ⟨k - 1, by omega⟩
  rw [e]; exact h m (by omega)
theorem Evt.const {α : Type} (r : α) : Evt (fun _ => some r) r := ⟨0, fun _ _ => rfl⟩
theorem Evt.congr {α : Type} {g g' : Nat → Option α} {r : α} (h : Evt g' r) (e : ∀ k, g k = g' k) : Evt g r := by
  obtain ⟨k0, h⟩ := h
  exact ⟨k0, fun k hk => (e k).trans (h k hk)⟩
theorem Evt.bind {α β : Type} {g : Nat → Option α} {f : Nat → α → Option β} {r : α} {s : β} (hg : Evt g r) (hf : Evt (fun k => f k r) s) : Evt (fun k => (g k).bind (f k)) s := by
  obtain ⟨k0, h0⟩ := hg
  obtain ⟨k1, h1⟩ := hf
  refine ⟨k0 + k1, fun k hk => ?_⟩
  show (g k).bind (f k) = some s
  rw [h0 k (by omega)]; exact h1 k (by omega)
theorem wrap_nat {i n : Nat} (h : i < n) (hn : n < 4611686018427387904) : wrap64 ((i : Int) + 1) = ((i + 1 : Nat) : Int) := by
  unfold wrap64
  omega
theorem rd58 {xs : List S58} {i : Nat} (h : i < xs.length) : rd_T58 xs (i : Int) = xs[i] := by simp [rd_T58, List.getD, h]
theorem rd61 {xs : List S61} {i : Nat} (h : i < xs.length) : rd_T61 xs (i : Int) = xs[i] := by simp [rd_T61, List.getD, h]
theorem rd66 {xs : List S66} {i : Nat} (h : i < xs.length) : rd_T66 xs (i : Int) = xs[i] := by simp [rd_T66, List.getD, h]
theorem rdL2 {xs : List (List S66)} {i : Nat} (h : i < xs.length) : rd_L2 xs (i : Int) = xs[i] := by simp [rd_L2, List.getD, h]
theorem right14 (op : Int) : outriderref14_Right.f op = some (decide (¬ (op < 1 ∨ 7 < op))) := by
  unfold outriderref14_Right.f
  by_cases h : op ≥ 1
  · rw [if_pos h, Option.some.injEq, decide_eq_decide]; omega
  · rw [if_neg h, decide_eq_false (by omega)]
theorem check14_l {l : List S61} (hb : l.length < 1000000) : ∀ (d i : Nat), i + d = l.length → Evt (fun k => outriderref14_Check.l0 k l (i : Int)) (redGo (l.drop i)) := by
  intro d
  induction d with
  | zero =>
    intro i hi
    rw [List.drop_of_length_le (by omega)]
    refine (Evt.const 0).step fun k => ?_
    simp only [outriderref14_Check.l0]
    rw [if_neg (by omega)]
  | succ d ih =>
    intro i hi
    have h : i < l.length := by omega
    rw [List.drop_eq_getElem_cons h, redGo]
    by_cases hr : l[i].f0 < 1 ∨ 7 < l[i].f0
    · rw [if_pos hr]
      refine (Evt.const 140).step fun k => ?_
      simp only [outriderref14_Check.l0]
      rw [if_pos (by omega), if_pos (by omega), rd61 h, right14, decide_eq_false (fun e => e hr)]
      rfl
    · rw [if_neg hr]
      refine (ih (i + 1) (by omega)).step fun k => ?_
      simp only [outriderref14_Check.l0]
      rw [if_pos (by omega), if_pos (by omega), rd61 h, right14, decide_eq_true hr, wrap_nat h (by omega)]
      rfl
theorem check14 {l : List S61} (hb : l.length < 1000000) : Evt (fun k => outriderref14_Check.f k l) (redCode l) := by
  unfold redCode outriderref14_Check.f
  by_cases h : 4 < l.length
  · rw [if_pos h]
    exact (Evt.const 171).congr fun k => if_pos (by omega)
  · rw [if_neg h]
    exact (check14_l hb l.length 0 (by omega)).congr fun k => if_neg (by omega)
theorem falls_some (a b c d e f : Int) : ∃ x, ins_Falls.f a b c d e f = some x ∧ outriderref08_Falls.f a b c d e f = some x := by
  unfold ins_Falls.f outriderref08_Falls.f
  by_cases h1 : a = 1
  · exact ⟨false, if_pos h1, if_pos h1⟩
  · by_cases h2 : a = 10
    · exact ⟨false, by rw [if_neg h1, if_pos h2], by rw [if_neg h1, if_pos h2]⟩
    · exact ⟨a != 13, by rw [if_neg h1, if_neg h2], by rw [if_neg h1, if_neg h2]⟩
theorem checkI_l {l : List S66} {c : Int} (hb : l.length < 1000000) (h0 : 0 < l.length) : ∀ (d i : Nat), i + d = l.length →
    ∃ r, Evt (fun k => ins_Check.l0 k l c l (l.length : Int) (i : Int)) r ∧ Evt (fun k => outriderref08_Check.l0 k l c (i : Int)) r := by
  intro d
  induction d with
  | zero =>
    intro i hi
    have hw : wrap64 ((l.length : Int) - 1) = (l.length : Int) - 1 := by unfold wrap64; omega
    generalize hx : rd_T66 l ((l.length : Int) - 1) = x
    obtain ⟨b, e1, e2⟩ := falls_some x.f0 x.f1 x.f2 x.f3 x.f4 x.f5
    refine ⟨if b = true then ((l.length : Int) - 1, 85) else (0, 0), (Evt.const _).step fun k => ?_, (Evt.const _).step fun k => ?_⟩
    · simp only [ins_Check.l0]
      rw [if_neg (by omega), hw, if_pos (by omega), if_pos (by omega), hx, e1]
      cases b <;> rfl
    · simp only [outriderref08_Check.l0]
      rw [if_neg (by omega), hw, if_pos (by omega), if_pos (by omega), hx, e2]
      cases b <;> rfl
  | succ d ih =>
    intro i hi
    have h : i < l.length := by omega
    by_cases e : Go.Ab.oneI l[i].f0 l[i].f1 l[i].f2 l[i].f3 l[i].f4 l[i].f5 c (l.length : Int) = 0
    · obtain ⟨r, h1, h2⟩ := ih (i + 1) (by omega)
      refine ⟨r, h1.step fun k => ?_, h2.step fun k => ?_⟩
      · simp only [ins_Check.l0, ins_One.f]
        rw [if_pos (by omega), if_pos (by omega), if_pos (by omega), rd66 h, Option.bind_some, if_pos e, wrap_nat h (by omega)]
      · simp only [outriderref08_Check.l0, outriderref08_One.f]
        rw [if_pos (by omega), if_pos (by omega), rd66 h, Option.bind_some, if_pos e, wrap_nat h (by omega)]
    · refine ⟨((i : Int), Go.Ab.oneI l[i].f0 l[i].f1 l[i].f2 l[i].f3 l[i].f4 l[i].f5 c (l.length : Int)), (Evt.const _).step fun k => ?_, (Evt.const _).step fun k => ?_⟩
      · simp only [ins_Check.l0, ins_One.f]
        rw [if_pos (by omega), if_pos (by omega), if_pos (by omega), rd66 h, Option.bind_some, if_neg e]
      · simp only [outriderref08_Check.l0, outriderref08_One.f]
        rw [if_pos (by omega), if_pos (by omega), rd66 h, Option.bind_some, if_neg e]
theorem checkI {l : List S66} {c : Int} (hb : l.length < 1000000) : ∃ r, Evt (fun k => ins_Check.f k l c) r ∧ Evt (fun k => outriderref08_Check.f k l c) r := by
  unfold ins_Check.f outriderref08_Check.f
  by_cases h0 : l.length = 0
  · exact ⟨(0, 80), ((Evt.const (0, 80)).step (g := fun k => ins_Check.j0 k l c true) fun k => by simp only [ins_Check.j0, if_true]).congr fun k => if_pos (by omega),
      ((Evt.const (0, 80)).step (g := fun k => outriderref08_Check.j0 k l c true) fun k => by simp only [outriderref08_Check.j0, if_true]).congr fun k => if_pos (by omega)⟩
  · by_cases h6 : l.length > 600
    · exact ⟨(0, 80), ((Evt.const (0, 80)).step (g := fun k => ins_Check.j0 k l c true) fun k => by simp only [ins_Check.j0, if_true]).congr fun k => by rw [if_neg (by omega), decide_eq_true (by omega)],
        ((Evt.const (0, 80)).step (g := fun k => outriderref08_Check.j0 k l c true) fun k => by simp only [outriderref08_Check.j0, if_true]).congr fun k => by rw [if_neg (by omega), decide_eq_true (by omega)]⟩
    · obtain ⟨r, h1, h2⟩ := checkI_l (c := c) hb (by omega) l.length 0 (by omega)
      exact ⟨r, (h1.step (g := fun k => ins_Check.j0 k l c false) fun k => by simp only [ins_Check.j0, Bool.false_eq_true, if_false]; rfl).congr fun k => by rw [if_neg (by omega), decide_eq_false (by omega)],
        (h2.step (g := fun k => outriderref08_Check.j0 k l c false) fun k => by simp only [outriderref08_Check.j0, Bool.false_eq_true, if_false]; rfl).congr fun k => by rw [if_neg (by omega), decide_eq_false (by omega)]⟩
end Go.Proofs.YtgkchcbnbbgdpaaGreatDoor.QJobValid
/- JobValid: the plain law: the document's memory of cells has the error memCode. -/
namespace Go.Proofs.YtgkchcbnbbgdpaaGreatDoor.QJobValid
open Go.RowKit Go.Proofs.YtgkchcbnbbgdpaaGreatDoorW.PrintWords Go.Proofs.YtgkchcbnbbgdpaaGreatDoorW.PrintLast
theorem last_l {x : List S58} {a : Int} (hb : x.length < 1000000) : ∀ n : Nat, n ≤ x.length → ∃ r, Evt (fun k => outriderref13_last.l0 k x a ((n : Int) - 1)) r ∧ (r.2 = true ↔ ∃ j, ∃ h : j < x.length, j < n ∧ x[j].f0 = a) := by
  intro n
  induction n with
  | zero =>
    intro hn
    refine ⟨(0, false), (Evt.const (0, false)).step fun k => ?_, ?_⟩
    · simp only [outriderref13_last.l0]
      rw [if_neg (by omega)]
    · constructor
      · intro h; cases h
      · rintro ⟨j, _, h, _⟩; omega
  | succ n ih =>
    intro hn
    have h : n < x.length := by omega
    have hc : (((n + 1 : Nat) : Int) - 1) = (n : Int) := by omega
    rw [hc]
    by_cases e : x[n].f0 = a
    · refine ⟨(x[n].f1, true), (Evt.const _).step fun k => ?_, ?_⟩
      · simp only [outriderref13_last.l0]
        rw [if_pos (by omega), if_pos (by omega), if_pos (by omega), rd58 h, if_pos e]
      · exact ⟨fun _ => ⟨n, h, by omega, e⟩, fun _ => rfl⟩
    · obtain ⟨r, h1, h2⟩ := ih (by omega)
      refine ⟨r, h1.step fun k => ?_, h2.trans ?_⟩
      · simp only [outriderref13_last.l0]
        have hw : wrap64 ((n : Int) - 1) = (n : Int) - 1 := by unfold wrap64; omega
        rw [if_pos (by omega), if_pos (by omega), if_pos (by omega), rd58 h, if_neg e, hw]
      · constructor
        · rintro ⟨j, hj, h3, h4⟩; exact ⟨j, hj, by omega, h4⟩
        · rintro ⟨j, hj, h3, h4⟩
          by_cases e2 : j = n
          · subst e2; exact absurd h4 e
          · exact ⟨j, hj, by omega, h4⟩
theorem last_f {x : List S58} {a : Int} (hb : x.length < 1000000) : ∃ r, Evt (fun k => outriderref13_last.f k x a) r ∧ (r.2 = true ↔ a ∈ x.map S58.f0) := by
  obtain ⟨r, h1, h2⟩ := last_l (a := a) hb x.length (Nat.le_refl _)
  have hw : wrap64 ((x.length : Int) - 1) = (x.length : Int) - 1 := by unfold wrap64; omega
  refine ⟨r, h1.congr fun k => by unfold outriderref13_last.f; rw [hw], h2.trans ?_⟩
  rw [List.mem_map]
  constructor
  · rintro ⟨j, hj, _, e⟩; exact ⟨x[j], List.getElem_mem hj, e⟩
  · rintro ⟨c, hc, e⟩
    obtain ⟨j, hj, rfl⟩ := List.getElem_of_mem hc
    exact ⟨j, hj, hj, e⟩
theorem of_l1 {words : Int} {l : List S58} (hb : l.length < 1000000) (hw : words ≤ 64) : ∀ (d i : Nat) (out : List Int), (i : Int) + d = words → out.length = i → ∃ o, Evt (fun k => outriderref13_Of.l1 k words l out (i : Int)) (o, 0) := by
  intro d
  induction d with
  | zero =>
    intro i out hi ho
    refine ⟨out, (Evt.const (out, 0)).step fun k => ?_⟩
    simp only [outriderref13_Of.l1]
    rw [if_neg (by omega)]
  | succ d ih =>
    intro i out hi ho
    obtain ⟨r, h1, _⟩ := last_f (a := (i : Int)) hb
    obtain ⟨o, h2⟩ := ih (i + 1) (out ++ [r.1]) (by omega) (by rw [List.length_append, ho]; rfl)
    refine ⟨o, Evt.step (g' := fun k => (outriderref13_last.f k l (i : Int)).bind fun p => (if out.length < 17592186044416 then (outriderref13_Of.l1 k words l (out ++ [p.1]) (wrap64 ((i : Int) + 1))) else (none))) ?_ fun k => ?_⟩
    · refine Evt.bind h1 (h2.congr fun k => ?_)
      rw [if_pos (by omega), wrap_nat (show i < 64 by omega) (by omega)]
    · simp only [outriderref13_Of.l1]
      rw [if_pos (by omega)]
theorem of_l0 {words : Int} {l : List S58} (hb : l.length < 1000000) (hw0 : 1 ≤ words) (hw : words ≤ 64) : ∀ (d i : Nat), i + d = l.length →
    ∃ o, Evt (fun k => outriderref13_Of.l0 k words l (i : Int)) (o, memGo words ((l.take i).map S58.f0).reverse (l.drop i)) := by
  intro d
  induction d with
  | zero =>
    intro i hi
    obtain ⟨o, h⟩ := of_l1 (words := words) hb hw words.toNat 0 [] (by omega) rfl
    refine ⟨o, ?_⟩
    rw [List.drop_of_length_le (by omega)]
    refine Evt.step (g' := fun k => outriderref13_Of.l1 k words l [] 0) h fun k => ?_
    simp only [outriderref13_Of.l0]
    rw [if_neg (by omega)]
  | succ d ih =>
    intro i hi
    have h : i < l.length := by omega
    rw [List.drop_eq_getElem_cons h]
    by_cases hr : l[i].f0 < 0 ∨ words ≤ l[i].f0
    · rw [memGo, if_pos hr]
      refine ⟨[], Evt.step (g' := fun k => outriderref13_Of.j2 k words l (i : Int) true) ((Evt.const ([], 131)).step fun k => by simp only [outriderref13_Of.j2, if_true]) fun k => ?_⟩
      simp only [outriderref13_Of.l0]
      rw [if_pos (by omega), if_pos (by omega), rd58 h]
      by_cases h0 : l[i].f0 < 0
      · rw [if_pos h0]
      · rw [if_neg h0, decide_eq_true (by omega)]
    · obtain ⟨r, h1, h2⟩ := last_f (x := l.take i) (a := l[i].f0) (by rw [List.length_take]; omega)
      have hmem : (r.2 = true) ↔ l[i].f0 ∈ ((l.take i).map S58.f0).reverse := by rw [List.mem_reverse]; exact h2
      have go : ∀ (o : List Int) (c : Int), Evt (fun k => (outriderref13_last.f k (l.take i) l[i].f0).bind fun p => (if p.2 = true then (some (([] : List Int), (61 : Int))) else (outriderref13_Of.l0 k words l ((i + 1 : Nat) : Int)))) (o, c) → Evt (fun k => outriderref13_Of.l0 k words l (i : Int)) (o, c) := by
        intro o c hE
        refine Evt.step (g' := fun k => outriderref13_Of.j2 k words l (i : Int) false) (hE.step fun k => ?_) fun k => ?_
        · simp only [outriderref13_Of.j2, Bool.false_eq_true, if_false]
          rw [if_pos (by omega), if_pos (by omega), if_pos (by omega), rd58 h, wrap_nat h (by omega)]
          simp only [Int.toNat_natCast]
        · simp only [outriderref13_Of.l0]
          rw [if_pos (by omega), if_pos (by omega), rd58 h, if_neg (by omega), decide_eq_false (by omega)]
      by_cases hm : l[i].f0 ∈ ((l.take i).map S58.f0).reverse
      · rw [memGo, if_neg hr, if_pos hm]
        refine ⟨[], go _ _ (Evt.bind h1 ((Evt.const _).congr fun k => if_pos (hmem.2 hm)))⟩
      · obtain ⟨o, h3⟩ := ih (i + 1) (by omega)
        rw [memGo, if_neg hr, if_neg hm]
        refine ⟨o, go _ _ (Evt.bind h1 (Evt.congr ?_ fun k => if_neg (fun e => hm (hmem.1 e))))⟩
        rw [List.take_succ_eq_append_getElem h, List.map_append, List.reverse_append] at h3
        exact h3
theorem of_f {words : Int} {l : List S58} (hb : l.length < 1000000) : ∃ o, Evt (fun k => outriderref13_Of.f k words l) (o, memCode words l) := by
  unfold outriderref13_Of.f memCode
  by_cases h1 : words < 1
  · exact ⟨[], by rw [if_pos (Or.inl h1)]; exact ((Evt.const ([], 130)).step (g := fun k => outriderref13_Of.j0 k words l true) fun k => by simp only [outriderref13_Of.j0, if_true]).congr fun k => if_pos h1⟩
  · by_cases h2 : 64 < words
    · exact ⟨[], by rw [if_pos (Or.inr h2)]; exact ((Evt.const ([], 130)).step (g := fun k => outriderref13_Of.j0 k words l true) fun k => by simp only [outriderref13_Of.j0, if_true]).congr fun k => by rw [if_neg h1, decide_eq_true (by omega)]⟩
    · obtain ⟨o, h3⟩ := of_l0 (words := words) hb (by omega) (by omega) l.length 0 (by omega)
      refine ⟨o, ?_⟩
      rw [if_neg (by omega)]
      exact (h3.step (g := fun k => outriderref13_Of.j0 k words l false) fun k => by simp only [outriderref13_Of.j0, Bool.false_eq_true, if_false]; rfl).congr fun k => by rw [if_neg h1, decide_eq_false (by omega)]
end Go.Proofs.YtgkchcbnbbgdpaaGreatDoor.QJobValid
/- JobValid: the plain law: plan.Count's error is taskCode, for numbers of 64 bits. -/
namespace Go.Proofs.YtgkchcbnbbgdpaaGreatDoor.QJobValid
open Go.RowKit Go.Proofs.YtgkchcbnbbgdpaaGreatDoorW.PrintWords Go.Proofs.YtgkchcbnbbgdpaaGreatDoorW.PrintLast
def in64 (n : Int) : Prop := -9223372036854775808 ≤ n ∧ n ≤ 9223372036854775807
theorem u64_mod (n : Int) : IntKind.u64.wrap n = n % 18446744073709551616 := by
  simp [IntKind.wrap, IntKind.signed, IntKind.bits]
theorem quo_gt {a b : Int} (ha : 0 ≤ a) (ha2 : a ≤ 18446744073709551614) (hb : 1 ≤ b) : 200 < IntKind.u64.wrap (IntKind.u64.wrap (a.tdiv b) + 1) ↔ 200 * b ≤ a := by
  rw [IntWalk.u64_quo a b ⟨ha, by omega, hb⟩]
  have h1 : 0 ≤ a / b := Int.ediv_nonneg ha (by omega)
  have h2 : a / b ≤ a := Int.ediv_le_self b ha
  rw [IntWalk.u64_in _ ⟨by omega, by omega⟩]
  rw [← Int.le_ediv_iff_mul_le (show 0 < b by omega)]
  omega
theorem count_task {kd lo hi step items stages : Int} (h1 : in64 lo) (h2 : in64 hi) (h3 : in64 step) (h4 : in64 items) (h5 : in64 stages) : Go.Ab.countO kd lo hi step items stages = some (taskCode kd lo hi step items stages) := by
  unfold in64 at h1 h2 h3 h4 h5
  unfold Go.Ab.countO taskCode
  by_cases k1 : kd = 1
  · rw [if_pos k1]
    unfold Go.Ab.count1
    by_cases i0 : items = 0
    · by_cases s0 : stages = 0
      · rw [if_pos i0, if_pos s0, if_pos (show kd = 1 ∧ items = 0 ∧ stages = 0 from ⟨k1, i0, s0⟩)]
        unfold taskFor
        by_cases t0 : step = 0
        · rw [if_pos t0, if_pos t0]
        · rw [if_neg t0, if_neg t0]
          by_cases tn : step < 0
          · rw [if_pos tn, if_neg (show ¬ 0 < step by omega)]
            by_cases e : lo ≤ hi
            · rw [if_pos e, if_neg (by omega)]
            · have w1 : IntKind.u64.wrap (0 - IntKind.u64.wrap step) = -step := by simp only [u64_mod]; omega
              have w2 : IntKind.u64.wrap (IntKind.u64.wrap (0 - IntKind.u64.wrap (IntKind.u64.wrap hi - IntKind.u64.wrap lo)) - 1) = lo - hi - 1 := by simp only [u64_mod]; omega
              rw [if_neg e, w1, w2, if_neg (by omega)]
              have q := quo_gt (a := lo - hi - 1) (b := -step) (by omega) (by omega) (by omega)
              by_cases c : hi < lo + 200 * step
              · rw [if_pos (q.2 (by omega)), if_pos c]
              · rw [if_neg (fun x => c (by have := q.1 x; omega)), if_neg c]
          · rw [if_neg tn, if_pos (show 0 < step by omega)]
            by_cases e : hi ≤ lo
            · rw [if_pos e, if_neg (by omega)]
            · have w1 : IntKind.u64.wrap step = step := by simp only [u64_mod]; omega
              have w2 : IntKind.u64.wrap (IntKind.u64.wrap (IntKind.u64.wrap hi - IntKind.u64.wrap lo) - 1) = hi - lo - 1 := by simp only [u64_mod]; omega
              rw [if_neg e, w1, w2, if_neg (by omega)]
              have q := quo_gt (a := hi - lo - 1) (b := step) (by omega) (by omega) (by omega)
              by_cases c : lo + 200 * step < hi
              · rw [if_pos (q.2 (by omega)), if_pos c]
              · rw [if_neg (fun x => c (by have := q.1 x; omega)), if_neg c]
      · rw [if_pos i0, if_neg s0, if_neg (by omega), if_neg (by omega)]
    · rw [if_neg i0, if_neg (by omega), if_neg (by omega)]
  · rw [if_neg k1, if_neg (show ¬ (kd = 1 ∧ items = 0 ∧ stages = 0) by omega)]
    by_cases k2 : kd = 2
    · rw [if_pos k2]
      unfold Go.Ab.count2
      by_cases a1 : lo = 0
      · by_cases a2 : hi = 0
        · by_cases a3 : step = 0
          · by_cases a4 : items < 0
            · rw [if_pos a1, if_pos a2, if_pos a3, if_pos a4, if_neg (by omega)]
            · by_cases a5 : stages < 1
              · rw [if_pos a1, if_pos a2, if_pos a3, if_neg a4, if_pos a5, if_neg (by omega)]
              · by_cases a6 : 6 < stages
                · rw [if_pos a1, if_pos a2, if_pos a3, if_neg a4, if_neg a5, if_pos a6, if_neg (by omega)]
                · rw [if_pos a1, if_pos a2, if_pos a3, if_neg a4, if_neg a5, if_neg a6, if_neg (show ¬ stages = 0 by omega), if_pos (show kd = 2 ∧ lo = 0 ∧ hi = 0 ∧ step = 0 ∧ 0 ≤ items ∧ 1 ≤ stages ∧ stages ≤ 6 by omega)]
                  have hs : stages = 1 ∨ stages = 2 ∨ stages = 3 ∨ stages = 4 ∨ stages = 5 ∨ stages = 6 := by omega
                  rcases hs with rfl | rfl | rfl | rfl | rfl | rfl
                  · rw [show IntKind.i64.wrap (Int.tdiv 200 1) = 200 from rfl]; by_cases c : 200 < items; rw [if_pos c, if_pos (by omega)]; rw [if_neg c, if_neg (by omega)]
                  · rw [show IntKind.i64.wrap (Int.tdiv 200 2) = 100 from rfl]; by_cases c : 100 < items; rw [if_pos c, if_pos (by omega)]; rw [if_neg c, if_neg (by omega)]
                  · rw [show IntKind.i64.wrap (Int.tdiv 200 3) = 66 from rfl]; by_cases c : 66 < items; rw [if_pos c, if_pos (by omega)]; rw [if_neg c, if_neg (by omega)]
                  · rw [show IntKind.i64.wrap (Int.tdiv 200 4) = 50 from rfl]; by_cases c : 50 < items; rw [if_pos c, if_pos (by omega)]; rw [if_neg c, if_neg (by omega)]
                  · rw [show IntKind.i64.wrap (Int.tdiv 200 5) = 40 from rfl]; by_cases c : 40 < items; rw [if_pos c, if_pos (by omega)]; rw [if_neg c, if_neg (by omega)]
                  · rw [show IntKind.i64.wrap (Int.tdiv 200 6) = 33 from rfl]; by_cases c : 33 < items; rw [if_pos c, if_pos (by omega)]; rw [if_neg c, if_neg (by omega)]
          · rw [if_pos a1, if_pos a2, if_neg a3, if_neg (by omega)]
        · rw [if_pos a1, if_neg a2, if_neg (by omega)]
      · rw [if_neg a1, if_neg (by omega)]
    · rw [if_neg k2, if_neg (by omega)]
end Go.Proofs.YtgkchcbnbbgdpaaGreatDoor.QJobValid
/- JobValid: the plain law: the law comes to true, whatever the job (numbers of 64 bits). -/
namespace Go.Proofs.YtgkchcbnbbgdpaaGreatDoor.QJobValid
open Go.RowKit Go.Proofs.YtgkchcbnbbgdpaaGreatDoorW.PrintWords Go.Proofs.YtgkchcbnbbgdpaaGreatDoorW.PrintLast
section
variable {a0 : Int} {l1 : List S58} {l2 : List S61} {a3 a4 a5 a6 a7 a8 a9 : Int} {l10 : List (List S66)}
theorem great_l0 (hb : l10.length < 1000000) : ∀ (d i : Nat), i + d = l10.length → ∃ g, Evt (fun k => outriderlaw17_Great.l0 k (i : Int) a0 l1 l2 a3 a4 a5 a6 a7 a8 a9 l10) g ∧ (g = false → ∀ (j : Nat) (h : j < l10.length), i ≤ j → l10[j].length ≤ 700) := by
  intro d
  induction d with
  | zero =>
    intro i hi
    refine ⟨false, (Evt.const false).step fun k => ?_, fun _ j h1 h2 => by omega⟩
    simp only [outriderlaw17_Great.l0]
    rw [if_neg (by omega)]
  | succ d ih =>
    intro i hi
    have h : i < l10.length := by omega
    by_cases hg : l10[i].length > 700
    · refine ⟨true, (Evt.const true).step fun k => ?_, fun e => by cases e⟩
      simp only [outriderlaw17_Great.l0]
      rw [if_pos (by omega), if_pos (by omega), rdL2 h, if_pos (by omega)]
    · obtain ⟨g, hg1, hg2⟩ := ih (i + 1) (by omega)
      refine ⟨g, hg1.step fun k => ?_, fun e j h1 h2 => ?_⟩
      · simp only [outriderlaw17_Great.l0]
        rw [if_pos (by omega), if_pos (by omega), rdL2 h, if_neg (by omega), wrap_nat h (by omega)]
      · by_cases e2 : j = i
        · subst e2; omega
        · exact hg2 e j h1 (by omega)
theorem great : ∃ g, Evt (fun k => outriderlaw17_Great.f k a0 l1 l2 a3 a4 a5 a6 a7 a8 a9 l10) g ∧ (g = false → l1.length < 1000000 ∧ l2.length < 1000000 ∧ l10.length < 1000000 ∧ ∀ r ∈ l10, r.length < 1000000) := by
  unfold outriderlaw17_Great.f
  have hT : Evt (fun k => outriderlaw17_Great.j0 k true a0 l1 l2 a3 a4 a5 a6 a7 a8 a9 l10) true := (Evt.const true).step fun k => by simp only [outriderlaw17_Great.j0, if_true]
  by_cases h1 : l1.length > 200
  · exact ⟨true, hT.congr fun k => if_pos (by omega), fun e => by cases e⟩
  · by_cases h2 : l2.length > 50
    · exact ⟨true, hT.congr fun k => by rw [if_neg (by omega), if_pos (by omega)], fun e => by cases e⟩
    · by_cases h10 : l10.length > 50
      · refine ⟨true, hT.congr fun k => ?_, fun e => by cases e⟩
        rw [if_neg (by omega), if_neg (by omega), decide_eq_true (by omega)]
      · obtain ⟨g, hg1, hg2⟩ := great_l0 (a0 := a0) (l1 := l1) (l2 := l2) (a3 := a3) (a4 := a4) (a5 := a5) (a6 := a6) (a7 := a7) (a8 := a8) (a9 := a9) (l10 := l10) (by omega) l10.length 0 (by omega)
        refine ⟨g, hg1.step fun k => ?_, fun e => ⟨by omega, by omega, by omega, fun r hr => ?_⟩⟩
        · rw [if_neg (by omega), if_neg (by omega), decide_eq_false (by omega)]
          simp only [outriderlaw17_Great.j0, Bool.false_eq_true, if_false]
          rfl
        · obtain ⟨j, hj, rfl⟩ := List.getElem_of_mem hr
          have := hg2 e j hj (by omega)
          omega
theorem valid_l0 (hb : l10.length < 1000000) (hr : ∀ r ∈ l10, r.length < 1000000) : ∀ (d i : Nat), i + d = l10.length →
    ∃ r, Evt (fun k => job_Valid.l0 k l10 (l10.length : Int) (i : Int) a0 l1 l2 a3 a4 a5 a6 a7 a8 a9 l10) r ∧ Evt (fun k => outriderref17_Valid.l0 k (l10.length : Int) (i : Int) a0 l1 l2 a3 a4 a5 a6 a7 a8 a9 l10) r := by
  intro d
  induction d with
  | zero =>
    intro i hi
    refine ⟨0, (Evt.const 0).step fun k => ?_, (Evt.const 0).step fun k => ?_⟩
    · simp only [job_Valid.l0]; rw [if_neg (by omega)]
    · simp only [outriderref17_Valid.l0]; rw [if_neg (by omega)]
  | succ d ih =>
    intro i hi
    have h : i < l10.length := by omega
    obtain ⟨p, c1, c2⟩ := checkI (l := l10[i]) (c := (l2.length : Int)) (hr _ (List.getElem_mem h))
    have e1 : ∀ r, Evt (fun k => if p.2 = 0 then (job_Valid.l0 k l10 (l10.length : Int) ((i + 1 : Nat) : Int) a0 l1 l2 a3 a4 a5 a6 a7 a8 a9 l10) else (some p.2)) r → Evt (fun k => job_Valid.l0 k l10 (l10.length : Int) (i : Int) a0 l1 l2 a3 a4 a5 a6 a7 a8 a9 l10) r := fun r hE => by
      refine Evt.step (g' := fun k => (ins_Check.f k l10[i] (l2.length : Int)).bind fun p => if p.2 = 0 then (job_Valid.l0 k l10 (l10.length : Int) ((i + 1 : Nat) : Int) a0 l1 l2 a3 a4 a5 a6 a7 a8 a9 l10) else (some p.2)) (Evt.bind c1 hE) fun k => ?_
      simp only [job_Valid.l0]
      rw [if_pos (by omega), if_pos (by omega), if_pos (by omega), rdL2 h, wrap_nat h (by omega)]
    have e2 : ∀ r, Evt (fun k => if p.2 = 0 then (outriderref17_Valid.l0 k (l10.length : Int) ((i + 1 : Nat) : Int) a0 l1 l2 a3 a4 a5 a6 a7 a8 a9 l10) else (some p.2)) r → Evt (fun k => outriderref17_Valid.l0 k (l10.length : Int) (i : Int) a0 l1 l2 a3 a4 a5 a6 a7 a8 a9 l10) r := fun r hE => by
      refine Evt.step (g' := fun k => (outriderref08_Check.f k l10[i] (l2.length : Int)).bind fun p => if p.2 = 0 then (outriderref17_Valid.l0 k (l10.length : Int) ((i + 1 : Nat) : Int) a0 l1 l2 a3 a4 a5 a6 a7 a8 a9 l10) else (some p.2)) (Evt.bind c2 hE) fun k => ?_
      simp only [outriderref17_Valid.l0]
      rw [if_pos (by omega), if_pos (by omega), if_pos (by omega), rdL2 h, wrap_nat h (by omega)]
    by_cases e : p.2 = 0
    · obtain ⟨r, h1, h2⟩ := ih (i + 1) (by omega)
      exact ⟨r, e1 r (h1.congr fun k => if_pos e), e2 r (h2.congr fun k => if_pos e)⟩
    · exact ⟨p.2, e1 _ ((Evt.const _).congr fun k => if_neg e), e2 _ ((Evt.const _).congr fun k => if_neg e)⟩
theorem valid_j0 (h5 : in64 a5) (h6 : in64 a6) (h7 : in64 a7) (h8 : in64 a8) (h9 : in64 a9) (hb : l10.length < 1000000) (hr : ∀ r ∈ l10, r.length < 1000000) (c : Bool) :
    ∃ r, Evt (fun k => job_Valid.j0 k c a0 l1 l2 a3 a4 a5 a6 a7 a8 a9 l10) r ∧ Evt (fun k => outriderref17_Valid.j0 k c a0 l1 l2 a3 a4 a5 a6 a7 a8 a9 l10) r := by
  cases c with
  | true => exact ⟨110, (Evt.const 110).step fun k => by simp only [job_Valid.j0, if_true], (Evt.const 110).step fun k => by simp only [outriderref17_Valid.j0, if_true]⟩
  | false =>
    by_cases ht : taskCode a4 a5 a6 a7 a8 a9 = 0
    · have key : ∀ m : Int, plan_Stages.f a4 a5 a6 a7 a8 a9 = some m → ∃ r, Evt (fun k => job_Valid.j0 k false a0 l1 l2 a3 a4 a5 a6 a7 a8 a9 l10) r ∧ Evt (fun k => outriderref17_Valid.j1 k m a0 l1 l2 a3 a4 a5 a6 a7 a8 a9 l10) r := fun m hm => by
        by_cases hl : (l10.length : Int) = m
        · obtain ⟨r, h1, h2⟩ := valid_l0 (a0 := a0) (l1 := l1) (l2 := l2) (a3 := a3) (a4 := a4) (a5 := a5) (a6 := a6) (a7 := a7) (a8 := a8) (a9 := a9) (l10 := l10) hb hr l10.length 0 (by omega)
          refine ⟨r, h1.step fun k => ?_, h2.step fun k => ?_⟩
          · simp only [job_Valid.j0, plan_Count.f, Bool.false_eq_true, if_false]
            rw [count_task h5 h6 h7 h8 h9, Option.bind_some, if_pos ht, hm, Option.bind_some, if_pos hl]
            rfl
          · simp only [outriderref17_Valid.j1]
            rw [if_pos hl, ← hl]
            rfl
        · refine ⟨170, (Evt.const 170).step fun k => ?_, (Evt.const 170).step fun k => ?_⟩
          · simp only [job_Valid.j0, plan_Count.f, Bool.false_eq_true, if_false]
            rw [count_task h5 h6 h7 h8 h9, Option.bind_some, if_pos ht, hm, Option.bind_some, if_neg hl]
          · simp only [outriderref17_Valid.j1]
            rw [if_neg hl]
      by_cases hk : a4 = 2
      · obtain ⟨r, h1, h2⟩ := key a9 (by unfold plan_Stages.f; rw [if_pos hk])
        refine ⟨r, h1, h2.step fun k => ?_⟩
        simp only [outriderref17_Valid.j0, outriderref15_Tasks.f, Bool.false_eq_true, if_false]
        rw [if_pos (show (-9223372036854775808 ≤ a5 ∧ a5 ≤ 9223372036854775807) ∧ (-9223372036854775808 ≤ a6 ∧ a6 ≤ 9223372036854775807) ∧ (-9223372036854775808 ≤ a7 ∧ a7 ≤ 9223372036854775807) from ⟨h5, h6, h7⟩), Option.bind_some, if_pos ht, if_pos hk]
      · obtain ⟨r, h1, h2⟩ := key 1 (by unfold plan_Stages.f; rw [if_neg hk])
        refine ⟨r, h1, h2.step fun k => ?_⟩
        simp only [outriderref17_Valid.j0, outriderref15_Tasks.f, Bool.false_eq_true, if_false]
        rw [if_pos (show (-9223372036854775808 ≤ a5 ∧ a5 ≤ 9223372036854775807) ∧ (-9223372036854775808 ≤ a6 ∧ a6 ≤ 9223372036854775807) ∧ (-9223372036854775808 ≤ a7 ∧ a7 ≤ 9223372036854775807) from ⟨h5, h6, h7⟩), Option.bind_some, if_pos ht, if_neg hk]
    · refine ⟨taskCode a4 a5 a6 a7 a8 a9, (Evt.const _).step fun k => ?_, (Evt.const _).step fun k => ?_⟩
      · simp only [job_Valid.j0, plan_Count.f, Bool.false_eq_true, if_false]
        rw [count_task h5 h6 h7 h8 h9, Option.bind_some, if_neg ht]
      · simp only [outriderref17_Valid.j0, outriderref15_Tasks.f, Bool.false_eq_true, if_false]
        rw [if_pos (show (-9223372036854775808 ≤ a5 ∧ a5 ≤ 9223372036854775807) ∧ (-9223372036854775808 ≤ a6 ∧ a6 ≤ 9223372036854775807) ∧ (-9223372036854775808 ≤ a7 ∧ a7 ≤ 9223372036854775807) from ⟨h5, h6, h7⟩), Option.bind_some, if_neg ht]
theorem valid_f (h5 : in64 a5) (h6 : in64 a6) (h7 : in64 a7) (h8 : in64 a8) (h9 : in64 a9) (hb1 : l1.length < 1000000) (hb2 : l2.length < 1000000) (hb : l10.length < 1000000) (hr : ∀ r ∈ l10, r.length < 1000000) :
    ∃ r, Evt (fun k => job_Valid.f k a0 l1 l2 a3 a4 a5 a6 a7 a8 a9 l10) r ∧ Evt (fun k => outriderref17_Valid.f k a0 l1 l2 a3 a4 a5 a6 a7 a8 a9 l10) r := by
  unfold job_Valid.f outriderref17_Valid.f mem_Of.f red_New.f
  obtain ⟨o, ho⟩ := of_f (words := a0) hb1
  by_cases e1 : memCode a0 l1 = 0
  · by_cases e2 : redCode l2 = 0
    · by_cases e3 : a3 < 1
      · obtain ⟨r, h1, h2⟩ := valid_j0 (a0 := a0) (l1 := l1) (l2 := l2) (a3 := a3) (a4 := a4) (a5 := a5) (a6 := a6) (a7 := a7) (a8 := a8) (a9 := a9) (l10 := l10) h5 h6 h7 h8 h9 hb hr true
        refine ⟨r, h1.congr fun k => ?_, Evt.bind ho (Evt.congr (Evt.bind (check14 hb2) (h2.congr fun k => ?_)) fun k => if_pos e1)⟩
        · rw [Option.bind_some, if_pos e1, Option.bind_some, if_pos e2, if_pos e3]
        · rw [if_pos e2, if_pos e3]
      · obtain ⟨r, h1, h2⟩ := valid_j0 (a0 := a0) (l1 := l1) (l2 := l2) (a3 := a3) (a4 := a4) (a5 := a5) (a6 := a6) (a7 := a7) (a8 := a8) (a9 := a9) (l10 := l10) h5 h6 h7 h8 h9 hb hr (decide (a3 > 4000))
        refine ⟨r, h1.congr fun k => ?_, Evt.bind ho (Evt.congr (Evt.bind (check14 hb2) (h2.congr fun k => ?_)) fun k => if_pos e1)⟩
        · rw [Option.bind_some, if_pos e1, Option.bind_some, if_pos e2, if_neg e3]
        · rw [if_pos e2, if_neg e3]
    · refine ⟨redCode l2, (Evt.const _).congr fun k => ?_, Evt.bind ho (Evt.congr (Evt.bind (check14 hb2) ((Evt.const _).congr fun k => if_neg e2)) fun k => if_pos e1)⟩
      rw [Option.bind_some, if_pos e1, Option.bind_some, if_neg e2]
  · refine ⟨memCode a0 l1, (Evt.const _).congr fun k => ?_, Evt.bind ho ((Evt.const _).congr fun k => if_neg e1)⟩
    rw [Option.bind_some, if_neg e1]
theorem law_true (h5 : in64 a5) (h6 : in64 a6) (h7 : in64 a7) (h8 : in64 a8) (h9 : in64 a9) : ∃ k, outriderlaw17_JobValid.f k a0 l1 l2 a3 a4 a5 a6 a7 a8 a9 l10 = some true := by
  suffices h : Evt (fun k => outriderlaw17_JobValid.f k a0 l1 l2 a3 a4 a5 a6 a7 a8 a9 l10) true by
    obtain ⟨k, h⟩ := h
    exact ⟨k, h k (Nat.le_refl _)⟩
  unfold outriderlaw17_JobValid.f
  obtain ⟨g, hg1, hg2⟩ := great (a0 := a0) (l1 := l1) (l2 := l2) (a3 := a3) (a4 := a4) (a5 := a5) (a6 := a6) (a7 := a7) (a8 := a8) (a9 := a9) (l10 := l10)
  refine Evt.bind hg1 ?_
  cases g with
  | true => exact (Evt.const true).congr fun k => if_pos rfl
  | false =>
    obtain ⟨hb1, hb2, hb, hr⟩ := hg2 rfl
    obtain ⟨r, h1, h2⟩ := valid_f (a0 := a0) (l1 := l1) (l2 := l2) (a3 := a3) (a4 := a4) (a5 := a5) (a6 := a6) (a7 := a7) (a8 := a8) (a9 := a9) (l10 := l10) h5 h6 h7 h8 h9 hb1 hb2 hb hr
    refine Evt.congr (g' := fun k => (job_Valid.f k a0 l1 l2 a3 a4 a5 a6 a7 a8 a9 l10).bind fun t => (outriderref17_Valid.f k a0 l1 l2 a3 a4 a5 a6 a7 a8 a9 l10).bind fun u => if t = u then (outriderlaw17_alive.f.bind fun v => some v) else some false) ?_ fun k => by rw [if_neg Bool.false_ne_true]
    refine Evt.bind h1 ?_
    refine Evt.bind h2 ?_
    exact (Evt.const true).congr fun k => by rw [if_pos rfl]; rfl
end
end Go.Proofs.YtgkchcbnbbgdpaaGreatDoor.QJobValid
