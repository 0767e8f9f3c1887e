/- Slices, fields, indexes, comparisons of other kinds. -/
import Derived.Test.YtgkchcbnbbgdpaaGreatDoorAbOps2
namespace Go.Ab

theorem asNat_ok {σ : Ren} {v : AV} {v' : Value} {n : Nat} (h : VR σ v v') (hn : asNat v = some n) : ∃ k, v' = .int k (n : Int) := by
  cases h <;> simp only [asNat] at hn <;> try (cases hn; done)
  split at hn
  · injection hn with hn; subst hn; exact ⟨_, rfl⟩
  · cases hn

section
variable {P : Program} {σ : Ren} {h : H} {w : World}

/-- A bound that was given, or is not. -/
def Bd (d : Nat) (x : Option Value) (n : Nat) : Prop := (x = none ∧ n = d) ∨ ∃ k, x = some (.int k (n : Int))

theorem optNat_ok {ts : TS} {a : Act} (ht : TR σ ts a.tmps) {d n : Nat} {x : Option Operand} (h : optNat ts d (x.map opd) = some n) : Bd d (x.map a.eval) n := by
  cases x with
  | none => simp [optNat] at h; exact .inl ⟨rfl, h.symm⟩
  | some x =>
    obtain ⟨k, hk⟩ := asNat_ok (evA_ok ht x) h
    exact .inr ⟨k, by simp [hk]⟩

theorem boundsA_ok {len : Nat} {l r : Option Nat} {x y : Nat} (h : boundsA len l r = some (x, y)) : l = some x ∧ r = some y ∧ x ≤ y ∧ y ≤ len := by
  unfold boundsA at h
  split at h
  · split at h
    · rename_i h1 h2
      injection h with h; injection h with e1 e2; subst e1; subst e2
      exact ⟨rfl, rfl, Nat.le_of_ble_eq_true h1, Nat.le_of_ble_eq_true h2⟩
    · cases h
  · cases h

theorem bounds_run (isS : Bool) (len cap : Nat) {lo hi : Option Value} {l r : Nat} (hlo : Bd 0 lo l) (hhi : Bd len hi r) (h1 : l ≤ r) (h2 : r ≤ cap) :
    (Instr.sliceBounds isS len cap lo hi none).run P w = .ok (l, r, cap) w := by
  rcases hlo with ⟨rfl, rfl⟩ | ⟨k, rfl⟩ <;> rcases hhi with ⟨rfl, rfl⟩ | ⟨k', rfl⟩ <;>
    simp [Instr.sliceBounds, run_sliceBound, h1, h2]

theorem bounds_run3 (isS : Bool) (len cap : Nat) {lo hi : Option Value} {k : IntKind} {l r m : Nat} (hlo : Bd 0 lo l) (hhi : ∃ k', hi = some (.int k' (r : Int))) (h1 : l ≤ r) (h2 : r ≤ m) (h3 : m ≤ cap) :
    (Instr.sliceBounds isS len cap lo hi (some (.int k (m : Int)))).run P w = .ok (l, r, m) w := by
  obtain ⟨k', rfl⟩ := hhi
  rcases hlo with ⟨rfl, rfl⟩ | ⟨k2, rfl⟩ <;>
    simp [Instr.sliceBounds, run_sliceBound, h1, h2, h3]

/-- The slice that a slice expression gives. -/
theorem sliced_ok {b o n z off c l r : Nat} {cap : Option Nat} {L : Loc} (hL : σ b = some L) (hl : n ≤ c) (hc : ∀ k, cap = some k → k = c) (hz : 0 < z) (hs : off + c * z ≤ L.size) (ho : c = 0 ∨ off = L.base + o)
    {m : Nat} {mx : Option Nat} (hm : (mx = none ∧ m = c) ∨ (mx = some m ∧ m ≤ c)) (h1 : l ≤ r) (h2 : r ≤ n) (h3 : r ≤ m) {v : AV} (hv : sliceA z b o n cap l r mx = some v) :
    VR σ v (.slice (if m = l then some ⟨L.blk, off, none⟩ else some ((⟨L.blk, off, none⟩ : Addr).add (l * z))) (r - l) (m - l)) := by
  have hadd : (⟨L.blk, off, none⟩ : Addr).add (l * z) = ⟨L.blk, off + l * z, none⟩ := Addr.add_lit _ _ _
  rw [hadd]
  have hmul : l * z + (m - l) * z = m * z := by rw [← Nat.add_mul]; congr 1; omega
  have hmc : m * z ≤ c * z := Nat.mul_le_mul_right z (by rcases hm with ⟨_, h⟩ | ⟨_, h⟩ <;> omega)
  have main : ∀ cap' : Option Nat, (∀ k, cap' = some k → k = m - l) → VR σ (.sl b (o + l * z) (r - l) cap' z) (.slice (if m = l then some ⟨L.blk, off, none⟩ else some ⟨L.blk, off + l * z, none⟩) (r - l) (m - l)) := by
    intro cap' hcap
    by_cases e : m = l
    · rw [if_pos e]
      have : m - l = 0 := by omega
      refine .sl hL (by omega) hcap hz (by rw [this]; omega) (.inl this)
    · rw [if_neg e]
      refine .sl hL (by omega) hcap hz (by omega) (.inr ?_)
      rcases ho with h | h
      · rcases hm with ⟨_, h'⟩ | ⟨_, h'⟩ <;> omega
      · omega
  unfold sliceA at hv
  cases mx with
  | none =>
    have hm' : m = c := by rcases hm with ⟨_, h⟩ | ⟨h, _⟩ <;> first | exact h | cases h
    simp only at hv
    cases cap with
    | none => simp only [Option.some.injEq] at hv; subst hv; exact main _ fun k hk => by cases hk
    | some k =>
      simp only at hv
      split at hv
      · injection hv with hv; subst hv
        have := hc k rfl
        exact main _ fun j hj => by injection hj with hj; omega
      · cases hv
  | some m' =>
    have hm' : m' = m := by rcases hm with ⟨h, _⟩ | ⟨h, _⟩ <;> first | (cases h; done) | (injection h)
    subst hm'
    simp only at hv
    split at hv
    · injection hv with hv; subst hv
      exact main _ fun j hj => by injection hj with hj; omega
    · cases hv

theorem sl_sim {t e : TypeId} {z : Nat} (ht : P.underlying t = some (.slice e)) (hz : sizeT P e = some z) {b o n l r : Nat} {cap : Option Nat} {x : Value} (hx : VR σ (.sl b o n cap z) x) {lo hi : Option Value} (hlo : Bd 0 lo l) (hhi : Bd n hi r)
    (h1 : l ≤ r) (h2 : r ≤ n) {v : AV} (hv : sliceA z b o n cap l r none = some v) : Gives P σ w (Instr.sliceAt t x lo hi none) v := by
  cases hx with
  | sl hL hl hc hzz hs ho =>
    have hb := bounds_run (P := P) (w := w) true n _ hlo hhi h1 (Nat.le_trans h2 hl)
    refine ⟨_, ?_, sliced_ok hL hl hc hzz hs ho (.inl ⟨rfl, rfl⟩) h1 h2 (Nat.le_trans h2 hl) hv⟩
    simp only [Instr.sliceAt, Instr.slice, Sem.run_bind, run_underlying ht, Result.andThen_ok, hb, run_sizeOf hz]
    simp only [Sem.run_pure, Option.map_some]

theorem sl_sim3 {t e : TypeId} {z : Nat} (ht : P.underlying t = some (.slice e)) (hz : sizeT P e = some z) {b o n l r m : Nat} {k : IntKind} {cap : Option Nat} {x : Value} (hx : VR σ (.sl b o n cap z) x) {lo hi : Option Value} (hlo : Bd 0 lo l) (hhi : ∃ k', hi = some (.int k' (r : Int)))
    (h1 : l ≤ r) (h2 : r ≤ n) {v : AV} (hv : sliceA z b o n cap l r (some m) = some v) : Gives P σ w (Instr.sliceAt t x lo hi (some (.int k (m : Int)))) v := by
  have hm : r ≤ m ∧ m ≤ n := by
    unfold sliceA at hv
    simp only at hv
    split at hv
    · rename_i a b; exact ⟨Nat.le_of_ble_eq_true a, Nat.le_of_ble_eq_true b⟩
    · cases hv
  cases hx with
  | sl hL hl hc hzz hs ho =>
    have hb := bounds_run3 (P := P) (w := w) (k := k) true n _ hlo hhi h1 hm.1 (Nat.le_trans hm.2 hl)
    refine ⟨_, ?_, sliced_ok hL hl hc hzz hs ho (.inr ⟨rfl, Nat.le_trans hm.2 hl⟩) h1 h2 hm.1 hv⟩
    simp only [Instr.sliceAt, Instr.slice, Sem.run_bind, run_underlying ht, Result.andThen_ok, hb, run_sizeOf hz]
    simp only [Sem.run_pure, Option.map_some]

theorem slNil_sim {t e : TypeId} {z : Nat} (ht : P.underlying t = some (.slice e)) (hz : sizeT P e = some z) {x : Value} (hx : VR σ .snil x) {lo hi mx : Option Value} {l r : Nat} (hlo : Bd 0 lo l) (hhi : Bd 0 hi r) (h1 : l ≤ r) (h2 : r ≤ 0)
    (hm : mx = none ∨ ((∃ k, mx = some (.int k ((0 : Nat) : Int))) ∧ ∃ k', hi = some (.int k' (r : Int)))) : Gives P σ w (Instr.sliceAt t x lo hi mx) .snil := by
  cases hx
  have hr : r = 0 := by omega
  have hl : l = 0 := by omega
  subst hr; subst hl
  rcases hm with rfl | ⟨⟨k, rfl⟩, hh⟩
  · have hb := bounds_run (P := P) (w := w) true 0 0 hlo hhi h1 h2
    refine ⟨.slice none 0 0, ?_, .snil⟩
    simp only [Instr.sliceAt, Instr.slice, Sem.run_bind, run_underlying ht, Result.andThen_ok, hb, run_sizeOf hz]
    simp
  · have hb := bounds_run3 (P := P) (w := w) (k := k) true 0 0 hlo hh h1 (Nat.le_refl 0) (Nat.le_refl 0)
    refine ⟨.slice none 0 0, ?_, .snil⟩
    simp only [Instr.sliceAt, Instr.slice, Sem.run_bind, run_underlying ht, Result.andThen_ok, hb, run_sizeOf hz]
    simp

theorem slArr_sim {t e : TypeId} {n z : Nat} (ht : P.underlying t = some (.array n e)) (hz : sizeT P e = some z) (hz0 : 0 < z) {b o l r : Nat} {x : Value} (hx : VR σ (.ptr b o) x) (hin : ∀ L, σ b = some L → L.base + o + n * z ≤ L.size)
    {lo hi : Option Value} (hlo : Bd 0 lo l) (hhi : Bd n hi r) (h1 : l ≤ r) (h2 : r ≤ n) {v : AV} (hv : sliceA z b o n none l r none = some v) : Gives P σ w (Instr.sliceAt t x lo hi none) v := by
  cases hx with
  | ptr hL =>
    have hb := bounds_run (P := P) (w := w) false n n hlo hhi h1 h2
    refine ⟨_, ?_, sliced_ok hL (Nat.le_refl n) (by intro k hk; cases hk) hz0 (hin _ hL) (.inr rfl) (.inl ⟨rfl, rfl⟩) h1 h2 h2 hv⟩
    simp only [Instr.sliceAt, Instr.sureAddr, Sem.run_bind, run_underlying ht, Sem.run_pure, Result.andThen_ok, hb, run_sizeOf hz]
    split <;> rfl

theorem slStr_sim {t : TypeId} (ht : P.underlying t = some .string) {s : ByteArray} {lo hi : Option Value} {l r : Nat} (hlo : Bd 0 lo l) (hhi : Bd s.size hi r) (h1 : l ≤ r) (h2 : r ≤ s.size) :
    Gives P σ w (Instr.sliceAt t (.string s) lo hi none) (.str (((s.data.toList.map (·.toNat)).drop l).take (r - l))) := by
  have hb := bounds_run (P := P) (w := w) false s.size s.size hlo hhi h1 h2
  refine ⟨.string (s.extract l r), ?_, ?_⟩
  · simp only [Instr.sliceAt, Instr.slice, Sem.run_bind, run_underlying ht, Result.andThen_ok, hb]
    simp [hb]
  · have : (s.extract l r).data.toList.map (·.toNat) = ((s.data.toList.map (·.toNat)).drop l).take (r - l) := by
      rw [ByteArray.data_extract, Array.toList_extract, List.extract_eq_take_drop, List.map_take, List.map_drop]
    rw [← this]
    exact .str _
end
end Go.Ab
