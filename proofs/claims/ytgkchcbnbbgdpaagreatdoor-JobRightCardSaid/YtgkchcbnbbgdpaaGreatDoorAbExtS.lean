/- strings.Split, strings.Cut at a separator of one letter, strings.Join: as lists of numbers. -/
import Derived.Test.YtgkchcbnbbgdpaaGreatDoorAbLev
import Derived.Shelf.Strings.Cut
import Derived.Shelf.Strings.Split
import Derived.Room.Shelf.Join48
namespace Go.Ab
open Go.Lib

/-- Cut at each letter 'c'. -/
def splitA (c : Nat) : List Nat → List (List Nat)
  | [] => [[]]
  | x :: xs => match Nat.beq x c with
    | true => [] :: splitA c xs
    | false => match splitA c xs with
      | h :: t => (x :: h) :: t
      | [] => [[x]]

/-- Cut at the first letter 'c'. -/
def cutA (c : Nat) : List Nat → List Nat × List Nat × Bool
  | [] => ([], [], false)
  | x :: xs => match Nat.beq x c with
    | true => ([], xs, true)
    | false => match cutA c xs with
      | (a, b, f) => (x :: a, b, f)

theorem index1 (l : List UInt8) (c : UInt8) : index l [c] = indexByte l c := Lib.index_one l c

theorem beq_byte (x c : UInt8) : Nat.beq x.toNat c.toNat = (x == c) := by
  by_cases h : x = c
  · subst h; simp [Nat.beq_refl]
  · have : x.toNat ≠ c.toNat := fun e => h (UInt8.toNat_inj.1 e)
    have h1 : Nat.beq x.toNat c.toNat = false := by
      cases e : Nat.beq x.toNat c.toNat with
      | false => rfl
      | true => exact absurd (Nat.eq_of_beq_eq_true e) this
    rw [h1]; simp [h]

theorem indexByte_cons (x : UInt8) (l : List UInt8) (c : UInt8) : indexByte (x :: l) c = if x == c then 0 else if indexByte l c == -1 then -1 else indexByte l c + 1 := rfl

/-- A letter ahead that is not 'c' goes to the first piece. -/
theorem splitK_ne {x c : UInt8} (h : (x == c) = false) (k : Nat) (l : List UInt8) : splitK [c] 0 k (x :: l) = match splitK [c] 0 k l with
    | p :: t => (x :: p) :: t
    | [] => [[x]] := by
  cases k with
  | zero => rfl
  | succ k =>
    simp only [splitK, index1, indexByte_cons, h, Bool.false_eq_true, if_false]
    have hge := indexByte_ge l c
    by_cases e : indexByte l c = -1
    · simp [e]
    · have h1 : (indexByte l c == -1) = false := by simpa using e
      have h2 : (indexByte l c + 1 == -1) = false := by simp; omega
      have h3 : (indexByte l c + 1).toNat = (indexByte l c).toNat + 1 := by omega
      simp [h1, h2, h3]

theorem splitK_eq {c : UInt8} (k : Nat) (l : List UInt8) : splitK [c] 0 (k + 1) (c :: l) = [] :: splitK [c] 0 k l := by
  simp [splitK, index1, indexByte_cons]

theorem splitA_of (c : UInt8) : ∀ (l : List UInt8), (splitK [c] 0 (l.count c) l).map (·.map (·.toNat)) = splitA c.toNat (l.map (·.toNat))
  | [] => rfl
  | x :: l => by
    have ih := splitA_of c l
    simp only [List.map_cons, splitA, beq_byte]
    cases h : x == c with
    | true =>
      have hx : x = c := by simpa using h
      subst hx
      rw [List.count_cons_self, splitK_eq]
      simp only [List.map_cons, List.map_nil, ih]
    | false =>
      have hx : x ≠ c := by simpa using h
      rw [List.count_cons_of_ne hx, splitK_ne h, ← ih]
      cases splitK [c] 0 (l.count c) l <;> rfl

theorem cutA_of (c : UInt8) : ∀ (l : List UInt8), ((cut l [c]).1.map (·.toNat), (cut l [c]).2.1.map (·.toNat), (cut l [c]).2.2) = cutA c.toNat (l.map (·.toNat))
  | [] => rfl
  | x :: l => by
    have ih := cutA_of c l
    simp only [List.map_cons, cutA, beq_byte]
    rw [← ih]
    unfold cut
    rw [index1, index1, indexByte_cons]
    have hge := indexByte_ge l c
    cases h : x == c with
    | true => simp
    | false =>
      by_cases e : indexByte l c = -1
      · simp [e]
      · have h1 : (indexByte l c == -1) = false := by simpa using e
        have h2 : 0 ≤ indexByte l c := by omega
        have h3 : 0 ≤ indexByte l c + 1 := by omega
        have h4 : (indexByte l c + 1).toNat = (indexByte l c).toNat + 1 := by omega
        simp [h1, h2, h3, h4]

theorem HR.below {σ : Ren} {h : H} {w w' : World} (r : HR σ h w) (b : RowKit.Below w.heap.size w w') : HR σ h w' ∧ Ext σ σ h h w w' :=
  ⟨⟨fun c L hc => Nat.lt_of_lt_of_le (r.bnd c L hc) b.size, fun c x L hc hs => (r.blk c x L hc hs).heap (b.block _ (r.bnd c L hs)), r.inj, r.nx⟩,
   ⟨Nat.le_refl _, fun _ _ => rfl, fun c h1 h2 => absurd h2 (by omega), b.os, b.tape, b.output, b.size, fun c hc _ => b.block c hc, fun c L ho hs => .inr ⟨c, L, ho, hs, rfl⟩, fun c L ho hs => .inr ⟨c, L, ho, hs, rfl⟩⟩⟩

theorem VR.str_inv {σ : Ren} {l : List Nat} {v' : Value} (h : VR σ (.str l) v') : ∃ s : ByteArray, v' = .string s ∧ l = s.data.toList.map (·.toNat) := by
  cases h with
  | str s => exact ⟨s, rfl, rfl⟩

theorem one_letter {s : ByteArray} {c : Nat} (h : [c] = s.data.toList.map (·.toNat)) : ∃ x : UInt8, s = ⟨#[x]⟩ ∧ c = x.toNat := by
  obtain ⟨⟨l⟩⟩ := s
  match l, h with
  | [], h => cases h
  | [x], h => injection h with h1 h2; exact ⟨x, rfl, h1⟩
  | _ :: _ :: _, h => cases h

theorem bytes_len (s : ByteArray) : (s.data.toList.map (·.toNat)).length = s.size := by rw [List.length_map]; rfl
theorem str_mk {σ : Ren} (s : ByteArray) (l : List UInt8) (h : l = s.data.toList) : VR σ (.str (l.map (·.toNat))) (.string s) := by subst h; exact .str s
theorem vr_str {σ : Ren} (l : List UInt8) : VR σ (.str (l.map (·.toNat))) (.string ⟨l.toArray⟩) := .str ⟨l.toArray⟩

section
variable {P : Program} {ρ : Shelf.Ren}
open Go.Proofs Go.Shelf

set_option maxHeartbeats 1000000 in
theorem Split1 (L : Lays.n146 P ρ) (hi9 : (P.info? (ρ.t 9)).map (fun i => (i.zero, i.size, i.bytes)) = some (some (.string ByteArray.empty), 1, 16)) (s : ByteArray) (c : UInt8) (w : World) (hs : s.size < 4294967281) :
    Calls P (ρ.f 146) #[.string s, .string ⟨#[c]⟩] w fun e w' =>
      e = .returned (.slice (some ⟨w.heap.size, 0, none⟩) (Lib.countB s ⟨#[c]⟩ + 1) (Lib.countB s ⟨#[c]⟩ + 1)) ∧ w' = w.alloc (.cells ((Lib.splitB ⟨#[c]⟩ 0 (Lib.countB s ⟨#[c]⟩) s).map Value.string).toArray (ρ.t 9)) := by
  have h1 : 1 ≤ (⟨#[c]⟩ : ByteArray).size := Nat.le_refl _
  have hle := Lib.countB_le ⟨#[c]⟩ h1 s.size s (Nat.le_refl _)
  have hlen := Lib.splitB_all ⟨#[c]⟩ h1 0 _ s rfl
  have c0 := Any.strings_genSplit_core { L with } hi9 s ⟨#[c]⟩ 0 (-1) (Lib.countB s ⟨#[c]⟩ + 1) w hs h1 (Nat.zero_le _)
    (fun x cc hx => (Any.strings_Index_one { L with } x c _).mono fun e w' he => ⟨by rw [he.1]; show _ = Ending.returned (Value.int .i64 (Lib.index x.data.toList [c])); rw [Lib.index_one], he.2⟩)
    ((Any.strings_Count_one { L with } s c w).mono fun e w' he => ⟨by rw [he.1]; show _ = Ending.returned (Value.int .i64 ((Lib.count s.data.toList [c] : Nat) : Int)); rw [Lib.count_one]; rfl, he.2⟩)
    (by decide) (by decide) (by rw [if_pos (by decide)]; omega)
  rw [Nat.add_sub_cancel, hlen] at c0
  have e2 : Lib.cellsOf (Lib.splitB ⟨#[c]⟩ 0 (Lib.countB s ⟨#[c]⟩) s) (Lib.countB s ⟨#[c]⟩ + 1) = ((Lib.splitB ⟨#[c]⟩ 0 (Lib.countB s ⟨#[c]⟩) s).map Value.string).toArray := by rw [← hlen]; exact Lib.cellsOf_full _
  rw [e2] at c0
  have t3 := L.t3; have t9 := L.t9; have t31 := L.t31
  have a3 := L.a3; have a9 := L.a9; have a31 := L.a31
  have z3 := L.z3; have v3 := L.v3; have z9 := L.z9; have v9 := L.v9; have z31 := L.z31; have v31 := L.v31
  have e221 : ∀ args w, (callFunc (ρ.f 221) args).run P w = .ok (.enter (ρ.f 221) args) w := enters_of L.f221 (by kernel_rfl) rfl
  go_enter L.f146, Body.n146_ntmps ρ
  go_wp2_with (go_at_fn (ρ.f 221); refine c0.mono ?_; rintro e w' ⟨rfl, hw⟩; rw [hw])
  go_ret
  exact ⟨rfl, rfl⟩

set_option maxHeartbeats 2000000 in
set_option maxRecDepth 100000 in
theorem CutIn1 (L : Lays.n220 P ρ) (s : ByteArray) (c : UInt8) (w : World) (hs : s.size < 4294967281) :
    Calls P (ρ.f 220) #[.string s, .string ⟨#[c]⟩] w fun e w' => e = .returned (.tuple #[.string ⟨(Lib.cut s.data.toList [c]).1.toArray⟩, .string ⟨(Lib.cut s.data.toList [c]).2.1.toArray⟩, .bool (Lib.cut s.data.toList [c]).2.2]) ∧ ∃ n, w' = w.drewN n := by
  rcases Lib.indexB_cases s ⟨#[c]⟩ with hix | ⟨i, hix, hroom⟩
  · obtain ⟨e1, e2, e3⟩ := Lib.cutB_miss s ⟨#[c]⟩ hix
    rw [e1, e2, e3]
    have t3 := L.t3; have t4 := L.t4; have t9 := L.t9
    have a3 : ∀ w, (isAgg (ρ.t 3)).run P w = .ok false w := run_isAgg_plain L.t3 rfl; have a4 : ∀ w, (isAgg (ρ.t 4)).run P w = .ok false w := run_isAgg_plain L.t4 rfl; have a9 : ∀ w, (isAgg (ρ.t 9)).run P w = .ok false w := run_isAgg_plain L.t9 rfl
    have e219 : ∀ args w, (callFunc (ρ.f 219) args).run P w = .ok (.enter (ρ.f 219) args) w := enters_of L.f219 (by kernel_rfl) rfl
    have mixed := L.mixed; have z3 := L.z3; have v3 := L.v3; have z4 := L.z4; have v4 := L.v4; have z9 := L.z9; have v9 := L.v9
    have hix' : Lib.indexByte s.data.toList c = -1 := by rw [← Lib.index_one]; exact hix
    go_enter L.f220, Body.n220_ntmps ρ
    go_wp2_with (go_at_fn (ρ.f 219); refine (Any.stringslite_Index_one { L with } _ _ _).mono ?_; rintro e w' ⟨rfl, rfl⟩; rw [hix'])
    go_ret3
    exact ⟨rfl, 0, rfl⟩
  · obtain ⟨e1, e2, e3⟩ := Lib.cutB_hit s ⟨#[c]⟩ i hix
    rw [e1, e2, e3]
    have c1 : (0 : Int) ≤ ↑i := by omega
    have c2 : (↑i : Int) ≤ ↑s.size := by omega
    have hone : (⟨#[c]⟩ : ByteArray).size = 1 := rfl
    have c3 : (0 : Int) ≤ ↑i + 1 := by omega
    have c4 : (↑i + 1 : Int) ≤ ↑s.size := by omega
    have c5 : IntKind.i64.wrap ((i : Int) + 1) = (i : Int) + 1 := by
      have : (i : Int) + 1 ≤ 4294967281 := by omega
      have h0 : 0 ≤ (i : Int) := by omega
      unfold IntKind.wrap IntKind.bits IntKind.signed
      simp
      omega
    have t3 := L.t3; have t4 := L.t4; have t9 := L.t9
    have a3 : ∀ w, (isAgg (ρ.t 3)).run P w = .ok false w := run_isAgg_plain L.t3 rfl; have a4 : ∀ w, (isAgg (ρ.t 4)).run P w = .ok false w := run_isAgg_plain L.t4 rfl; have a9 : ∀ w, (isAgg (ρ.t 9)).run P w = .ok false w := run_isAgg_plain L.t9 rfl
    have e219 : ∀ args w, (callFunc (ρ.f 219) args).run P w = .ok (.enter (ρ.f 219) args) w := enters_of L.f219 (by kernel_rfl) rfl
    have mixed := L.mixed; have z3 := L.z3; have v3 := L.v3; have z4 := L.z4; have v4 := L.v4; have z9 := L.z9; have v9 := L.v9
    have hix' : Lib.indexByte s.data.toList c = (i : Int) := by rw [← Lib.index_one]; exact hix
    go_enter L.f220, Body.n220_ntmps ρ
    go_wp2_with (go_at_fn (ρ.f 219); refine (Any.stringslite_Index_one { L with } _ _ _).mono ?_; rintro e w' ⟨rfl, rfl⟩; rw [hix'])
    go_region_o
    go_wp2
    go_ret3
    exact ⟨rfl, 1, rfl⟩

set_option maxHeartbeats 1000000 in
theorem Cut1 (L : Lays.n145 P ρ) (s : ByteArray) (c : UInt8) (w : World) (hs : s.size < 4294967281) :
    Calls P (ρ.f 145) #[.string s, .string ⟨#[c]⟩] w fun e w' => e = .returned (.tuple #[.string ⟨(Lib.cut s.data.toList [c]).1.toArray⟩, .string ⟨(Lib.cut s.data.toList [c]).2.1.toArray⟩, .bool (Lib.cut s.data.toList [c]).2.2]) ∧ ∃ n, w' = w.drewN n := by
  have t4 := L.t4; have t9 := L.t9; have t59 := L.t59
  have a4 : ∀ w, (isAgg (ρ.t 4)).run P w = .ok false w := run_isAgg_plain L.t4 rfl; have a9 : ∀ w, (isAgg (ρ.t 9)).run P w = .ok false w := run_isAgg_plain L.t9 rfl; have a59 : ∀ w, (isAgg (ρ.t 59)).run P w = .ok false w := run_isAgg_plain L.t59 rfl
  have e220 : ∀ args w, (callFunc (ρ.f 220) args).run P w = .ok (.enter (ρ.f 220) args) w := enters_of L.f220 (by kernel_rfl) rfl
  have mixed := L.mixed; have z4 := L.z4; have v4 := L.v4; have z9 := L.z9; have v9 := L.v9; have z59 := L.z59; have v59 := L.v59
  go_enter L.f145, Body.n145_ntmps ρ
  go_wp2_with (go_at_fn (ρ.f 220); refine (CutIn1 { L with } _ c _ hs).mono ?_; rintro e w' ⟨rfl, n, rfl⟩)
  go_ret3
  exact ⟨rfl, n, rfl⟩
end
end Go.Ab
