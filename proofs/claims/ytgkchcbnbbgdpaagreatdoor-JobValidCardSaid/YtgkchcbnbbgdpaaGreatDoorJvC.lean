/- Joined out of: AbExtS AbExtT AbLays AbT AbAlive0 AbAlive. -/
import Derived.Test.YtgkchcbnbbgdpaaGreatDoorJvB
import Derived.Shelf.Strings.Cut
import Derived.Shelf.Strings.Split
import Derived.Room.Shelf.Join48
import Derived.Test.YtgkchcbnbbgdpaaGreatDoorProg
import Derived.KernelRfl
set_option linter.unusedVariables false
set_option linter.unusedSimpArgs false
namespace Go.Ab
open Go.Lib
def splitA (c : Nat) : List Nat → List (List Nat)
  | [] => [[]]
  | x :: xs => match Nat.beq x c with
    | true => [] :: splitA c xs
    | false => match splitA c xs with
      | h :: t => (x :: h) :: t
      | [] => [[x]]
def cutA (c : Nat) : List Nat → List Nat × List Nat × Bool
  | [] => ([], [], false)
  | x :: xs => match Nat.beq x c with
    | true => ([], xs, true)
    | false => match cutA c xs with
      | (a, b, f) => (x :: a, b, f)
theorem index1 (l : List UInt8) (c : UInt8) : index l [c] = indexByte l c := Lib.index_one l c
theorem beq_byte (x c : UInt8) : Nat.beq x.toNat c.toNat = (x == c) := by
  by_cases h : x = c
  · subst h; simp [Nat.beq_refl]
  · have : x.toNat ≠ c.toNat := fun e => h (UInt8.toNat_inj.1 e)
    have h1 : Nat.beq x.toNat c.toNat = false := by
      cases e : Nat.beq x.toNat c.toNat with
      | false => rfl
      | true => exact absurd (Nat.eq_of_beq_eq_true e) this
    rw [h1]; simp [h]
theorem indexByte_cons (x : UInt8) (l : List UInt8) (c : UInt8) : indexByte (x :: l) c = if x == c then 0 else if indexByte l c == -1 then -1 else indexByte l c + 1 := rfl
theorem splitK_ne {x c : UInt8} (h : (x == c) = false) (k : Nat) (l : List UInt8) : splitK [c] 0 k (x :: l) = match splitK [c] 0 k l with
    | p :: t => (x :: p) :: t
    | [] => [[x]] := by
  cases k with
  | zero => rfl
  | succ k =>
    simp only [splitK, index1, indexByte_cons, h, Bool.false_eq_true, if_false]
    have hge := indexByte_ge l c
    by_cases e : indexByte l c = -1
    · simp [e]
    · have h1 : (indexByte l c == -1) = false := by simpa using e
      have h2 : (indexByte l c + 1 == -1) = false := by simp; omega
      have h3 : (indexByte l c + 1).toNat = (indexByte l c).toNat + 1 := by omega
      simp [h1, h2, h3]
theorem splitK_eq {c : UInt8} (k : Nat) (l : List UInt8) : splitK [c] 0 (k + 1) (c :: l) = [] :: splitK [c] 0 k l := by
  simp [splitK, index1, indexByte_cons]
theorem splitA_of (c : UInt8) : ∀ (l : List UInt8), (splitK [c] 0 (l.count c) l).map (·.map (·.toNat)) = splitA c.toNat (l.map (·.toNat))
  | [] => rfl
  | x :: l => by
    have ih := splitA_of c l
    simp only [List.map_cons, splitA, beq_byte]
    cases h : x == c with
    | true =>
      have hx : x = c := by simpa using h
      subst hx
      rw [List.count_cons_self, splitK_eq]
      simp only [List.map_cons, List.map_nil, ih]
    | false =>
      have hx : x ≠ c := by simpa using h
      rw [List.count_cons_of_ne hx, splitK_ne h, ← ih]
      cases splitK [c] 0 (l.count c) l <;> rfl
theorem cutA_of (c : UInt8) : ∀ (l : List UInt8), ((cut l [c]).1.map (·.toNat), (cut l [c]).2.1.map (·.toNat), (cut l [c]).2.2) = cutA c.toNat (l.map (·.toNat))
  | [] => rfl
  | x :: l => by
    have ih := cutA_of c l
    simp only [List.map_cons, cutA, beq_byte]
    rw [← ih]
    unfold cut
    rw [index1, index1, indexByte_cons]
    have hge := indexByte_ge l c
    cases h : x == c with
    | true => simp
    | false =>
      by_cases e : indexByte l c = -1
      · simp [e]
      · have h1 : (indexByte l c == -1) = false := by simpa using e
        have h2 : 0 ≤ indexByte l c := by omega
        have h3 : 0 ≤ indexByte l c + 1 := by omega
        have h4 : (indexByte l c + 1).toNat = (indexByte l c).toNat + 1 := by omega
        simp [h1, h2, h3, h4]
theorem HR.below {σ : Ren} {h : H} {w w' : World} (r : HR σ h w) (b : RowKit.Below w.heap.size w w') : HR σ h w' ∧ Ext σ σ h h w w' :=
  ⟨⟨fun c L hc => Nat.lt_of_lt_of_le (r.bnd c L hc) b.size, fun c x L hc hs => (r.blk c x L hc hs).heap (b.block _ (r.bnd c L hs)), r.inj, r.nx⟩,
   ⟨Nat.le_refl _, fun _ _ => rfl, fun c h1 h2 => absurd h2 (by omega), b.os, b.tape, b.output, b.size, fun c hc _ => b.block c hc, fun c L ho hs => .inr ⟨c, L, ho, hs, rfl⟩, fun c L ho hs => .inr ⟨c, L, ho, hs, rfl⟩⟩⟩
theorem VR.str_inv {σ : Ren} {l : List Nat} {v' : Value} (h : VR σ (.str l) v') : ∃ s : ByteArray, v' = .string s ∧ l = s.data.toList.map (·.toNat) := by
  cases h with
  | str s => exact ⟨s, rfl, rfl⟩
theorem one_letter {s : ByteArray} {c : Nat} (h : [c] = s.data.toList.map (·.toNat)) : ∃ x : UInt8, s = ⟨#[x]⟩ ∧ c = x.toNat := by
  obtain ⟨⟨l⟩⟩ := s
  match l, h with
  | [], h => cases h
  | [x], h => injection h with h1 h2; exact ⟨x, rfl, h1⟩
  | _ :: _ :: _, h => cases h
theorem bytes_len (s : ByteArray) : (s.data.toList.map (·.toNat)).length = s.size := by rw [List.length_map]; rfl
theorem vr_str {σ : Ren} (l : List UInt8) : VR σ (.str (l.map (·.toNat))) (.string ⟨l.toArray⟩) := .str ⟨l.toArray⟩
section
variable {P : Program} {ρ : Shelf.Ren}
open Go.Proofs Go.Shelf
set_option maxHeartbeats 1000000 in
theorem Split1 (L : Lays.n146 P ρ) (hi9 : (P.info? (ρ.t 9)).map (fun i => (i.zero, i.size, i.bytes)) = some (some (.string ByteArray.empty), 1, 16)) (s : ByteArray) (c : UInt8) (w : World) (hs : s.size < 4294967281) :
    Calls P (ρ.f 146) #[.string s, .string ⟨#[c]⟩] w fun e w' =>
      e = .returned (.slice (some ⟨w.heap.size, 0, none⟩) (Lib.countB s ⟨#[c]⟩ + 1) (Lib.countB s ⟨#[c]⟩ + 1)) ∧ w' = w.alloc (.cells ((Lib.splitB ⟨#[c]⟩ 0 (Lib.countB s ⟨#[c]⟩) s).map Value.string).toArray (ρ.t 9)) := by
  have h1 : 1 ≤ (⟨#[c]⟩ : ByteArray).size := Nat.le_refl _
  have hle := Lib.countB_le ⟨#[c]⟩ h1 s.size s (Nat.le_refl _)
  have hlen := Lib.splitB_all ⟨#[c]⟩ h1 0 _ s rfl
  have c0 := Any.strings_genSplit_core { L with } hi9 s ⟨#[c]⟩ 0 (-1) (Lib.countB s ⟨#[c]⟩ + 1) w hs h1 (Nat.zero_le _)
    (fun x cc hx => (Any.strings_Index_one { L with } x c _).mono fun e w' he => ⟨by rw [he.1]; show _ = Ending.returned (Value.int .i64 (Lib.index x.data.toList [c])); rw [Lib.index_one], he.2⟩)
    ((Any.strings_Count_one { L with } s c w).mono fun e w' he => ⟨by rw [he.1]; show _ = Ending.returned (Value.int .i64 ((Lib.count s.data.toList [c] : Nat) : Int)); rw [Lib.count_one]; rfl, he.2⟩)
    (by decide) (by decide) (by rw [if_pos (by decide)]; omega)
  rw [Nat.add_sub_cancel, hlen] at c0
  have e2 : Lib.cellsOf (Lib.splitB ⟨#[c]⟩ 0 (Lib.countB s ⟨#[c]⟩) s) (Lib.countB s ⟨#[c]⟩ + 1) = ((Lib.splitB ⟨#[c]⟩ 0 (Lib.countB s ⟨#[c]⟩) s).map Value.string).toArray := by rw [← hlen]; exact Lib.cellsOf_full _
  rw [e2] at c0
  have t3 := L.t3; have t9 := L.t9; have t31 := L.t31
  have a3 := L.a3; have a9 := L.a9; have a31 := L.a31
  have z3 := L.z3; have v3 := L.v3; have z9 := L.z9; have v9 := L.v9; have z31 := L.z31; have v31 := L.v31
  have e221 : ∀ args w, (callFunc (ρ.f 221) args).run P w = .ok (.enter (ρ.f 221) args) w := enters_of L.f221 (by kernel_rfl) rfl
  go_enter L.f146, Body.n146_ntmps ρ
  go_wp2_with (go_at_fn (ρ.f 221); refine c0.mono ?_; rintro e w' ⟨rfl, hw⟩; rw [hw])
  go_ret
  exact ⟨rfl, rfl⟩
set_option maxHeartbeats 2000000 in
set_option maxRecDepth 100000 in
theorem CutIn1 (L : Lays.n220 P ρ) (s : ByteArray) (c : UInt8) (w : World) (hs : s.size < 4294967281) :
    Calls P (ρ.f 220) #[.string s, .string ⟨#[c]⟩] w fun e w' => e = .returned (.tuple #[.string ⟨(Lib.cut s.data.toList [c]).1.toArray⟩, .string ⟨(Lib.cut s.data.toList [c]).2.1.toArray⟩, .bool (Lib.cut s.data.toList [c]).2.2]) ∧ ∃ n, w' = w.drewN n := by
  rcases Lib.indexB_cases s ⟨#[c]⟩ with hix | ⟨i, hix, hroom⟩
  · obtain ⟨e1, e2, e3⟩ := Lib.cutB_miss s ⟨#[c]⟩ hix
    rw [e1, e2, e3]
    have t3 := L.t3; have t4 := L.t4; have t9 := L.t9
    have a3 : ∀ w, (isAgg (ρ.t 3)).run P w = .ok false w := run_isAgg_plain L.t3 rfl; have a4 : ∀ w, (isAgg (ρ.t 4)).run P w = .ok false w := run_isAgg_plain L.t4 rfl; have a9 : ∀ w, (isAgg (ρ.t 9)).run P w = .ok false w := run_isAgg_plain L.t9 rfl
    have e219 : ∀ args w, (callFunc (ρ.f 219) args).run P w = .ok (.enter (ρ.f 219) args) w := enters_of L.f219 (by kernel_rfl) rfl
    have mixed := L.mixed; have z3 := L.z3; have v3 := L.v3; have z4 := L.z4; have v4 := L.v4; have z9 := L.z9; have v9 := L.v9
    have hix' : Lib.indexByte s.data.toList c = -1 := by rw [← Lib.index_one]; exact hix
    go_enter L.f220, Body.n220_ntmps ρ
    go_wp2_with (go_at_fn (ρ.f 219); refine (Any.stringslite_Index_one { L with } _ _ _).mono ?_; rintro e w' ⟨rfl, rfl⟩; rw [hix'])
    go_ret3
    exact ⟨rfl, 0, rfl⟩
  · obtain ⟨e1, e2, e3⟩ := Lib.cutB_hit s ⟨#[c]⟩ i hix
    rw [e1, e2, e3]
    have c1 : (0 : Int) ≤ ↑i := by omega
    have c2 : (↑i : Int) ≤ ↑s.size := by omega
    have hone : (⟨#[c]⟩ : ByteArray).size = 1 := rfl
    have c3 : (0 : Int) ≤ ↑i + 1 := by omega
    have c4 : (↑i + 1 : Int) ≤ ↑s.size := by omega
    have c5 : IntKind.i64.wrap ((i : Int) + 1) = (i : Int) + 1 := by
      have : (i : Int) + 1 ≤ 4294967281 := by omega
      have h0 : 0 ≤ (i : Int) := by omega
      unfold IntKind.wrap IntKind.bits IntKind.signed
      simp
      omega
    have t3 := L.t3; have t4 := L.t4; have t9 := L.t9
    have a3 : ∀ w, (isAgg (ρ.t 3)).run P w = .ok false w := run_isAgg_plain L.t3 rfl; have a4 : ∀ w, (isAgg (ρ.t 4)).run P w = .ok false w := run_isAgg_plain L.t4 rfl; have a9 : ∀ w, (isAgg (ρ.t 9)).run P w = .ok false w := run_isAgg_plain L.t9 rfl
    have e219 : ∀ args w, (callFunc (ρ.f 219) args).run P w = .ok (.enter (ρ.f 219) args) w := enters_of L.f219 (by kernel_rfl) rfl
    have mixed := L.mixed; have z3 := L.z3; have v3 := L.v3; have z4 := L.z4; have v4 := L.v4; have z9 := L.z9; have v9 := L.v9
    have hix' : Lib.indexByte s.data.toList c = (i : Int) := by rw [← Lib.index_one]; exact hix
    go_enter L.f220, Body.n220_ntmps ρ
    go_wp2_with (go_at_fn (ρ.f 219); refine (Any.stringslite_Index_one { L with } _ _ _).mono ?_; rintro e w' ⟨rfl, rfl⟩; rw [hix'])
    go_region_o
    go_wp2
    go_ret3
    exact ⟨rfl, 1, rfl⟩
set_option maxHeartbeats 1000000 in
theorem Cut1 (L : Lays.n145 P ρ) (s : ByteArray) (c : UInt8) (w : World) (hs : s.size < 4294967281) :
    Calls P (ρ.f 145) #[.string s, .string ⟨#[c]⟩] w fun e w' => e = .returned (.tuple #[.string ⟨(Lib.cut s.data.toList [c]).1.toArray⟩, .string ⟨(Lib.cut s.data.toList [c]).2.1.toArray⟩, .bool (Lib.cut s.data.toList [c]).2.2]) ∧ ∃ n, w' = w.drewN n := by
  have t4 := L.t4; have t9 := L.t9; have t59 := L.t59
  have a4 : ∀ w, (isAgg (ρ.t 4)).run P w = .ok false w := run_isAgg_plain L.t4 rfl; have a9 : ∀ w, (isAgg (ρ.t 9)).run P w = .ok false w := run_isAgg_plain L.t9 rfl; have a59 : ∀ w, (isAgg (ρ.t 59)).run P w = .ok false w := run_isAgg_plain L.t59 rfl
  have e220 : ∀ args w, (callFunc (ρ.f 220) args).run P w = .ok (.enter (ρ.f 220) args) w := enters_of L.f220 (by kernel_rfl) rfl
  have mixed := L.mixed; have z4 := L.z4; have v4 := L.v4; have z9 := L.z9; have v9 := L.v9; have z59 := L.z59; have v59 := L.v59
  go_enter L.f145, Body.n145_ntmps ρ
  go_wp2_with (go_at_fn (ρ.f 220); refine (CutIn1 { L with } _ c _ hs).mono ?_; rintro e w' ⟨rfl, n, rfl⟩)
  go_ret3
  exact ⟨rfl, n, rfl⟩
end
end Go.Ab
namespace Go.Ab
open Go.Lib
def rowOf (h : H) (l : List (List Nat)) : AV × H := (.sl h.next 0 l.length none 1, h.new (.cells true (l.map .str)))
def extSplit (args : List AV) (h : H) : Option (AV × H) :=
  match args with
  | [.str s, .str [c]] => match Nat.blt s.length 4294967281 with
    | true => some (rowOf h (splitA c s))
    | false => none
  | _ => none
def extCut (args : List AV) (h : H) : Option (AV × H) :=
  match args with
  | [.str s, .str [c]] => match Nat.blt s.length 4294967281 with
    | true => match cutA c s with
      | (a, b, f) => some (.tup [.str a, .str b, .bool f], h)
    | false => none
  | _ => none
def strsA : List AV → Option (List (List Nat))
  | [] => some []
  | .str s :: r => match strsA r with
    | some l => some (s :: l)
    | none => none
  | _ :: _ => none
def joinA (sep : List Nat) : List (List Nat) → List Nat
  | [] => []
  | x :: r => match r with
    | [] => x
    | _ :: _ => x ++ (sep ++ joinA sep r)
def joinIn (h : H) (sep : List Nat) (l : List (List Nat)) (s : List Nat) : Option (AV × H) :=
  match Nat.ble l.length 140737488355328, Nat.ble s.length 281474976710656 with
  | true, true => some (.str s, h)
  | _, _ => none
def extJoin (args : List AV) (h : H) : Option (AV × H) :=
  match args with
  | [.sl b o n cap z, .str sep] => match rowA 1 h (.sl b o n cap z) with
    | some cs => match strsA cs with
      | some l => joinIn h sep l (joinA sep l)
      | none => none
    | none => none
  | _ => none
theorem LR.two {σ : Ren} {a b : AV} {l : List Value} (h : LR σ [a, b] l) : ∃ a' b', l = [a', b'] ∧ VR σ a a' ∧ VR σ b b' := by
  obtain ⟨a', r, rfl, h1, h2⟩ := h.cons_inv
  obtain ⟨b', r', rfl, h3, h4⟩ := h2.cons_inv
  have := h4.nil_inv
  subst this
  exact ⟨a', b', rfl, h1, h3⟩
theorem joinA_of (sep : List UInt8) : ∀ (xs : List (List UInt8)), (Lib.join xs sep).map (·.toNat) = joinA (sep.map (·.toNat)) (xs.map (·.map (·.toNat)))
  | [] => rfl
  | [x] => by simp [Lib.join, List.intercalate, joinA]
  | x :: y :: r => by
    have ih := joinA_of sep (y :: r)
    have hj : Lib.join (x :: y :: r) sep = x ++ (sep ++ Lib.join (y :: r) sep) := by simp [Lib.join, List.intercalate]
    rw [hj]
    simp only [List.map_append, List.map_cons, joinA] at ih ⊢
    rw [ih]
theorem strsA_ok {σ : Ren} : ∀ (cs : List AV) (l : List (List Nat)) (ds : List Value), strsA cs = some l → LR σ cs ds → ∃ xs : List ByteArray, ds = xs.map Value.string ∧ l = xs.map (fun s => s.data.toList.map (·.toNat))
  | [], l, ds, h, hl => by
    simp [strsA] at h; subst h
    rw [hl.nil_inv]; exact ⟨[], rfl, rfl⟩
  | c :: cs, l, ds, h, hl => by
    obtain ⟨d, ds', rfl, h1, h2⟩ := hl.cons_inv
    cases c <;> simp only [strsA] at h <;> first | (cases h; done) | skip
    split at h
    · rename_i l' e
      injection h with h; subst h
      obtain ⟨xs, k1, k2⟩ := strsA_ok cs l' ds' e h2
      obtain ⟨s, rfl, rfl⟩ := h1.str_inv
      exact ⟨s :: xs, by rw [k1]; rfl, by rw [k2]; rfl⟩
    · cases h
section
variable {P : Program} {ρ : Shelf.Ren} {σ : Ren} {h : H} {w : World}
open Go.Proofs Go.Shelf
theorem extSplit_ok (L : Lays.n146 P ρ) (hi9 : (P.info? (ρ.t 9)).map (fun i => (i.zero, i.size, i.bytes)) = some (some (.string ByteArray.empty), 1, 16)) {args : List AV} {v : AV} {h' : H} (he : extSplit args h = some (v, h')) :
    Grow h h' ∧ ∀ (σ : Ren) (w : World) (args' : List Value), HR σ h w → LR σ args args' → Fresh σ h.next h'.next → CallRet P σ h w (ρ.f 146) args'.toArray v h' := by
  unfold extSplit at he
  split at he
  · rename_i s c
    split at he
    · rename_i hlt
      injection he with he
      unfold rowOf at he
      injection he with e1 e2; subst e1; subst e2
      refine ⟨Grow.new _ _, fun σ w args' r hl hf => ?_⟩
      obtain ⟨a', b', rfl, ha, hb⟩ := hl.two
      obtain ⟨s', rfl, rfl⟩ := ha.str_inv
      obtain ⟨t', rfl, ht⟩ := hb.str_inv
      obtain ⟨x, rfl, rfl⟩ := one_letter ht
      have hs : s'.size < 4294967281 := by rw [bytes_len, Nat.blt_eq] at hlt; exact hlt
      refine ⟨enters_of L.f146 (by kernel_rfl) rfl _ _, (Split1 L hi9 s' x w hs).mono ?_⟩
      rintro e w' ⟨rfl, rfl⟩
      have hpc : splitA x.toNat (s'.data.toList.map (·.toNat)) = (Lib.splitB ⟨#[x]⟩ 0 (Lib.countB s' ⟨#[x]⟩) s').map (fun p => p.data.toList.map (·.toNat)) := by
        rw [← splitA_of, ← Lib.count_one]
        have := Lib.splitB_data ⟨#[x]⟩ 0 (Lib.countB s' ⟨#[x]⟩) s'
        have h2 : (Lib.splitB ⟨#[x]⟩ 0 (Lib.countB s' ⟨#[x]⟩) s').map (fun p => p.data.toList.map (·.toNat)) = ((Lib.splitB ⟨#[x]⟩ 0 (Lib.countB s' ⟨#[x]⟩) s').map (·.data.toList)).map (·.map (·.toNat)) := by rw [List.map_map]; rfl
        rw [h2, this]
      have hlen := Lib.splitB_all ⟨#[x]⟩ (Nat.le_refl _) 0 _ s' rfl
      have hll : (splitA x.toNat (s'.data.toList.map (·.toNat))).length = Lib.countB s' ⟨#[x]⟩ + 1 := by rw [hpc, List.length_map, hlen]
      have hrow : LR σ ((splitA x.toNat (s'.data.toList.map (·.toNat))).map AV.str) ((Lib.splitB ⟨#[x]⟩ 0 (Lib.countB s' ⟨#[x]⟩) s').map Value.string) := by
        rw [hpc, List.map_map]
        exact LR.map_ev _ _ _ fun p _ => .str p
      obtain ⟨k1, k2⟩ := r.newCells _ ((Lib.splitB ⟨#[x]⟩ 0 (Lib.countB s' ⟨#[x]⟩) s').map Value.string).toArray (ρ.t 9) _ [] hrow (by simp) (hf _ (Nat.le_refl _) (Nat.lt_succ_self _))
      refine ⟨_, _, rfl, ?_, k1, k2⟩
      rw [hll]
      exact .sl (setR_same _ _ _) (Nat.le_refl _) (by intro k hk; cases hk) (by decide) (by simp [hlen]) (.inr rfl)
    · cases he
  · cases he
theorem extCut_ok (L : Lays.n145 P ρ) {args : List AV} {v : AV} {h' : H} (he : extCut args h = some (v, h')) :
    Grow h h' ∧ ∀ (σ : Ren) (w : World) (args' : List Value), HR σ h w → LR σ args args' → Fresh σ h.next h'.next → CallRet P σ h w (ρ.f 145) args'.toArray v h' := by
  unfold extCut at he
  split at he
  · rename_i s c
    split at he
    · rename_i hlt
      split at he
      rename_i a b f hcut
      injection he with he
      injection he with e1 e2; subst e1; subst e2
      refine ⟨Grow.refl _, fun σ w args' r hl hf => ?_⟩
      obtain ⟨a', b', rfl, ha, hb⟩ := hl.two
      obtain ⟨s', rfl, rfl⟩ := ha.str_inv
      obtain ⟨t', rfl, ht⟩ := hb.str_inv
      obtain ⟨x, rfl, rfl⟩ := one_letter ht
      have hs : s'.size < 4294967281 := by rw [bytes_len, Nat.blt_eq] at hlt; exact hlt
      refine ⟨enters_of L.f145 (by kernel_rfl) rfl _ _, (Cut1 L s' x w hs).mono ?_⟩
      rintro e w' ⟨rfl, n, rfl⟩
      have hc := cutA_of x s'.data.toList
      rw [hcut] at hc
      injection hc with h1 hc
      injection hc with h2 h3
      obtain ⟨k1, k2⟩ := r.below (w' := w.drewN n) ⟨rfl, rfl, rfl, Nat.le_refl _, fun _ _ => rfl⟩
      refine ⟨_, σ, rfl, ?_, k1, k2⟩
      rw [← h1, ← h2, ← h3]
      exact VR.mk_tup (.cons (vr_str _) (.cons (vr_str _) (.one (.bool _))))
    · cases he
  · cases he
theorem extJoin_ok (L : Lays.n156 P ρ) (X : Builder.Extra P ρ) {args : List AV} {v : AV} {h' : H} (he : extJoin args h = some (v, h')) :
    Grow h h' ∧ ∀ (σ : Ren) (w : World) (args' : List Value), HR σ h w → LR σ args args' → Fresh σ h.next h'.next → CallRet P σ h w (ρ.f 156) args'.toArray v h' := by
  unfold extJoin at he
  split at he
  · rename_i b o n cap z sep
    split at he
    · rename_i cs hcs
      split at he
      · rename_i l hl0
        unfold joinIn at he
        split at he
        · rename_i g1 g2
          injection he with he
          injection he with e1 e2; subst e1; subst e2
          refine ⟨Grow.refl _, fun σ w args' r hl hf => ?_⟩
          obtain ⟨a', b', rfl, ha, hb⟩ := hl.two
          obtain ⟨t', rfl, rfl⟩ := hb.str_inv
          refine ⟨enters_of L.f156 (by kernel_rfl) rfl _ _, ?_⟩
          cases ha with
          | @sl _ _ _ _ off cc _ L0 hL h1 hc hz hs ho =>
            obtain ⟨row, q1, q2, q3, q4⟩ := rowA_sl hcs
            subst q2
            obtain ⟨ds, k1, k2, k3⟩ := row_ok r q1 hL (o := o) (n := n * 1) q3
            rw [← q4] at k1
            obtain ⟨xs, x1, x2⟩ := strsA_ok cs l ds hl0 k1
            have hxl : xs.length = n := by have := k2; rw [x1, List.length_map] at this; omega
            have hjl : joinA (t'.data.toList.map (·.toNat)) l = (Lib.join (xs.map (·.data.toList)) t'.data.toList).map (·.toNat) := by
              rw [joinA_of, x2, List.map_map]; rfl
            have fin : ∀ e w', e = Ending.returned (.string ⟨(Lib.join (xs.map (·.data.toList)) t'.data.toList).toArray⟩) ∧ RowKit.Below w.heap.size w w' →
                ∃ v' σ', e = .returned v' ∧ VR σ' (.str (joinA (t'.data.toList.map (·.toNat)) l)) v' ∧ HR σ' h w' ∧ Ext σ σ' h h w w' := by
              rintro e w' ⟨rfl, hb'⟩
              obtain ⟨m1, m2⟩ := r.below hb'
              exact ⟨_, σ, rfl, by rw [hjl]; exact vr_str _, m1, m2⟩
            rcases Nat.eq_zero_or_pos n with hn | hn
            · subst hn
              have hx0 : xs = [] := List.eq_nil_of_length_eq_zero hxl
              refine (Any.strings_Join_none L X (some ⟨L0.blk, off, none⟩) cc t' w).mono ?_
              rintro e w' ⟨rfl, rfl⟩
              refine fin _ _ ⟨?_, RowKit.Below.refl _ _⟩
              rw [hx0]; rfl
            · have hoff : off = L0.base + o := by rcases ho with e | e <;> omega
              subst hoff
              have := Any.strings_Join_48 L X L0.blk (L0.base + o) cc xs t' w (fun j x hx => by
                have := k3 j (.string x) (by rw [x1]; simp [hx])
                by_cases hj : j = 0
                · subst hj; simpa [Addr.add] using this
                · simpa [Addr.add, hj] using this) (r.bnd b L0 hL) (by rw [hxl]; have := Nat.le_of_ble_eq_true g1; rw [x2, List.length_map, hxl] at this; exact this) (by omega) (by
                  have := Nat.le_of_ble_eq_true g2
                  rw [hjl, List.length_map] at this
                  exact this)
              rw [hxl] at this
              exact this.mono fin
        · cases he
      · cases he
    · cases he
  · cases he
end
end Go.Ab
set_option maxRecDepth 100000
namespace Go.Proofs
open Go.Shelf
def Tryz.ly146_ren : Ren := ⟨fun | 138 => 107 | 143 => 108 | 146 => 39 | 195 => 134 | 197 => 135 | 217 => 174 | 218 => 136 | 219 => 137 | 221 => 79 | 224 => 176 | 225 => 175 | 260 => 173 | 266 => 211 | 267 => 177 | 268 => 106 | 314 => 212 | n => n, fun | 31 => 91 | 46 => 218 | 51 => 316 | 105 => 224 | 119 => 312 | 138 => 314 | 139 => 315 | 146 => 317 | n => n, fun | 1 => 0 | 3 => 1 | 4 => 2 | n => n⟩
theorem Tryz.ly146 : Lays.n146 Tryz.prog Tryz.ly146_ren where
  mixed := by kernel_rfl
  f138 := Tryz.func107.trans (congrArg some (by kernel_rfl))
  f143 := Tryz.func108.trans (congrArg some (by kernel_rfl))
  f146 := Tryz.func39.trans (congrArg some (by kernel_rfl))
  f195 := Tryz.func134.trans (congrArg some (by kernel_rfl))
  f197 := Tryz.func135.trans (congrArg some (by kernel_rfl))
  f217 := Tryz.func174.trans (congrArg some (by kernel_rfl))
  f218 := Tryz.func136.trans (congrArg some (by kernel_rfl))
  f219 := Tryz.func137.trans (congrArg some (by kernel_rfl))
  f221 := Tryz.func79.trans (congrArg some (by kernel_rfl))
  f224 := Tryz.func176.trans (congrArg some (by kernel_rfl))
  f225 := Tryz.func175.trans (congrArg some (by kernel_rfl))
  f260 := Tryz.func173.trans (congrArg some (by kernel_rfl))
  f266 := Tryz.func211.trans (congrArg some (by kernel_rfl))
  f267 := Tryz.func177.trans (congrArg some (by kernel_rfl))
  f268 := Tryz.func106.trans (congrArg some (by kernel_rfl))
  f314 := Tryz.func212.trans (congrArg some (by kernel_rfl))
  t0 := Tryz.underlying0
  a0 := Tryz.isAgg0
  z0 := Tryz.sizeOf0
  v0 := Tryz.zeroValue0
  t3 := Tryz.underlying3
  a3 := Tryz.isAgg3
  z3 := Tryz.sizeOf3
  v3 := Tryz.zeroValue3
  t4 := Tryz.underlying4
  a4 := Tryz.isAgg4
  z4 := Tryz.sizeOf4
  v4 := Tryz.zeroValue4
  t5 := Tryz.underlying5
  a5 := Tryz.isAgg5
  z5 := Tryz.sizeOf5
  v5 := Tryz.zeroValue5
  t9 := Tryz.underlying9
  a9 := Tryz.isAgg9
  z9 := Tryz.sizeOf9
  v9 := Tryz.zeroValue9
  t21 := Tryz.underlying21
  a21 := Tryz.isAgg21
  z21 := Tryz.sizeOf21
  v21 := Tryz.zeroValue21
  t31 := Tryz.underlying91
  a31 := Tryz.isAgg91
  z31 := Tryz.sizeOf91
  v31 := Tryz.zeroValue91
  t46 := Tryz.underlying218
  a46 := Tryz.isAgg218
  z46 := Tryz.sizeOf218
  v46 := Tryz.zeroValue218
  t51 := Tryz.underlying316
  a51 := Tryz.isAgg316
  z51 := Tryz.sizeOf316
  v51 := Tryz.zeroValue316
  t105 := Tryz.underlying224
  a105 := Tryz.isAgg224
  z105 := Tryz.sizeOf224
  v105 := Tryz.zeroValue224
  t119 := Tryz.underlying312
  a119 := Tryz.isAgg312
  z119 := Tryz.sizeOf312
  t138 := Tryz.underlying314
  a138 := Tryz.isAgg314
  z138 := Tryz.sizeOf314
  v138 := Tryz.zeroValue314
  t139 := Tryz.underlying315
  a139 := Tryz.isAgg315
  z139 := Tryz.sizeOf315
  v139 := Tryz.zeroValue315
  t146 := Tryz.underlying317
  a146 := Tryz.isAgg317
  z146 := Tryz.sizeOf317
  v146 := Tryz.zeroValue317
  g1 := by kernel_rfl
  g3 := by kernel_rfl
  g4 := by kernel_rfl
def Tryz.ly145_ren : Ren := ⟨fun | 145 => 82 | 217 => 174 | 219 => 137 | 220 => 109 | 224 => 176 | 225 => 175 | 266 => 211 | 267 => 177 | 314 => 212 | n => n, fun | 46 => 218 | 51 => 316 | 59 => 140 | 146 => 317 | n => n, fun | 1 => 0 | n => n⟩
theorem Tryz.ly145 : Lays.n145 Tryz.prog Tryz.ly145_ren where
  mixed := by kernel_rfl
  f145 := Tryz.func82.trans (congrArg some (by kernel_rfl))
  f217 := Tryz.func174.trans (congrArg some (by kernel_rfl))
  f219 := Tryz.func137.trans (congrArg some (by kernel_rfl))
  f220 := Tryz.func109.trans (congrArg some (by kernel_rfl))
  f224 := Tryz.func176.trans (congrArg some (by kernel_rfl))
  f225 := Tryz.func175.trans (congrArg some (by kernel_rfl))
  f266 := Tryz.func211.trans (congrArg some (by kernel_rfl))
  f267 := Tryz.func177.trans (congrArg some (by kernel_rfl))
  f314 := Tryz.func212.trans (congrArg some (by kernel_rfl))
  t3 := Tryz.underlying3
  a3 := Tryz.isAgg3
  z3 := Tryz.sizeOf3
  v3 := Tryz.zeroValue3
  t4 := Tryz.underlying4
  a4 := Tryz.isAgg4
  z4 := Tryz.sizeOf4
  v4 := Tryz.zeroValue4
  t5 := Tryz.underlying5
  a5 := Tryz.isAgg5
  z5 := Tryz.sizeOf5
  v5 := Tryz.zeroValue5
  t9 := Tryz.underlying9
  a9 := Tryz.isAgg9
  z9 := Tryz.sizeOf9
  v9 := Tryz.zeroValue9
  t46 := Tryz.underlying218
  a46 := Tryz.isAgg218
  z46 := Tryz.sizeOf218
  v46 := Tryz.zeroValue218
  t51 := Tryz.underlying316
  a51 := Tryz.isAgg316
  z51 := Tryz.sizeOf316
  v51 := Tryz.zeroValue316
  t59 := Tryz.underlying140
  a59 := Tryz.isAgg140
  z59 := Tryz.sizeOf140
  v59 := Tryz.zeroValue140
  t146 := Tryz.underlying317
  a146 := Tryz.isAgg317
  z146 := Tryz.sizeOf317
  v146 := Tryz.zeroValue317
  g1 := by kernel_rfl
def Tryz.ly156_ren : Ren := ⟨fun | 156 => 83 | 165 => 110 | 166 => 111 | 169 => 112 | 240 => 138 | 241 => 139 | 276 => 178 | 277 => 179 | n => n, fun | 31 => 91 | 37 => 155 | 70 => 177 | 72 => 179 | 75 => 182 | 76 => 183 | 80 => 185 | 127 => 227 | 164 => 272 | n => n, fun  | n => n⟩
theorem Tryz.ly156 : Lays.n156 Tryz.prog Tryz.ly156_ren where
  mixed := by kernel_rfl
  f156 := Tryz.func83.trans (congrArg some (by kernel_rfl))
  f165 := Tryz.func110.trans (congrArg some (by kernel_rfl))
  f166 := Tryz.func111.trans (congrArg some (by kernel_rfl))
  f169 := Tryz.func112.trans (congrArg some (by kernel_rfl))
  f240 := Tryz.func138.trans (congrArg some (by kernel_rfl))
  f241 := Tryz.func139.trans (congrArg some (by kernel_rfl))
  f276 := Tryz.func178.trans (congrArg some (by kernel_rfl))
  f277 := Tryz.func179.trans (congrArg some (by kernel_rfl))
  t0 := Tryz.underlying0
  a0 := Tryz.isAgg0
  z0 := Tryz.sizeOf0
  v0 := Tryz.zeroValue0
  t3 := Tryz.underlying3
  a3 := Tryz.isAgg3
  z3 := Tryz.sizeOf3
  v3 := Tryz.zeroValue3
  t4 := Tryz.underlying4
  a4 := Tryz.isAgg4
  z4 := Tryz.sizeOf4
  v4 := Tryz.zeroValue4
  t9 := Tryz.underlying9
  a9 := Tryz.isAgg9
  z9 := Tryz.sizeOf9
  v9 := Tryz.zeroValue9
  t20 := Tryz.underlying20
  a20 := Tryz.isAgg20
  z20 := Tryz.sizeOf20
  v20 := Tryz.zeroValue20
  t31 := Tryz.underlying91
  a31 := Tryz.isAgg91
  z31 := Tryz.sizeOf91
  v31 := Tryz.zeroValue91
  t37 := Tryz.underlying155
  a37 := Tryz.isAgg155
  z37 := Tryz.sizeOf155
  v37 := Tryz.zeroValue155
  t70 := Tryz.underlying177
  a70 := Tryz.isAgg177
  z70 := Tryz.sizeOf177
  v70 := Tryz.zeroValue177
  t72 := Tryz.underlying179
  a72 := Tryz.isAgg179
  z72 := Tryz.sizeOf179
  v72 := Tryz.zeroValue179
  t75 := Tryz.underlying182
  a75 := Tryz.isAgg182
  z75 := Tryz.sizeOf182
  v75 := Tryz.zeroValue182
  t76 := Tryz.underlying183
  a76 := Tryz.isAgg183
  z76 := Tryz.sizeOf183
  v76 := Tryz.zeroValue183
  t127 := Tryz.underlying227
  a127 := Tryz.isAgg227
  z127 := Tryz.sizeOf227
  v127 := Tryz.zeroValue227
  t164 := Tryz.underlying272
  a164 := Tryz.isAgg272
  z164 := Tryz.sizeOf272
  v164 := Tryz.zeroValue272
end Go.Proofs
set_option maxRecDepth 100000
namespace Go.Ab
open Go.Proofs Go.Shelf
inductive BT (α : Type) where
  | leaf
  | node (l : BT α) (k : Nat) (v : α) (r : BT α)
def BT.find {α : Type} : BT α → Nat → Option α
  | .leaf, _ => none
  | .node l k v r, n => match Nat.beq n k with
    | true => some v
    | false => match Nat.blt n k with
      | true => l.find n
      | false => r.find n
def BT.All {α : Type} (Q : Nat → α → Prop) : BT α → Prop
  | .leaf => True
  | .node l k v r => l.All Q ∧ Q k v ∧ r.All Q
theorem BT.All.get {α : Type} {Q : Nat → α → Prop} : ∀ {t : BT α}, t.All Q → ∀ {n : Nat} {v : α}, t.find n = some v → Q n v
  | .leaf, _, n, v, h => by cases h
  | .node l k u r, hq, n, v, h => by
    simp only [BT.find] at h
    split at h
    · rename_i e
      injection h with h; subst h
      rw [Nat.eq_of_beq_eq_true e]; exact hq.2.1
    · split at h
      · exact BT.All.get hq.1 h
      · exact BT.All.get hq.2.2 h
noncomputable def fnT : BT Func := (.node (.node (.node (.node (.node (.node (.node .leaf 12 Tryz.f12 .leaf) 14 Tryz.f14 (.node .leaf 15 Tryz.f15 .leaf)) 17 Tryz.f17 (.node (.node .leaf 22 Tryz.f22 .leaf) 29 Tryz.f29 .leaf)) 30 Tryz.f30 (.node (.node (.node .leaf 31 Tryz.f31 .leaf) 32 Tryz.f32 (.node .leaf 33 Tryz.f33 .leaf)) 40 Tryz.f40 (.node (.node .leaf 41 Tryz.f41 .leaf) 42 Tryz.f42 .leaf))) 43 Tryz.f43 (.node (.node (.node (.node .leaf 44 Tryz.f44 .leaf) 45 Tryz.f45 (.node .leaf 46 Tryz.f46 .leaf)) 53 Tryz.f53 (.node (.node .leaf 54 Tryz.f54 .leaf) 58 Tryz.f58 .leaf)) 59 Tryz.f59 (.node (.node (.node .leaf 60 Tryz.f60 .leaf) 66 Tryz.f66 .leaf) 70 Tryz.f70 (.node (.node .leaf 71 Tryz.f71 .leaf) 72 Tryz.f72 .leaf)))) 73 Tryz.f73 (.node (.node (.node (.node (.node .leaf 74 Tryz.f74 .leaf) 80 Tryz.f80 (.node .leaf 81 Tryz.f81 .leaf)) 84 Tryz.f84 (.node (.node .leaf 91 Tryz.f91 .leaf) 95 Tryz.f95 .leaf)) 103 Tryz.f103 (.node (.node (.node .leaf 104 Tryz.f104 .leaf) 113 Tryz.f113 (.node .leaf 114 Tryz.f114 .leaf)) 115 Tryz.f115 (.node (.node .leaf 130 Tryz.f130 .leaf) 131 Tryz.f131 .leaf))) 141 Tryz.f141 (.node (.node (.node (.node .leaf 142 Tryz.f142 .leaf) 143 Tryz.f143 (.node .leaf 144 Tryz.f144 .leaf)) 145 Tryz.f145 (.node (.node .leaf 146 Tryz.f146 .leaf) 147 Tryz.f147 .leaf)) 148 Tryz.f148 (.node (.node (.node .leaf 149 Tryz.f149 .leaf) 150 Tryz.f150 .leaf) 151 Tryz.f151 (.node (.node .leaf 152 Tryz.f152 .leaf) 181 Tryz.f181 .leaf))))) 182 Tryz.f182 (.node (.node (.node (.node (.node (.node .leaf 183 Tryz.f183 .leaf) 184 Tryz.f184 (.node .leaf 185 Tryz.f185 .leaf)) 186 Tryz.f186 (.node (.node .leaf 187 Tryz.f187 .leaf) 188 Tryz.f188 .leaf)) 189 Tryz.f189 (.node (.node (.node .leaf 190 Tryz.f190 .leaf) 191 Tryz.f191 (.node .leaf 192 Tryz.f192 .leaf)) 193 Tryz.f193 (.node (.node .leaf 194 Tryz.f194 .leaf) 214 Tryz.f214 .leaf))) 215 Tryz.f215 (.node (.node (.node (.node .leaf 216 Tryz.f216 .leaf) 217 Tryz.f217 (.node .leaf 218 Tryz.f218 .leaf)) 219 Tryz.f219 (.node (.node .leaf 220 Tryz.f220 .leaf) 221 Tryz.f221 .leaf)) 222 Tryz.f222 (.node (.node (.node .leaf 223 Tryz.f223 .leaf) 224 Tryz.f224 .leaf) 225 Tryz.f225 (.node (.node .leaf 226 Tryz.f226 .leaf) 227 Tryz.f227 .leaf)))) 228 Tryz.f228 (.node (.node (.node (.node (.node .leaf 229 Tryz.f229 .leaf) 230 Tryz.f230 (.node .leaf 231 Tryz.f231 .leaf)) 232 Tryz.f232 (.node (.node .leaf 233 Tryz.f233 .leaf) 234 Tryz.f234 .leaf)) 235 Tryz.f235 (.node (.node (.node .leaf 236 Tryz.f236 .leaf) 237 Tryz.f237 (.node .leaf 238 Tryz.f238 .leaf)) 246 Tryz.f246 (.node (.node .leaf 247 Tryz.f247 .leaf) 248 Tryz.f248 .leaf))) 249 Tryz.f249 (.node (.node (.node (.node .leaf 250 Tryz.f250 .leaf) 251 Tryz.f251 (.node .leaf 252 Tryz.f252 .leaf)) 253 Tryz.f253 (.node (.node .leaf 254 Tryz.f254 .leaf) 255 Tryz.f255 .leaf)) 256 Tryz.f256 (.node (.node (.node .leaf 257 Tryz.f257 .leaf) 258 Tryz.f258 .leaf) 260 Tryz.f260 (.node (.node .leaf 261 Tryz.f261 .leaf) 262 Tryz.f262 .leaf))))))
theorem fnT_ok : fnT.All (fun n f => Tryz.prog.funcs[n]? = some f) :=
  ⟨⟨⟨⟨⟨⟨⟨trivial, Tryz.func12, trivial⟩, Tryz.func14, ⟨trivial, Tryz.func15, trivial⟩⟩, Tryz.func17, ⟨⟨trivial, Tryz.func22, trivial⟩, Tryz.func29, trivial⟩⟩, Tryz.func30, ⟨⟨⟨trivial, Tryz.func31, trivial⟩, Tryz.func32, ⟨trivial, Tryz.func33, trivial⟩⟩, Tryz.func40, ⟨⟨trivial, Tryz.func41, trivial⟩, Tryz.func42, trivial⟩⟩⟩, Tryz.func43, ⟨⟨⟨⟨trivial, Tryz.func44, trivial⟩, Tryz.func45, ⟨trivial, Tryz.func46, trivial⟩⟩, Tryz.func53, ⟨⟨trivial, Tryz.func54, trivial⟩, Tryz.func58, trivial⟩⟩, Tryz.func59, ⟨⟨⟨trivial, Tryz.func60, trivial⟩, Tryz.func66, trivial⟩, Tryz.func70, ⟨⟨trivial, Tryz.func71, trivial⟩, Tryz.func72, trivial⟩⟩⟩⟩, Tryz.func73, ⟨⟨⟨⟨⟨trivial, Tryz.func74, trivial⟩, Tryz.func80, ⟨trivial, Tryz.func81, trivial⟩⟩, Tryz.func84, ⟨⟨trivial, Tryz.func91, trivial⟩, Tryz.func95, trivial⟩⟩, Tryz.func103, ⟨⟨⟨trivial, Tryz.func104, trivial⟩, Tryz.func113, ⟨trivial, Tryz.func114, trivial⟩⟩, Tryz.func115, ⟨⟨trivial, Tryz.func130, trivial⟩, Tryz.func131, trivial⟩⟩⟩, Tryz.func141, ⟨⟨⟨⟨trivial, Tryz.func142, trivial⟩, Tryz.func143, ⟨trivial, Tryz.func144, trivial⟩⟩, Tryz.func145, ⟨⟨trivial, Tryz.func146, trivial⟩, Tryz.func147, trivial⟩⟩, Tryz.func148, ⟨⟨⟨trivial, Tryz.func149, trivial⟩, Tryz.func150, trivial⟩, Tryz.func151, ⟨⟨trivial, Tryz.func152, trivial⟩, Tryz.func181, trivial⟩⟩⟩⟩⟩, Tryz.func182, ⟨⟨⟨⟨⟨⟨trivial, Tryz.func183, trivial⟩, Tryz.func184, ⟨trivial, Tryz.func185, trivial⟩⟩, Tryz.func186, ⟨⟨trivial, Tryz.func187, trivial⟩, Tryz.func188, trivial⟩⟩, Tryz.func189, ⟨⟨⟨trivial, Tryz.func190, trivial⟩, Tryz.func191, ⟨trivial, Tryz.func192, trivial⟩⟩, Tryz.func193, ⟨⟨trivial, Tryz.func194, trivial⟩, Tryz.func214, trivial⟩⟩⟩, Tryz.func215, ⟨⟨⟨⟨trivial, Tryz.func216, trivial⟩, Tryz.func217, ⟨trivial, Tryz.func218, trivial⟩⟩, Tryz.func219, ⟨⟨trivial, Tryz.func220, trivial⟩, Tryz.func221, trivial⟩⟩, Tryz.func222, ⟨⟨⟨trivial, Tryz.func223, trivial⟩, Tryz.func224, trivial⟩, Tryz.func225, ⟨⟨trivial, Tryz.func226, trivial⟩, Tryz.func227, trivial⟩⟩⟩⟩, Tryz.func228, ⟨⟨⟨⟨⟨trivial, Tryz.func229, trivial⟩, Tryz.func230, ⟨trivial, Tryz.func231, trivial⟩⟩, Tryz.func232, ⟨⟨trivial, Tryz.func233, trivial⟩, Tryz.func234, trivial⟩⟩, Tryz.func235, ⟨⟨⟨trivial, Tryz.func236, trivial⟩, Tryz.func237, ⟨trivial, Tryz.func238, trivial⟩⟩, Tryz.func246, ⟨⟨trivial, Tryz.func247, trivial⟩, Tryz.func248, trivial⟩⟩⟩, Tryz.func249, ⟨⟨⟨⟨trivial, Tryz.func250, trivial⟩, Tryz.func251, ⟨trivial, Tryz.func252, trivial⟩⟩, Tryz.func253, ⟨⟨trivial, Tryz.func254, trivial⟩, Tryz.func255, trivial⟩⟩, Tryz.func256, ⟨⟨⟨trivial, Tryz.func257, trivial⟩, Tryz.func258, trivial⟩, Tryz.func260, ⟨⟨trivial, Tryz.func261, trivial⟩, Tryz.func262, trivial⟩⟩⟩⟩⟩⟩
def extT (k : Nat) : Option (List AV → H → Option (AV × H)) :=
  match Nat.beq k 39, Nat.beq k 82, Nat.beq k 83 with
  | true, _, _ => some extSplit
  | _, true, _ => some extCut
  | _, _, true => some extJoin
  | _, _, _ => none
noncomputable def cxT : Cx := { fn := fun n => match fnT.find n with | some f => comp Tryz.prog f | none => none, ext := extT }
theorem infoStr : (Tryz.prog.info? (Tryz.ly146_ren.t 9)).map (fun i => (i.zero, i.size, i.bytes)) = some (some (.string ByteArray.empty), 1, 16) := by kernel_rfl
theorem extraB : Builder.Extra Tryz.prog Tryz.ly156_ren where
  sizeBuilder := by kernel_rfl
  liesBuilder := by kernel_rfl
  t5 := Tryz.underlying5
  a5 := Tryz.isAgg5
  z5 := Tryz.sizeOf5
  v5 := Tryz.zeroValue5
  infoByte := by kernel_rfl
  cellsByte := by kernel_rfl
  sizeByte := by kernel_rfl
  neB5 := by decide
theorem extT_ok {f : Nat} {e : List AV → H → Option (AV × H)} (h : extT f = some e) {args : List AV} {h0 : H} {v : AV} {h' : H} (he : e args h0 = some (v, h')) :
    Grow h0 h' ∧ ∀ (σ : Ren) (w : World) (args' : List Value), HR σ h0 w → LR σ args args' → Fresh σ h0.next h'.next → CallRet Tryz.prog σ h0 w f args'.toArray v h' := by
  unfold extT at h
  split at h
  · rename_i q; injection h with h; subst h; rw [Nat.eq_of_beq_eq_true q]; exact extSplit_ok Tryz.ly146 infoStr he
  · rename_i q _; injection h with h; subst h; rw [Nat.eq_of_beq_eq_true q]; exact extCut_ok Tryz.ly145 he
  · rename_i q _ _; injection h with h; subst h; rw [Nat.eq_of_beq_eq_true q]; exact extJoin_ok Tryz.ly156 extraB he
  · cases h
theorem mixedT : Tryz.prog.follows .mixedOrders = true := by kernel_rfl
theorem cxT_ok : CxOk Tryz.prog cxT := by
  refine ⟨fun f cf h => ?_, fun f e h args h0 v h' he => (extT_ok h he).1, fun f e h args h0 v h' he => (extT_ok h he).2⟩
  simp only [cxT] at h
  split at h
  · rename_i fn q; exact ⟨fn, fnT_ok.get q, h⟩
  · cases h
def isTrue' : Cr → Bool | .ret (.bool true) _ => true | _ => false
theorem isTrue_inv {r : Cr} (h : isTrue' r = true) : ∃ h', r = .ret (.bool true) h' := by
  unfold isTrue' at h
  split at h
  · exact ⟨_, rfl⟩
  · cases h
end Go.Ab
/- alive() is true: a run in the kernel. -/
namespace Go.Ab
open Go.Proofs
theorem alive_run : isTrue' ((lev cxT 3000).call 14 [] ⟨0, .leaf⟩) = true := by kernel_rfl
end Go.Ab
/- alive() is true. -/
namespace Go.Ab
open Go.Proofs Go.RowKit
theorem H.get_empty (n b : Nat) : (⟨n, .leaf⟩ : H).get b = none := rfl
theorem HR.none (n : Nat) (w : World) : HR (fun _ => Option.none) ⟨n, .leaf⟩ w :=
  ⟨fun b L h => (by cases h), fun b x L h => (by rw [H.get_empty] at h; cases h), fun b b' L L' _ _ h => (by rw [H.get_empty] at h; cases h), fun b h => (by rw [H.get_empty] at h; cases h)⟩
theorem Ext.below {σ' : Ren} {n : Nat} {h' : H} {w w' : World} (x : Ext (fun _ => Option.none) σ' ⟨n, .leaf⟩ h' w w') : Below w.heap.size w w' := by
  refine ⟨x.os, x.tape, x.output, x.size, fun k hk => x.keep k hk fun b L ho hs => ?_⟩
  cases hs
theorem alive_calls (w : World) : Calls Tryz.prog 14 #[] w fun e w' => e = .returned (.bool true) ∧ Below w.heap.size w w' := by
  obtain ⟨h', hr⟩ := isTrue_inv alive_run
  refine (calls_ok mixedT cxT_ok hr (HR.none 0 w) (LR.nil _) (fun _ _ _ => rfl)).mono ?_
  rintro e w' ⟨v', σ', rfl, hv, _, hx⟩
  cases hv
  exact ⟨rfl, hx.below⟩
end Go.Ab
