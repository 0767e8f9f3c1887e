/- strings.Split, strings.Cut, strings.Join for the interpreter. -/
import Derived.Test.YtgkchcbnbbgdpaaGreatDoorAbExtS
namespace Go.Ab
open Go.Lib

def rowOf (h : H) (l : List (List Nat)) : AV × H := (.sl h.next 0 l.length none 1, h.new (.cells true (l.map .str)))

def extSplit (args : List AV) (h : H) : Option (AV × H) :=
  match args with
  | [.str s, .str [c]] => match Nat.blt s.length 4294967281 with
    | true => some (rowOf h (splitA c s))
    | false => none
  | _ => none

def extCut (args : List AV) (h : H) : Option (AV × H) :=
  match args with
  | [.str s, .str [c]] => match Nat.blt s.length 4294967281 with
    | true => match cutA c s with
      | (a, b, f) => some (.tup [.str a, .str b, .bool f], h)
    | false => none
  | _ => none

def strsA : List AV → Option (List (List Nat))
  | [] => some []
  | .str s :: r => match strsA r with
    | some l => some (s :: l)
    | none => none
  | _ :: _ => none

def joinA (sep : List Nat) : List (List Nat) → List Nat
  | [] => []
  | x :: r => match r with
    | [] => x
    | _ :: _ => x ++ (sep ++ joinA sep r)

def joinIn (h : H) (sep : List Nat) (l : List (List Nat)) (s : List Nat) : Option (AV × H) :=
  match Nat.ble l.length 140737488355328, Nat.ble s.length 281474976710656 with
  | true, true => some (.str s, h)
  | _, _ => none

def extJoin (args : List AV) (h : H) : Option (AV × H) :=
  match args with
  | [.sl b o n cap z, .str sep] => match rowA 1 h (.sl b o n cap z) with
    | some cs => match strsA cs with
      | some l => joinIn h sep l (joinA sep l)
      | none => none
    | none => none
  | _ => none

theorem LR.two {σ : Ren} {a b : AV} {l : List Value} (h : LR σ [a, b] l) : ∃ a' b', l = [a', b'] ∧ VR σ a a' ∧ VR σ b b' := by
  obtain ⟨a', r, rfl, h1, h2⟩ := h.cons_inv
  obtain ⟨b', r', rfl, h3, h4⟩ := h2.cons_inv
  have := h4.nil_inv
  subst this
  exact ⟨a', b', rfl, h1, h3⟩

theorem joinA_of (sep : List UInt8) : ∀ (xs : List (List UInt8)), (Lib.join xs sep).map (·.toNat) = joinA (sep.map (·.toNat)) (xs.map (·.map (·.toNat)))
  | [] => rfl
  | [x] => by simp [Lib.join, List.intercalate, joinA]
  | x :: y :: r => by
    have ih := joinA_of sep (y :: r)
    have hj : Lib.join (x :: y :: r) sep = x ++ (sep ++ Lib.join (y :: r) sep) := by simp [Lib.join, List.intercalate]
    rw [hj]
    simp only [List.map_append, List.map_cons, joinA] at ih ⊢
    rw [ih]

theorem strsA_ok {σ : Ren} : ∀ (cs : List AV) (l : List (List Nat)) (ds : List Value), strsA cs = some l → LR σ cs ds → ∃ xs : List ByteArray, ds = xs.map Value.string ∧ l = xs.map (fun s => s.data.toList.map (·.toNat))
  | [], l, ds, h, hl => by
    simp [strsA] at h; subst h
    rw [hl.nil_inv]; exact ⟨[], rfl, rfl⟩
  | c :: cs, l, ds, h, hl => by
    obtain ⟨d, ds', rfl, h1, h2⟩ := hl.cons_inv
    cases c <;> simp only [strsA] at h <;> first | (cases h; done) | skip
    split at h
    · rename_i l' e
      injection h with h; subst h
      obtain ⟨xs, k1, k2⟩ := strsA_ok cs l' ds' e h2
      obtain ⟨s, rfl, rfl⟩ := h1.str_inv
      exact ⟨s :: xs, by rw [k1]; rfl, by rw [k2]; rfl⟩
    · cases h

section
variable {P : Program} {ρ : Shelf.Ren} {σ : Ren} {h : H} {w : World}
open Go.Proofs Go.Shelf

theorem extSplit_ok (L : Lays.n146 P ρ) (hi9 : (P.info? (ρ.t 9)).map (fun i => (i.zero, i.size, i.bytes)) = some (some (.string ByteArray.empty), 1, 16)) {args : List AV} {v : AV} {h' : H} (he : extSplit args h = some (v, h')) :
    Grow h h' ∧ ∀ (σ : Ren) (w : World) (args' : List Value), HR σ h w → LR σ args args' → Fresh σ h.next h'.next → CallRet P σ h w (ρ.f 146) args'.toArray v h' := by
  unfold extSplit at he
  split at he
  · rename_i s c
    split at he
    · rename_i hlt
      injection he with he
      unfold rowOf at he
      injection he with e1 e2; subst e1; subst e2
      refine ⟨Grow.new _ _, fun σ w args' r hl hf => ?_⟩
      obtain ⟨a', b', rfl, ha, hb⟩ := hl.two
      obtain ⟨s', rfl, rfl⟩ := ha.str_inv
      obtain ⟨t', rfl, ht⟩ := hb.str_inv
      obtain ⟨x, rfl, rfl⟩ := one_letter ht
      have hs : s'.size < 4294967281 := by rw [bytes_len, Nat.blt_eq] at hlt; exact hlt
      refine ⟨enters_of L.f146 (by kernel_rfl) rfl _ _, (Split1 L hi9 s' x w hs).mono ?_⟩
      rintro e w' ⟨rfl, rfl⟩
      have hpc : splitA x.toNat (s'.data.toList.map (·.toNat)) = (Lib.splitB ⟨#[x]⟩ 0 (Lib.countB s' ⟨#[x]⟩) s').map (fun p => p.data.toList.map (·.toNat)) := by
        rw [← splitA_of, ← Lib.count_one]
        have := Lib.splitB_data ⟨#[x]⟩ 0 (Lib.countB s' ⟨#[x]⟩) s'
        have h2 : (Lib.splitB ⟨#[x]⟩ 0 (Lib.countB s' ⟨#[x]⟩) s').map (fun p => p.data.toList.map (·.toNat)) = ((Lib.splitB ⟨#[x]⟩ 0 (Lib.countB s' ⟨#[x]⟩) s').map (·.data.toList)).map (·.map (·.toNat)) := by rw [List.map_map]; rfl
        rw [h2, this]
      have hlen := Lib.splitB_all ⟨#[x]⟩ (Nat.le_refl _) 0 _ s' rfl
      have hll : (splitA x.toNat (s'.data.toList.map (·.toNat))).length = Lib.countB s' ⟨#[x]⟩ + 1 := by rw [hpc, List.length_map, hlen]
      have hrow : LR σ ((splitA x.toNat (s'.data.toList.map (·.toNat))).map AV.str) ((Lib.splitB ⟨#[x]⟩ 0 (Lib.countB s' ⟨#[x]⟩) s').map Value.string) := by
        rw [hpc, List.map_map]
        exact LR.map_ev _ _ _ fun p _ => .str p
      obtain ⟨k1, k2⟩ := r.newCells _ ((Lib.splitB ⟨#[x]⟩ 0 (Lib.countB s' ⟨#[x]⟩) s').map Value.string).toArray (ρ.t 9) _ [] hrow (by simp) (hf _ (Nat.le_refl _) (Nat.lt_succ_self _))
      refine ⟨_, _, rfl, ?_, k1, k2⟩
      rw [hll]
      exact .sl (setR_same _ _ _) (Nat.le_refl _) (by intro k hk; cases hk) (by decide) (by simp [hlen]) (.inr rfl)
    · cases he
  · cases he

theorem extCut_ok (L : Lays.n145 P ρ) {args : List AV} {v : AV} {h' : H} (he : extCut args h = some (v, h')) :
    Grow h h' ∧ ∀ (σ : Ren) (w : World) (args' : List Value), HR σ h w → LR σ args args' → Fresh σ h.next h'.next → CallRet P σ h w (ρ.f 145) args'.toArray v h' := by
  unfold extCut at he
  split at he
  · rename_i s c
    split at he
    · rename_i hlt
      split at he
      rename_i a b f hcut
      injection he with he
      injection he with e1 e2; subst e1; subst e2
      refine ⟨Grow.refl _, fun σ w args' r hl hf => ?_⟩
      obtain ⟨a', b', rfl, ha, hb⟩ := hl.two
      obtain ⟨s', rfl, rfl⟩ := ha.str_inv
      obtain ⟨t', rfl, ht⟩ := hb.str_inv
      obtain ⟨x, rfl, rfl⟩ := one_letter ht
      have hs : s'.size < 4294967281 := by rw [bytes_len, Nat.blt_eq] at hlt; exact hlt
      refine ⟨enters_of L.f145 (by kernel_rfl) rfl _ _, (Cut1 L s' x w hs).mono ?_⟩
      rintro e w' ⟨rfl, n, rfl⟩
      have hc := cutA_of x s'.data.toList
      rw [hcut] at hc
      injection hc with h1 hc
      injection hc with h2 h3
      obtain ⟨k1, k2⟩ := r.below (w' := w.drewN n) ⟨rfl, rfl, rfl, Nat.le_refl _, fun _ _ => rfl⟩
      refine ⟨_, σ, rfl, ?_, k1, k2⟩
      rw [← h1, ← h2, ← h3]
      exact VR.mk_tup (.cons (vr_str _) (.cons (vr_str _) (.one (.bool _))))
    · cases he
  · cases he

theorem extJoin_ok (L : Lays.n156 P ρ) (X : Builder.Extra P ρ) {args : List AV} {v : AV} {h' : H} (he : extJoin args h = some (v, h')) :
    Grow h h' ∧ ∀ (σ : Ren) (w : World) (args' : List Value), HR σ h w → LR σ args args' → Fresh σ h.next h'.next → CallRet P σ h w (ρ.f 156) args'.toArray v h' := by
  unfold extJoin at he
  split at he
  · rename_i b o n cap z sep
    split at he
    · rename_i cs hcs
      split at he
      · rename_i l hl0
        unfold joinIn at he
        split at he
        · rename_i g1 g2
          injection he with he
          injection he with e1 e2; subst e1; subst e2
          refine ⟨Grow.refl _, fun σ w args' r hl hf => ?_⟩
          obtain ⟨a', b', rfl, ha, hb⟩ := hl.two
          obtain ⟨t', rfl, rfl⟩ := hb.str_inv
          refine ⟨enters_of L.f156 (by kernel_rfl) rfl _ _, ?_⟩
          cases ha with
          | @sl _ _ _ _ off cc _ L0 hL h1 hc hz hs ho =>
            obtain ⟨row, q1, q2, q3, q4⟩ := rowA_sl hcs
            subst q2
            obtain ⟨ds, k1, k2, k3⟩ := row_ok r q1 hL (o := o) (n := n * 1) q3
            rw [← q4] at k1
            obtain ⟨xs, x1, x2⟩ := strsA_ok cs l ds hl0 k1
            have hxl : xs.length = n := by have := k2; rw [x1, List.length_map] at this; omega
            have hjl : joinA (t'.data.toList.map (·.toNat)) l = (Lib.join (xs.map (·.data.toList)) t'.data.toList).map (·.toNat) := by
              rw [joinA_of, x2, List.map_map]; rfl
            have fin : ∀ e w', e = Ending.returned (.string ⟨(Lib.join (xs.map (·.data.toList)) t'.data.toList).toArray⟩) ∧ RowKit.Below w.heap.size w w' →
                ∃ v' σ', e = .returned v' ∧ VR σ' (.str (joinA (t'.data.toList.map (·.toNat)) l)) v' ∧ HR σ' h w' ∧ Ext σ σ' h h w w' := by
              rintro e w' ⟨rfl, hb'⟩
              obtain ⟨m1, m2⟩ := r.below hb'
              exact ⟨_, σ, rfl, by rw [hjl]; exact vr_str _, m1, m2⟩
            rcases Nat.eq_zero_or_pos n with hn | hn
            · subst hn
              have hx0 : xs = [] := List.eq_nil_of_length_eq_zero hxl
              refine (Any.strings_Join_none L X (some ⟨L0.blk, off, none⟩) cc t' w).mono ?_
              rintro e w' ⟨rfl, rfl⟩
              refine fin _ _ ⟨?_, RowKit.Below.refl _ _⟩
              rw [hx0]; rfl
            · have hoff : off = L0.base + o := by rcases ho with e | e <;> omega
              subst hoff
              have := Any.strings_Join_48 L X L0.blk (L0.base + o) cc xs t' w (fun j x hx => by
                have := k3 j (.string x) (by rw [x1]; simp [hx])
                by_cases hj : j = 0
                · subst hj; simpa [Addr.add] using this
                · simpa [Addr.add, hj] using this) (r.bnd b L0 hL) (by rw [hxl]; have := Nat.le_of_ble_eq_true g1; rw [x2, List.length_map, hxl] at this; exact this) (by omega) (by
                  have := Nat.le_of_ble_eq_true g2
                  rw [hjl, List.length_map] at this
                  exact this)
              rw [hxl] at this
              exact this.mono fin
        · cases he
      · cases he
    · cases he
  · cases he
end
end Go.Ab
