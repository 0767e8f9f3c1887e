/- Operators, comparisons, slices, indexes: values alone. -/
import Derived.Test.YtgkchcbnbbgdpaaGreatDoorAbOps
import Derived.Laws.Slices
import Derived.Laws.Strings
namespace Go.Ab

theorem kindEq_iff {k k' : IntKind} (h : kindEq k k' = true) : k = k' := by cases k <;> cases k' <;> first | rfl | cases h

theorem listEq_iff : ∀ (a b : List Nat), listEq a b = decide (a = b)
  | [], [] => by simp [listEq]
  | [], _ :: _ => by simp [listEq]
  | _ :: _, [] => by simp [listEq]
  | a :: as, b :: bs => by
    simp only [listEq]
    cases e : Nat.beq a b with
    | true => have h := Nat.eq_of_beq_eq_true e; subst h; simp [listEq_iff as bs]
    | false => have h := Nat.ne_of_beq_eq_false e; simp [h]

theorem bytes_map_inj {a b : List UInt8} (h : a.map (·.toNat) = b.map (·.toNat)) : a = b := by
  induction a generalizing b with
  | nil => cases b with
    | nil => rfl
    | cons => simp at h
  | cons x a ih => cases b with
    | nil => simp at h
    | cons y b =>
      simp only [List.map_cons, List.cons.injEq] at h
      rw [ih h.2, UInt8.toNat_inj.1 h.1]

theorem str_eq (s t : ByteArray) : listEq (s.data.toList.map (·.toNat)) (t.data.toList.map (·.toNat)) = (s.toList == t.toList) := by
  rw [listEq_iff, ByteArray.toList_eq, ByteArray.toList_eq]
  by_cases h : s.data.toList = t.data.toList
  · simp [h]
  · have h' : ¬ (s.data.toList.map (·.toNat) = t.data.toList.map (·.toNat)) := fun e => h (bytes_map_inj e)
    rw [decide_eq_false h']
    symm
    simpa using h

section
variable {P : Program} {σ : Ren} {h : H} {w : World}

theorem intBin_sim {op : BinOp} {k : IntKind} {x y : Int} {v : AV} {t : TypeId} (hn : isShift op = false) (hv : intBin op k x y = some v) : Gives P σ w (binOp op t (.int k x) (.int k y)) v := by
  cases op <;> simp only [intBin, Option.some.injEq] at hv <;> try (cases hn; done)
  case quo => split at hv <;> first | (cases hv; done) | (rename_i hy; injection hv with hv; subst hv; exact ⟨_, by simp [binOp_quo, Op.intDiv, hy], .int _ _⟩)
  case rem => split at hv <;> first | (cases hv; done) | (rename_i hy; injection hv with hv; subst hv; exact ⟨_, by simp [binOp_rem, Op.intDiv, hy], .int _ _⟩)
  all_goals first
    | (cases hv; done)
    | skip
  all_goals subst hv
  case add => exact ⟨_, by rw [binOp_add]; rfl, .int _ _⟩
  case sub => exact ⟨_, by rw [binOp_sub]; rfl, .int _ _⟩
  case mul => exact ⟨_, by rw [binOp_mul]; rfl, .int _ _⟩
  case and => exact ⟨_, by rw [binOp_and]; rfl, .int _ _⟩
  case or => exact ⟨_, by rw [binOp_or]; rfl, .int _ _⟩
  case xor => exact ⟨_, by rw [binOp_xor]; rfl, .int _ _⟩
  case andNot => exact ⟨_, by rw [binOp_andNot]; rfl, .int _ _⟩
  case eql => exact ⟨.bool (x == y), by rw [binOp_eql]; rfl, .bool _⟩
  case neq => exact ⟨.bool (x != y), by rw [binOp_neq]; rfl, .bool _⟩
  case lss => exact ⟨.bool (decide (x < y)), by rw [binOp_lss]; rfl, .bool _⟩
  case leq => exact ⟨.bool (decide (x ≤ y)), by rw [binOp_leq]; rfl, .bool _⟩
  case gtr => exact ⟨.bool (decide (y < x)), by rw [binOp_gtr]; rfl, .bool _⟩
  case geq => exact ⟨.bool (decide (y ≤ x)), by rw [binOp_geq]; rfl, .bool _⟩

theorem shift_sim {op : BinOp} {k k' : IntKind} {x y : Int} {v : AV} {t : TypeId} (hv : shiftA op k x y = some v) : Gives P σ w (binOp op t (.int k x) (.int k' y)) v := by
  cases op <;> simp only [shiftA] at hv <;> first | (cases hv; done) | skip
  all_goals
    split at hv
    · cases hv
    · rename_i hy
      injection hv with hv; subst hv
      refine ⟨_, ?_, .int _ _⟩
      simp only [binOp_shl, binOp_shr, Op.shift, if_neg hy]
      rfl

theorem str_size (s : ByteArray) : (s.data.toList.map (·.toNat)).length = s.size := by rw [List.length_map]; rfl

theorem strBin_sim {op : BinOp} {s u : ByteArray} {v : AV} {t : TypeId} (hv : strBin op (s.data.toList.map (·.toNat)) (u.data.toList.map (·.toNat)) = some v) : Gives P σ w (binOp op t (.string s) (.string u)) v := by
  cases op <;> simp only [strBin] at hv <;> first | (cases hv; done) | skip
  case add =>
    split at hv
    · rename_i hle
      injection hv with hv; subst hv
      have hle := Nat.le_of_ble_eq_true hle
      simp only [List.length_map, Array.length_toList] at hle
      refine ⟨.string (s ++ u), ?_, ?_⟩
      · have : ¬ (((s.size + u.size : Nat) : Int) > IntKind.i64.max) := by
          have : IntKind.i64.max = 9223372036854775807 := by decide
          rw [this]; unfold maxRow at hle
          have e1 : s.data.size = s.size := rfl
          have e2 : u.data.size = u.size := rfl
          omega
        show (Op.stringOp .add s u).run P w = _
        simp only [Op.stringOp, if_neg this]
        rfl
      · have : (s ++ u).data.toList.map (·.toNat) = s.data.toList.map (·.toNat) ++ u.data.toList.map (·.toNat) := by simp [ByteArray.data_append]
        rw [← this]
        exact .str _
    · cases hv
  case eql =>
    injection hv with hv; subst hv
    rw [str_eq]
    exact ⟨_, rfl, .bool _⟩
  case neq =>
    injection hv with hv; subst hv
    rw [str_eq]
    exact ⟨_, rfl, .bool _⟩
end
end Go.Ab
