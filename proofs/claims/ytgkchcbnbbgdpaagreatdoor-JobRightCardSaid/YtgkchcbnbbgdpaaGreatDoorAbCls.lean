/- What an abstract operation has to do with slots and with the heap. -/
import Derived.Test.YtgkchcbnbbgdpaaGreatDoorAbMaster
namespace Go.Ab

def SameOn (l : List Nat) (ts ts' : TS) : Prop := ∀ t ∈ l, ts.get t = ts'.get t

theorem SameOn.left {a b : List Nat} {ts ts' : TS} (h : SameOn (a ++ b) ts ts') : SameOn a ts ts' := fun t ht => h t (List.mem_append_left _ ht)
theorem SameOn.right {a b : List Nat} {ts ts' : TS} (h : SameOn (a ++ b) ts ts') : SameOn b ts ts' := fun t ht => h t (List.mem_append_right _ ht)

theorem evA_same {x : Opd} {ts ts' : TS} (h : SameOn x.sl ts ts') : evA ts x = evA ts' x := by
  cases x with
  | t n => simp only [evA, h n (by simp [Opd.sl])]
  | k v => rfl

theorem slL_same : ∀ {l : List Opd} {ts ts' : TS}, SameOn (slL l) ts ts' → l.map (evA ts) = l.map (evA ts')
  | [], _, _, _ => rfl
  | x :: r, ts, ts', h => by simp only [List.map_cons, evA_same h.left, slL_same h.right]

theorem optNat_same {d : Nat} {x : Option Opd} {ts ts' : TS} (h : SameOn (slOp x) ts ts') : optNat ts d x = optNat ts' d x := by
  cases x with
  | none => rfl
  | some x => simp only [optNat, evA_same h]

theorem fillA_same : ∀ {ps : List (Nat × Nat × Opd)} {cs : List AV} {ts ts' : TS}, SameOn (slP ps) ts ts' → fillA ts cs ps = fillA ts' cs ps
  | [], _, _, _, _ => rfl
  | (a, b, x) :: r, cs, ts, ts', h => by
    simp only [fillA, evA_same h.left]
    split
    · exact fillA_same h.right
    · rfl

theorem opA_congr {co : CO} {ts ts' : TS} {h : H} (hs : SameOn co.slots ts ts') : opA ts h co = opA ts' h co := by
  cases co <;> simp only [CO.slots] at hs <;> simp only [opA]
  case mv x => rw [evA_same hs]
  case pick c a b => simp only [oPick, evA_same hs.left, evA_same hs.right.left, evA_same hs.right.right]
  case box x => simp only [oBox, evA_same hs]
  case build z ps => simp only [oBuild, fillA_same hs]
  case bslice n z cs ps => simp only [oBslice, fillA_same hs]
  case load s g x => simp only [oLoad, evA_same hs]
  case store s x y => simp only [oStore, evA_same hs.left, evA_same hs.right]
  case nilc x => rw [evA_same hs]
  case bin op c x y => rw [evA_same hs.left, evA_same hs.right]
  case un op x => rw [evA_same hs]
  case conv k x => simp only [oConv, evA_same hs]
  case ofBytes x => simp only [oOfBytes, evA_same hs]
  case convS x => simp only [oConvS, evA_same hs]
  case mkIfc t x => rw [evA_same hs]
  case mkFn f a c => rw [slL_same hs.left, slL_same hs.right]
  case mkSl z b ze l c => simp only [oMkSl, evA_same hs.left, evA_same hs.right]
  case slArr n z x lo hi mx => simp only [oSlArr, evA_same hs.left, optNat_same hs.right.left, optNat_same hs.right.right.left]
  case slStr x lo hi => simp only [oSlStr, evA_same hs.left, optNat_same hs.right.left, optNat_same hs.right.right]
  case sl z x lo hi mx =>
    have h4 := hs.right.right.right
    cases mx with
    | none => simp only [oSl, evA_same hs.left, optNat_same hs.right.left, optNat_same hs.right.right.left, optNat_same h4]
    | some m => simp only [oSl, evA_same hs.left, optNat_same hs.right.left, optNat_same hs.right.right.left, optNat_same h4, evA_same (x := m) h4]
  case fieldA o x => simp only [oFieldA, evA_same hs]
  case field o s g x => simp only [oField, evA_same hs]
  case idxArr n z x i => simp only [oIdxArr, evA_same hs.left, evA_same hs.right]
  case idxSl z x i => simp only [oIdxSl, evA_same hs.left, evA_same hs.right]
  case ixAgg n z s g x i => simp only [oIxAgg, evA_same hs.left, evA_same hs.right]
  case ixStr x i => simp only [oIxStr, evA_same hs.left, evA_same hs.right]
  case look q z x k ok => rw [evA_same hs.left, evA_same hs.right]
  case upd q m k v => rw [evA_same hs.left, evA_same hs.right.left, evA_same hs.right.right]
  case ext i x => simp only [oExt, evA_same hs]
  case tass a z ok x => simp only [oTass, evA_same hs]
  case call f as => simp only [oCall, evA_same hs.left, slL_same hs.right]
  case append z b s x => rw [evA_same hs.left, evA_same hs.right]
  case lenS x => rw [evA_same hs]
  case lenL x => rw [evA_same hs]
  case lenM x => rw [evA_same hs]
  case copy z d x => rw [evA_same hs.left, evA_same hs.right]
  case min x y => rw [evA_same hs.left, evA_same hs.right]
  case max x y => rw [evA_same hs.left, evA_same hs.right]
  case del q m k => rw [evA_same hs.left, evA_same hs.right]
  case clear z ze x => simp only [oClear, evA_same hs]
  case defer f as => simp only [oDefer, evA_same hs.left, slL_same hs.right]
  case panic x => simp only [oPanic, evA_same hs]

/-! The heap's next number. -/
def NX (h : H) : Prop := ∀ b x, h.get b = some x → b < h.next

structure Grow (h h' : H) : Prop where
  next : h.next ≤ h'.next
  nx : NX h → NX h'

theorem Grow.refl (h : H) : Grow h h := ⟨Nat.le_refl _, id⟩
theorem Grow.trans {a b c : H} (x : Grow a b) (y : Grow b c) : Grow a c := ⟨Nat.le_trans x.next y.next, fun h => y.nx (x.nx h)⟩
theorem Grow.new (h : H) (x : Bk) : Grow h (h.new x) := by
  refine ⟨Nat.le_succ _, fun hn b y hb => ?_⟩
  rw [H.get_new] at hb
  rw [H.next_new]
  split at hb
  · omega
  · have := hn b y hb; omega
theorem Grow.put {h : H} {b : Nat} {y : Bk} (hb : h.get b = some y) (x : Option Bk) : Grow h (h.put b x) := by
  refine ⟨Nat.le_refl _, fun hn c z hc => ?_⟩
  rw [H.get_put] at hc
  rw [H.next_put]
  by_cases e : c = b
  · rw [e]; exact hn b y hb
  · rw [if_neg e] at hc; exact hn c z hc

def St.grow (g : H) : St → Prop
  | .val _ h => Grow g h
  | .skip h => Grow g h
  | .call _ _ h => Grow g h
  | .defer _ _ h => Grow g h
  | .recov h => Grow g h
  | .pan _ h => Grow g h
  | .no => True

theorem ofO_grow {h : H} {x : Option AV} : (ofO h x).grow h := by cases x <;> first | trivial | exact Grow.refl _

theorem storeA_grow {h h' : H} {b o : Nat} {vs : List AV} (e : storeA h b o vs = some h') : Grow h h' := by
  unfold storeA at e
  split at e
  · rename_i cs hb
    split at e
    · injection e with e; subst e; exact Grow.put hb _
    · cases e
  · cases e

theorem dropA_grow {h h' : H} {b : Nat} (e : dropA h b = some h') : Grow h h' := by
  unfold dropA at e
  split at e
  · rename_i cs hb; injection e with e; subst e; exact Grow.put hb _
  · cases e

theorem appendA_grow {z b : Nat} {h h' : H} {s x v : AV} (e : appendA z b h s x = some (v, h')) : Grow h h' := by
  unfold appendA at e
  split at e
  · split at e
    · injection e with e; injection e with e1 e2; subst e2; exact Grow.refl _
    · split at e
      · split at e
        · injection e with e; injection e with e1 e2; subst e2; exact Grow.new _ _
        · split at e
          · injection e with e; injection e with e1 e2; subst e2; exact Grow.new _ _
          · split at e
            · rename_i h2 hd
              injection e with e; injection e with e1 e2; subst e2
              exact (dropA_grow hd).trans (Grow.new _ _)
            · cases e
        · cases e
      · cases e
  · cases e

theorem copyA_grow {z : Nat} {h h' : H} {d x v : AV} (e : copyA z h d x = some (v, h')) : Grow h h' := by
  unfold copyA at e
  split at e
  · split at e
    · unfold copySl at e
      split at e
      · rename_i g1 g2; injection e with e; injection e with e1 e2; subst e2; exact storeA_grow g2
      · cases e
    · injection e with e; injection e with e1 e2; subst e2; exact Grow.refl _
    · cases e
  · cases e

theorem foundA_map {q : EqK} {h : H} {b : Nat} {k : AV} {es : List ME} {c : Nat} {r : Option (Nat × AV)} (hf : foundA q h (.map b) k = some (es, c, r)) : ∃ y, h.get b = some y := by
  obtain ⟨h1, _⟩ := foundA_ok hf
  simp only [entriesA] at h1
  split at h1
  · rename_i es' c' hg; exact ⟨_, hg⟩
  · cases h1

theorem updateA_grow {q : EqK} {h h' : H} {x k v : AV} (e : updateA q h x k v = some h') : Grow h h' := by
  unfold updateA at e
  split at e
  · split at e
    · rename_i es c r hf
      obtain ⟨y, hy⟩ := foundA_map hf
      split at e <;> (injection e with e; subst e; exact Grow.put hy _)
    · cases e
  · cases e

theorem deleteA_grow {q : EqK} {h h' : H} {x k : AV} (e : deleteA q h x k = some h') : Grow h h' := by
  unfold deleteA at e
  split at e
  · split at e
    · rename_i es c r hf
      obtain ⟨y, hy⟩ := foundA_map hf
      split at e
      · injection e with e; subst e; exact Grow.put hy _
      · injection e with e; subst e; exact Grow.refl _
    · cases e
  · cases e

theorem opA_grow (ts : TS) (h : H) (co : CO) : (opA ts h co).grow h := by
  cases co <;> simp only [opA]
  case store s x y =>
    unfold oStore
    split
    · split
      · rename_i g1 g2; exact storeA_grow g2
      · trivial
    · trivial
  case upd q m k v =>
    cases e : updateA q h (evA ts m) (evA ts k) (evA ts v) with
    | none => trivial
    | some h' => exact updateA_grow e
  case append z b s x =>
    cases e : appendA z b h (evA ts s) (evA ts x) with
    | none => trivial
    | some p => exact appendA_grow e
  case copy z s x =>
    cases e : copyA z h (evA ts s) (evA ts x) with
    | none => trivial
    | some p => exact copyA_grow e
  case del q m k =>
    cases e : deleteA q h (evA ts m) (evA ts k) with
    | none => trivial
    | some h' => exact deleteA_grow e
  case clear z ze x =>
    unfold oClear
    split
    · exact Grow.refl _
    · split
      · rename_i g1 g2; exact storeA_grow g2
      · trivial
    · trivial
  all_goals first
    | exact ofO_grow
    | exact Grow.refl _
    | exact Grow.new _ _
    | skip
  case pick => unfold oPick; split <;> first | trivial | exact Grow.refl _
  case box => unfold oBox; split <;> first | trivial | exact Grow.new _ _
  case build => unfold oBuild; split <;> first | trivial | exact Grow.refl _
  case bslice => unfold oBslice; split <;> first | trivial | exact Grow.new _ _
  case load => unfold oLoad; split <;> first | trivial | exact ofO_grow
  case conv => unfold oConv; split <;> first | trivial | exact Grow.refl _
  case ofBytes => unfold oOfBytes; split <;> (try split) <;> (try split) <;> first | trivial | exact Grow.refl _
  case convS => unfold oConvS; split <;> first | trivial | exact Grow.refl _
  case mkSl => unfold oMkSl; split <;> (try split) <;> first | trivial | exact Grow.new _ _
  case slArr => unfold oSlArr; split <;> (try split) <;> (try split) <;> first | trivial | exact ofO_grow
  case slStr => unfold oSlStr; split <;> (try split) <;> first | trivial | exact Grow.refl _
  case sl => unfold oSl; repeat' split
             all_goals first | trivial | exact Grow.refl _ | exact ofO_grow
  case fieldA => unfold oFieldA; split <;> first | trivial | exact Grow.refl _
  case field => unfold oField; split <;> first | trivial | exact ofO_grow
  case idxArr => unfold oIdxArr; split <;> (try split) <;> first | trivial | exact Grow.refl _
  case idxSl => unfold oIdxSl; split <;> (try split) <;> first | trivial | exact Grow.refl _
  case ixAgg => unfold oIxAgg; split <;> (try split) <;> first | trivial | exact ofO_grow
  case ixStr => unfold oIxStr; split <;> (try split) <;> first | trivial | exact Grow.refl _
  case ext => unfold oExt; split <;> first | trivial | exact ofO_grow
  case tass => unfold oTass; split <;> (try split) <;> first | trivial | exact Grow.refl _
  case call => unfold oCall; split <;> first | trivial | exact Grow.refl _
  case defer => unfold oDefer; split <;> first | trivial | exact Grow.refl _
  case panic => unfold oPanic; split <;> first | trivial | exact Grow.refl _

/-! Classes. -/

theorem ofO_inv {h : H} {x : Option AV} : (∃ v, x = some v ∧ ofO h x = .val v h) ∨ (x = none ∧ ofO h x = .no) := by
  cases x with
  | none => exact .inr ⟨rfl, rfl⟩
  | some v => exact .inl ⟨v, rfl, rfl⟩

/-- What is pure gives the same on each heap. -/
theorem pure_cls {co : CO} (hc : co.cl = .pure) (ts : TS) (h : H) : (∃ v, ∀ g, opA ts g co = .val v g) ∨ opA ts h co = .no := by
  have ofO' : ∀ x : Option AV, (∃ v, ∀ g, ofO g x = .val v g) ∨ ofO h x = .no := by
    intro x
    cases x with
    | none => exact .inr rfl
    | some v => exact .inl ⟨v, fun _ => rfl⟩
  cases co <;> first | (cases hc; done) | skip
  case bin op c x y =>
    have hne : c ≠ .ptr := by rintro rfl; cases hc
    simp only [opA]
    have : ∀ g, binA g op c (evA ts x) (evA ts y) = binA h op c (evA ts x) (evA ts y) := by
      intro g
      unfold binA
      split
      · rfl
      · rfl
      · have : equalA g c (evA ts x) (evA ts y) = equalA h c (evA ts x) (evA ts y) := by
          generalize evA ts x = X
          generalize evA ts y = Y
          cases c <;> first | exact absurd rfl hne | (cases X <;> cases Y <;> rfl)
        rw [this]
    rcases ofO' (binA h op c (evA ts x) (evA ts y)) with ⟨v, hv⟩ | hv
    · exact .inl ⟨v, fun g => by rw [this g]; exact hv g⟩
    · exact .inr hv
  all_goals simp only [opA]
  case mv => exact .inl ⟨_, fun _ => rfl⟩
  case pick => unfold oPick; split <;> first | exact .inr rfl | exact .inl ⟨_, fun _ => rfl⟩
  case build => unfold oBuild; split <;> first | exact .inr rfl | exact .inl ⟨_, fun _ => rfl⟩
  case nilc => exact ofO' _
  case un => exact ofO' _
  case conv => unfold oConv; split <;> first | exact .inr rfl | exact .inl ⟨_, fun _ => rfl⟩
  case convS => unfold oConvS; split <;> first | exact .inr rfl | exact .inl ⟨_, fun _ => rfl⟩
  case mkIfc => exact .inl ⟨_, fun _ => rfl⟩
  case mkFn => exact .inl ⟨_, fun _ => rfl⟩
  case slStr => unfold oSlStr; split <;> (try split) <;> first | exact .inr rfl | exact .inl ⟨_, fun _ => rfl⟩
  case sl => unfold oSl; repeat' split
             all_goals first | exact .inr rfl | exact .inl ⟨_, fun _ => rfl⟩ | exact ofO' _
  case fieldA => unfold oFieldA; split <;> first | exact .inr rfl | exact .inl ⟨_, fun _ => rfl⟩
  case field => unfold oField; split <;> first | exact .inr rfl | exact ofO' _
  case idxArr => unfold oIdxArr; split <;> (try split) <;> first | exact .inr rfl | exact .inl ⟨_, fun _ => rfl⟩
  case idxSl => unfold oIdxSl; split <;> (try split) <;> first | exact .inr rfl | exact .inl ⟨_, fun _ => rfl⟩
  case ixAgg => unfold oIxAgg; split <;> (try split) <;> first | exact .inr rfl | exact ofO' _
  case ixStr => unfold oIxStr; split <;> (try split) <;> first | exact .inr rfl | exact .inl ⟨_, fun _ => rfl⟩
  case ext => unfold oExt; split <;> first | exact .inr rfl | exact ofO' _
  case tass => unfold oTass; split <;> (try split) <;> first | exact .inr rfl | exact .inl ⟨_, fun _ => rfl⟩
  case lenS => exact ofO' _
  case lenL => exact ofO' _
  case lenK => exact .inl ⟨_, fun _ => rfl⟩
  case min => exact ofO' _
  case max => exact ofO' _

/-- What reads gives a value; it looks at the blocks alone. -/
theorem reads_cls {co : CO} (hc : co.cl = .reads) (ts : TS) (h : H) : (∃ v, ∀ n, opA ts ⟨n, h.m⟩ co = .val v ⟨n, h.m⟩) ∨ opA ts h co = .no := by
  have ofO' : ∀ x : Option AV, (∃ v, ∀ n, ofO (⟨n, h.m⟩ : H) x = .val v ⟨n, h.m⟩) ∨ ofO h x = .no := by
    intro x
    cases x with
    | none => exact .inr rfl
    | some v => exact .inl ⟨v, fun _ => rfl⟩
  cases co <;> first | (cases hc; done) | skip
  case bin op c x y =>
    have he : c = .ptr := by cases c <;> first | rfl | cases hc
    subst he
    exact ofO' (binA h op .ptr (evA ts x) (evA ts y))
  all_goals simp only [opA]
  case load s g a => unfold oLoad; split <;> first | exact .inr rfl | exact ofO' (loadA s g h _ _)
  case look q z x k ok => exact ofO' (lookA q z ok h (evA ts x) (evA ts k))
  case lenM x => exact ofO' (lenMp h (evA ts x))
  case ofBytes x =>
    unfold oOfBytes
    split
    · exact .inr rfl
    · have : ∀ n, rowA 1 (⟨n, h.m⟩ : H) (evA ts x) = rowA 1 h (evA ts x) := fun n => rfl
      cases e : rowA 1 h (evA ts x) with
      | none => exact .inr rfl
      | some cs =>
        cases e2 : strBytes cs with
        | none => exact .inr (by simp [e2])
        | some l => exact .inl ⟨.str l, fun n => by simp [this n, e, e2]⟩
  case slArr n z x lo hi mx =>
    unfold oSlArr
    split
    · rename_i mx' b o l r' e1 e2
      have : ∀ n, H.cells (⟨n, h.m⟩ : H) b = H.cells h b := fun n => rfl
      cases e : H.cells h b with
      | none => exact .inr rfl
      | some cs =>
        simp only
        split
        · rename_i e4
          rcases ofO' (sliceA z b o n none l r' none) with ⟨v, hv⟩ | hv
          · exact .inl ⟨v, fun m => by simp only [this m, e, e4]; exact hv m⟩
          · exact .inr hv
        · exact .inr rfl
    · exact .inr rfl

/-- What makes a block makes it at the next number; it looks at no block. -/
theorem makes_cls {co : CO} (hc : co.cl = .makes) (ts : TS) (h : H) : (∃ v x, ∀ m, opA ts ⟨h.next, m⟩ co = .val v (H.new ⟨h.next, m⟩ x)) ∨ opA ts h co = .no := by
  cases co <;> first | (cases hc; done) | skip
  case bin op c x y => cases c <;> cases hc
  all_goals simp only [opA]
  case alloc z => exact .inl ⟨.ptr h.next 0, .cells true z, fun _ => rfl⟩
  case box x =>
    unfold oBox
    split
    · exact .inl ⟨.ptr h.next 0, .cells true (evA ts x).cells, fun _ => rfl⟩
    · exact .inr rfl
  case bslice n z cs ps =>
    unfold oBslice
    split
    · rename_i cs' e; exact .inl ⟨.sl h.next 0 n none z, .cells true cs', fun _ => rfl⟩
    · exact .inr rfl
  case mkMap => exact .inl ⟨.map h.next, .map [] 0, fun _ => rfl⟩
  case mkSl z b ze l c =>
    unfold oMkSl
    split
    · rename_i n m e1 e2
      split
      · exact .inl ⟨.sl h.next 0 n none z, .cells true (repA n ze), fun _ => rfl⟩
      · exact .inr rfl
    · exact .inr rfl
end Go.Ab
