/- What the steps on the heap do to the relation. -/
import Derived.Test.YtgkchcbnbbgdpaaGreatDoorAbRel
namespace Go.Ab

theorem Own.of_get {h h' : H} {b : Nat} (e : h'.get b = h.get b) (o : Own h' b) : Own h b := by
  unfold Own at *
  rwa [e] at o
theorem Own.some {h : H} {b : Nat} (o : Own h b) : (h.get b).isSome = true := by
  rcases o with ⟨cs, e⟩ | ⟨es, c, e⟩ <;> simp [e]
theorem Own.lt {σ : Ren} {h : H} {w : World} (r : HR σ h w) {b : Nat} (o : Own h b) : b < h.next := r.nx b o.some

/-- A new block. -/
theorem HR.new {σ : Ren} {h : H} {w : World} (r : HR σ h w) (x : Bk) (o : Obj) (n : Nat) (hn : σ h.next = none)
    (hb : ∀ σ' w', Le σ σ' → w'.heap[w.heap.size]? = some o → BR σ' x ⟨w.heap.size, 0, n⟩ w') :
    HR (setR σ h.next ⟨w.heap.size, 0, n⟩) (h.new x) (w.alloc o) ∧ Ext σ (setR σ h.next ⟨w.heap.size, 0, n⟩) h (h.new x) w (w.alloc o) := by
  have hle := setR_le σ (⟨w.heap.size, 0, n⟩ : Loc) hn
  have hnew : (w.alloc o).heap[w.heap.size]? = some o := heap_alloc_new w o
  have hsz : (w.alloc o).heap.size = w.heap.size + 1 := Array.size_push o
  refine ⟨⟨fun b L hs => ?_, fun b y L hg hs => ?_, fun b b' L L' hne ho hg hs hs' => ?_, fun b hg => ?_⟩,
    ⟨by simp [H.next_new], fun b hb' => setR_ne σ _ (fun e => hb' (by rw [e]; simp [H.next_new])), fun b h1 h2 => ?_, rfl, rfl, rfl, by omega, fun c hc _ => heap_push_old w o c hc, fun b L ho hs => ?_, fun b L ho hs => ?_⟩⟩
  · by_cases e : b = h.next
    · rw [e, setR_same] at hs; injection hs with hs; subst hs; rw [hsz]; simp
    · rw [setR_ne σ _ e] at hs; rw [hsz]; exact Nat.lt_succ_of_lt (r.bnd b L hs)
  · by_cases e : b = h.next
    · subst e
      rw [setR_same] at hs; injection hs with hs; subst hs
      rw [H.get_new, if_pos rfl] at hg; injection hg with hg; subst hg
      exact hb _ _ hle hnew
    · rw [setR_ne σ _ e] at hs
      rw [H.get_new, if_neg e] at hg
      exact ((r.blk b y L hg hs).mono hle).heap (heap_push_old w o _ (r.bnd b L hs))
  · by_cases e : b = h.next
    · subst e
      rw [setR_same] at hs; injection hs with hs; subst hs
      rw [setR_ne σ _ (Ne.symm hne)] at hs'
      have := r.bnd b' L' hs'
      simp; omega
    · rw [setR_ne σ _ e] at hs
      have ho' : Own h b := ho.of_get (by rw [H.get_new, if_neg e])
      by_cases e' : b' = h.next
      · subst e'
        rw [setR_same] at hs'; injection hs' with hs'; subst hs'
        have := r.bnd b L hs
        simp; omega
      · rw [setR_ne σ _ e'] at hs'
        rw [H.get_new, if_neg e'] at hg
        exact r.inj b b' L L' hne ho' hg hs hs'
  · rw [H.get_new] at hg
    rw [H.next_new]
    by_cases e : b = h.next
    · omega
    · rw [if_neg e] at hg; exact Nat.lt_succ_of_lt (r.nx b hg)
  · have : b = h.next := by rw [H.next_new] at h2; omega
    rw [this]; exact hn
  · by_cases e : b = h.next
    · subst e; rw [setR_same] at hs; injection hs with hs; subst hs; exact .inl (Nat.le_refl _)
    · rw [setR_ne σ _ e] at hs
      exact .inr ⟨b, L, ho.of_get (by rw [H.get_new, if_neg e]), hs, rfl⟩
  · by_cases e : b = h.next
    · subst e; rw [setR_same] at hs; injection hs with hs; subst hs; exact .inl (Nat.le_refl _)
    · rw [setR_ne σ _ e] at hs
      exact .inr ⟨b, L, by rw [H.get_new, if_neg e] at ho; exact ho, hs, rfl⟩

theorem BR.cells_new {σ : Ren} {cs : List AV} {ds extra : List Value} {arr : Array Value} {e : TypeId} (h : LR σ cs ds) (ha : arr.toList = ds ++ extra) {w : World} {k : Nat}
    (σ' : Ren) (w' : World) (hle : Le σ σ') (hw : w'.heap[k]? = some (.cells arr e (0, 0))) (own : Bool) : BR σ' (.cells own cs) ⟨k, 0, arr.size⟩ w' := by
  refine ⟨arr, e, (0, 0), hw, ⟨rfl, by rw [← Array.length_toList, ha, h.1]; simp⟩, ?_, fun _ => rfl⟩
  simp only [List.drop_zero]
  rw [ha, h.1, List.take_left]
  exact h.mono hle

/-- A new row of cells. -/
theorem HR.newCells {σ : Ren} {h : H} {w : World} (r : HR σ h w) (cs : List AV) (arr : Array Value) (e : TypeId) (ds extra : List Value) (hd : LR σ cs ds) (ha : arr.toList = ds ++ extra) (hn : σ h.next = none) :
    HR (setR σ h.next ⟨w.heap.size, 0, arr.size⟩) (h.new (.cells true cs)) (w.alloc (.cells arr e)) ∧
    Ext σ (setR σ h.next ⟨w.heap.size, 0, arr.size⟩) h (h.new (.cells true cs)) w (w.alloc (.cells arr e)) :=
  r.new _ _ _ hn fun σ' w' hle hw => BR.cells_new hd ha (w := w) σ' w' hle hw true

/-- A block of the program's own turns into another one of the same kind, in place. -/
theorem HR.change {σ : Ren} {h : H} {w w' : World} (r : HR σ h w) {b : Nat} {L : Loc} (hs : σ b = some L) (ho : Own h b) (x : Bk) (hsz : w'.heap.size = w.heap.size) (hos : w'.os = w.os) (htp : w'.tape = w.tape) (hout : w'.output = w.output)
    (hoth : ∀ k, k ≠ L.blk → w'.heap[k]? = w.heap[k]?) (hb : BR σ x L w') :
    HR σ (h.put b (some x)) w' ∧ Ext σ σ h (h.put b (some x)) w w' := by
  have hlt := r.bnd b L hs
  have hown : ∀ c, Own (h.put b (some x)) c → Own h c := by
    intro c hc
    by_cases e : c = b
    · rw [e]; exact ho
    · exact hc.of_get (by rw [H.get_put, if_neg e])
  refine ⟨⟨fun c M hc => by rw [hsz]; exact r.bnd c M hc, fun c y M hg hc => ?_, fun c c' M M' hne hoc hg hc hc' => ?_, fun c hg => ?_⟩,
    ⟨Nat.le_refl _, fun _ _ => rfl, fun c h1 h2 => absurd h2 (by rw [H.next_put]; omega), hos, htp, hout, by omega, fun c hc hn => hoth c (fun e => hn b L ho hs e.symm), fun c M hoc hc => .inr ⟨c, M, hown c hoc, hc, rfl⟩, fun c M hoc hc => .inr ⟨c, M, (by rw [H.get_put] at hoc; by_cases e : c = b; exact e ▸ ho.some; rwa [if_neg e] at hoc), hc, rfl⟩⟩⟩
  · by_cases e : c = b
    · subst e
      rw [hs] at hc; injection hc with hc; subst hc
      rw [H.get_put, if_pos rfl] at hg; injection hg with hg; subst hg
      exact hb
    · rw [H.get_put, if_neg e] at hg
      exact (r.blk c y M hg hc).heap (hoth _ (r.inj b c L M (Ne.symm e) ho (by simp [hg]) hs hc).symm)
  · have hg' : (h.get c').isSome = true := by
      rw [H.get_put] at hg
      by_cases e : c' = b
      · rw [e]; exact ho.some
      · rwa [if_neg e] at hg
    exact r.inj c c' M M' hne (hown c hoc) hg' hc hc'
  · rw [H.get_put] at hg
    rw [H.next_put]
    by_cases e : c = b
    · rw [e]; exact r.nx b ho.some
    · rw [if_neg e] at hg; exact r.nx c hg

/-- A block goes. -/
theorem HR.gone {σ : Ren} {h : H} {w : World} (r : HR σ h w) (b : Nat) : HR σ (h.put b none) w := by
  refine ⟨r.bnd, fun c y M hg hc => ?_, fun c c' M M' hne hoc hg hc hc' => ?_, fun c hg => ?_⟩
  · rw [H.get_put] at hg
    by_cases e : c = b
    · rw [if_pos e] at hg; cases hg
    · rw [if_neg e] at hg; exact r.blk c y M hg hc
  · have h1 : c ≠ b := by
      intro e; have := hoc.some; rw [H.get_put, if_pos e] at this; cases this
    have h2 : c' ≠ b := by
      intro e; rw [H.get_put, if_pos e] at hg; cases hg
    rw [H.get_put, if_neg h2] at hg
    exact r.inj c c' M M' hne (hoc.of_get (by rw [H.get_put, if_neg h1])) hg hc hc'
  · rw [H.get_put] at hg
    by_cases e : c = b
    · rw [if_pos e] at hg; cases hg
    · rw [if_neg e] at hg; exact r.nx c hg

theorem Own.of_gone {h : H} {b c : Nat} (o : Own (h.put b none) c) : c ≠ b ∧ Own h c := by
  have h1 : c ≠ b := by
    intro e; have := o.some; rw [H.get_put, if_pos e] at this; cases this
  exact ⟨h1, o.of_get (by rw [H.get_put, if_neg h1])⟩

theorem some_put_none {h : H} {b c : Nat} (ho : ((h.put b none).get c).isSome = true) : (h.get c).isSome = true := by
  rw [H.get_put] at ho
  by_cases e : c = b
  · rw [if_pos e] at ho; cases ho
  · rwa [if_neg e] at ho

theorem Ext.gone {σ : Ren} {h : H} {w : World} (b : Nat) : Ext σ σ h (h.put b none) w w :=
  ⟨Nat.le_refl _, fun _ _ => rfl, fun c h1 h2 => absurd h2 (by rw [H.next_put]; omega), rfl, rfl, rfl, Nat.le_refl _, fun _ _ _ => rfl, fun c L ho hs => .inr ⟨c, L, ho.of_gone.2, hs, rfl⟩, fun c L ho hs => .inr ⟨c, L, some_put_none ho, hs, rfl⟩⟩

/-- A block's place goes over to a new block (an append in place). -/
theorem HR.hand {σ : Ren} {h : H} {w w' : World} (r : HR σ h w) {b : Nat} {L L' : Loc} (hs : σ b = some L) (ho : Own h b) (x : Bk) (hL : L'.blk = L.blk) (hn : σ h.next = none) (hsz : w'.heap.size = w.heap.size) (hos : w'.os = w.os) (htp : w'.tape = w.tape) (hout : w'.output = w.output)
    (hoth : ∀ k, k ≠ L.blk → w'.heap[k]? = w.heap[k]?) (hb : ∀ σ', Le σ σ' → BR σ' x L' w') :
    HR (setR σ h.next L') ((h.put b none).new x) w' ∧ Ext σ (setR σ h.next L') h ((h.put b none).new x) w w' := by
  have hle := setR_le σ L' hn
  have hlt := r.bnd b L hs
  have hbn : b ≠ h.next := fun e => by rw [e, hn] at hs; cases hs
  have hget : ∀ c, ((h.put b none).new x).get c = if c = h.next then some x else if c = b then none else h.get c := by
    intro c; rw [H.get_new, H.next_put, H.get_put]
  have hown : ∀ c, c ≠ h.next → Own ((h.put b none).new x) c → c ≠ b ∧ Own h c := by
    intro c e hc
    have : c ≠ b := by intro e'; have := hc.some; rw [hget, if_neg e, if_pos e'] at this; cases this
    exact ⟨this, hc.of_get (by rw [hget, if_neg e, if_neg this])⟩
  refine ⟨⟨fun c M hc => ?_, fun c y M hg hc => ?_, fun c c' M M' hne hoc hg hc hc' => ?_, fun c hg => ?_⟩,
    ⟨by rw [H.next_new, H.next_put]; omega, fun c hc => setR_ne σ _ (fun e => hc (by rw [e, H.next_new, H.next_put]; omega)), fun c h1 h2 => ?_, hos, htp, hout, by omega, fun c hc hnn => hoth c (fun e => hnn b L ho hs e.symm), fun c M hoc hc => ?_, fun c M hoc hc => ?_⟩⟩
  · rw [hsz]
    by_cases e : c = h.next
    · rw [e, setR_same] at hc; injection hc with hc; subst hc; rw [hL]; exact hlt
    · rw [setR_ne σ _ e] at hc; exact r.bnd c M hc
  · by_cases e : c = h.next
    · subst e
      rw [setR_same] at hc; injection hc with hc; subst hc
      rw [hget, if_pos rfl] at hg; injection hg with hg; subst hg
      exact hb _ hle
    · rw [setR_ne σ _ e] at hc
      rw [hget, if_neg e] at hg
      by_cases e' : c = b
      · rw [if_pos e'] at hg; cases hg
      · rw [if_neg e'] at hg
        exact ((r.blk c y M hg hc).mono hle).heap (hoth _ (r.inj b c L M (Ne.symm e') ho (by simp [hg]) hs hc).symm)
  · by_cases e : c = h.next
    · subst e
      rw [setR_same] at hc; injection hc with hc; subst hc
      rw [setR_ne σ _ (Ne.symm hne)] at hc'
      rw [hget, if_neg (Ne.symm hne)] at hg
      by_cases e' : c' = b
      · rw [if_pos e'] at hg; cases hg
      · rw [if_neg e'] at hg
        rw [hL]; exact r.inj b c' L M' (Ne.symm e') ho hg hs hc'
    · rw [setR_ne σ _ e] at hc
      obtain ⟨hcb, hoc'⟩ := hown c e hoc
      by_cases e' : c' = h.next
      · subst e'
        rw [setR_same] at hc'; injection hc' with hc'; subst hc'
        rw [hL]; exact r.inj c b M L hcb hoc' ho.some hc hs
      · rw [setR_ne σ _ e'] at hc'
        rw [hget, if_neg e'] at hg
        by_cases e2 : c' = b
        · rw [if_pos e2] at hg; cases hg
        · rw [if_neg e2] at hg
          exact r.inj c c' M M' hne hoc' hg hc hc'
  · rw [hget] at hg
    rw [H.next_new, H.next_put]
    by_cases e : c = h.next
    · omega
    · rw [if_neg e] at hg
      by_cases e' : c = b
      · rw [if_pos e'] at hg; cases hg
      · rw [if_neg e'] at hg; exact Nat.lt_succ_of_lt (r.nx c hg)
  · have : c = h.next := by rw [H.next_new, H.next_put] at h2; omega
    rw [this]; exact hn
  · by_cases e : c = h.next
    · subst e; rw [setR_same] at hc; injection hc with hc; subst hc; exact .inr ⟨b, L, ho, hs, hL.symm⟩
    · rw [setR_ne σ _ e] at hc
      exact .inr ⟨c, M, (hown c e hoc).2, hc, rfl⟩
  · by_cases e : c = h.next
    · subst e; rw [setR_same] at hc; injection hc with hc; subst hc; exact .inr ⟨b, L, ho.some, hs, hL.symm⟩
    · rw [setR_ne σ _ e] at hc
      rw [hget, if_neg e] at hoc
      by_cases e' : c = b
      · rw [if_pos e'] at hoc; cases hoc
      · rw [if_neg e'] at hoc; exact .inr ⟨c, M, hoc, hc, rfl⟩
end Go.Ab
