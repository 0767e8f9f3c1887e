/- Maps written, rows cleared, bytes to strings, lengths, and the rest. -/
import Derived.Test.YtgkchcbnbbgdpaaGreatDoorAbOps9
namespace Go.Ab
section
variable {P : Program} {σ : Ren} {h : H} {w : World}

theorem findME_key {q : EqK} {k : AV} : ∀ (es : List ME) (i j : Nat) (u : AV), findME q k es i = some (some (j, u)) → i ≤ j ∧ ∃ e, es[j - i]? = some e ∧ eqK q k e.key = some true
  | [], i, j, u, h => by simp [findME] at h
  | e :: es, i, j, u, h => by
    simp only [findME] at h
    split at h
    · rename_i g
      simp only [Option.some.injEq, Prod.mk.injEq] at h
      obtain ⟨rfl, _⟩ := h
      exact ⟨Nat.le_refl _, e, by simp, g⟩
    · obtain ⟨h1, e', h2, h3⟩ := findME_key es (i + 1) j u h
      refine ⟨by omega, e', ?_, h3⟩
      have : j - i = (j - (i + 1)) + 1 := by omega
      rw [this]; simpa using h2
    · cases h

theorem upd_sim (r : HR σ h w) {t kt e : TypeId} {q : EqK} (ht : P.underlying t = some (.map kt e)) (hk : keyT P kt = some q) {x k v : AV} {x' k' v' : Value} (hx : VR σ x x') (hkk : VR σ k k') (hv : VR σ v v') {h' : H} (hu : updateA q h x k v = some h') :
    Does P σ h w (Instr.mapUpdate t x' k' v') h' := by
  intro _
  unfold updateA at hu
  split at hu
  · rename_i b
    split at hu
    · rename_i es c res hf
      obtain ⟨g1, g2⟩ := foundA_ok hf
      have hd : ∃ d, P.underlying kt = some d := by obtain ⟨_, ⟨i, e, _⟩ | ⟨e, _⟩⟩ := keyT_kind hk <;> exact ⟨_, e⟩
      obtain ⟨d, hd⟩ := hd
      rcases entries_ok r hx g1 with ⟨e1, _, _⟩ | ⟨b', L, es', e1, hL, rfl, h1, h2, h3⟩
      · cases e1
      injection e1 with e1; subst e1
      obtain ⟨r', k1, k2⟩ := find_sim hk hd hkk es es'.toList 0 res h3 g2
      have hfk := findKey_run (P := P) (w := w) hd k1
      cases res with
      | none =>
        simp only at hu k2
        subst k2
        injection hu with hu; subst hu
        have hm : MR σ (es ++ [⟨k, v, c⟩]) (es'.push { key := k', val := v', born := c }).toList := by
          refine ⟨by have := h3.1; simp at this ⊢; exact this, fun i a a' ha ha' => ?_⟩
          simp only [Array.toList_push] at ha'
          by_cases hi : i < es.length
          · rw [List.getElem?_append_left hi] at ha
            rw [List.getElem?_append_left (by rw [h3.1]; exact hi)] at ha'
            exact h3.2 i a a' ha ha'
          · rw [List.getElem?_append_right (by omega)] at ha
            rw [List.getElem?_append_right (by rw [h3.1]; omega), h3.1] at ha'
            cases hq : i - es.length with
            | zero => rw [hq] at ha ha'; simp at ha ha'; subst ha; subst ha'; exact ⟨hkk, hv, rfl⟩
            | succ n => rw [hq] at ha; simp at ha
        obtain ⟨s1, s2, s3⟩ := mapTurn (P := P) r (c' := c + 1) hL h1 h2 hm
        refine ⟨σ, _, ?_, s2, s3⟩
        simp only [Instr.mapUpdate, Sem.run_bind, run_underlying ht, Result.andThen_ok, run_getMap h2, checkKey_ok hk, hfk, s1]
      | some p =>
        obtain ⟨i, u⟩ := p
        simp only at hu k2
        obtain ⟨u', rfl, hu', hi1, hi2⟩ := k2
        injection hu with hu; subst hu
        obtain ⟨_, ee, f1, f2⟩ := findME_key es 0 i u g2
        simp only [Nat.sub_zero] at f1
        have hilt : i < es'.size := by have := h3.1; simp at this; omega
        obtain ⟨f3, f4, f5⟩ := h3.2 i ee es'[i] f1 (by simp [hilt])
        have hq : q ≠ .bool := by
          obtain ⟨_, ⟨_, _, rfl⟩ | ⟨_, rfl⟩⟩ := keyT_kind hk <;> intro e <;> cases e
        have hsb := sameBits_key hkk f3 f2 hq
        have hm := h3.setAt hkk hv i
        have hm' : MR σ (setAt k v es i) (es'.modify i fun e => { e with key := k', val := v' }).toList := by
          rw [Array.toList_modify]; exact hm
        obtain ⟨s1, s2, s3⟩ := mapTurn (P := P) r (c' := c) hL h1 h2 hm'
        refine ⟨σ, _, ?_, s2, s3⟩
        simp only [Instr.mapUpdate, Sem.run_bind, run_underlying ht, Result.andThen_ok, run_getMap h2, checkKey_ok hk, hfk]
        have hget : es'[i]? = some es'[i] := by simp [hilt]
        simp [hget, Instr.keyThatStays, hsb, s1]
    · cases hu
  · cases hu

theorem del_sim (r : HR σ h w) {t kt e ty u : TypeId} {q : EqK} {us : List TypeId} (ht : P.underlying t = some (.map kt e)) (hk : keyT P kt = some q) {x k : AV} {x' k' : Value} (hx : VR σ x x') (hkk : VR σ k k') {h' : H} (hu : deleteA q h x k = some h') :
    Makes P σ h w (Builtin.delete_ (t :: us).toArray ty #[x', k']) (.tup []) h' := by
  intro _
  unfold deleteA at hu
  split at hu
  · rename_i b
    split at hu
    · rename_i es c res hf
      obtain ⟨g1, g2⟩ := foundA_ok hf
      have hd : ∃ d, P.underlying kt = some d := by obtain ⟨_, ⟨i, e, _⟩ | ⟨e, _⟩⟩ := keyT_kind hk <;> exact ⟨_, e⟩
      obtain ⟨d, hd⟩ := hd
      rcases entries_ok r hx g1 with ⟨e1, _, _⟩ | ⟨b', L, es', e1, hL, rfl, h1, h2, h3⟩
      · cases e1
      injection e1 with e1; subst e1
      obtain ⟨r', k1, k2⟩ := find_sim hk hd hkk es es'.toList 0 res h3 g2
      have hfk := findKey_run (P := P) (w := w) hd k1
      cases res with
      | none =>
        simp only at hu k2
        subst k2
        injection hu with hu; subst hu
        have hself : ({ w with heap := w.heap.setIfInBounds L.blk (.map es' c) } : World) = w := by
          have hlt := r.bnd _ L hL
          have : w.heap.setIfInBounds L.blk (.map es' c) = w.heap := by
            apply Array.ext_getElem?
            intro i
            rw [Array.getElem?_setIfInBounds]
            split
            · rename_i e; subst e; exact h2.symm
            · rfl
          rw [this]
        obtain ⟨s1, s2, s3⟩ := mapTurn (P := P) r (c' := c) hL h1 h2 h3
        rw [hself] at s1
        refine ⟨σ, .tuple #[], w, ?_, VR.undef σ, r, Ext.refl σ h w⟩
        simp [Builtin.delete_, run_underlying ht, run_getMap h2, checkKey_ok hk, hfk, s1]
      | some p =>
        obtain ⟨i, u⟩ := p
        simp only at hu k2
        obtain ⟨u', rfl, hu', hi1, hi2⟩ := k2
        injection hu with hu; subst hu
        have hm : MR σ (es.take i ++ es.drop (i + 1)) (es'.eraseIdxIfInBounds i).toList := by
          have hilt : i < es'.size := by have := h3.1; simp at this; omega
          have e1 : (es'.eraseIdxIfInBounds i).toList = es'.toList.take i ++ es'.toList.drop (i + 1) := by
            rw [Array.eraseIdxIfInBounds_eq]
            simp [hilt, Array.toList_eraseIdx, List.eraseIdx_eq_take_drop_succ]
          rw [e1]
          have hlen := h3.1
          refine ⟨by simp [hlen], fun j a a' ha ha' => ?_⟩
          have hl1 : (es.take i).length = i := by simp; omega
          have hl2 : (es'.toList.take i).length = i := by simp; omega
          by_cases hj : j < i
          · rw [List.getElem?_append_left (by omega), List.getElem?_take, if_pos hj] at ha ha'
            exact h3.2 j a a' ha ha'
          · rw [List.getElem?_append_right (by omega), List.getElem?_drop] at ha ha'
            rw [hl1] at ha
            rw [hl2] at ha'
            exact h3.2 _ a a' ha ha'
        obtain ⟨s1, s2, s3⟩ := mapTurn (P := P) r (c' := c) hL h1 h2 hm
        refine ⟨σ, .tuple #[], _, ?_, VR.undef σ, s2, s3⟩
        simp [Builtin.delete_, run_underlying ht, run_getMap h2, checkKey_ok hk, hfk, s1]
    · cases hu
  · cases hu

theorem clear_sim (r : HR σ h w) {t e : TypeId} {ty : TypeId} {z : Nat} {zc : List AV} (ht : P.underlying t = some (.slice e)) (hz : sizeT P e = some z) (hz0 : 0 < z) (hc : cellsT P e = some zc) (hl : zc.length = z) {b o n : Nat} {cap : Option Nat} {x' : Value} (hx : VR σ (.sl b o n cap z) x')
    {h' : H} (hst : storeA h b o (repA n zc) = some h') : Makes P σ h w (Builtin.clear_ #[t] ty #[x']) (.tup []) h' := by
  intro _
  cases hx with
  | @sl _ _ _ _ off c _ L hL h1 hcap hzz hs ho =>
    obtain ⟨v, z1, z2⟩ := zero_cells (P := P) (σ := σ) (w := w) hc
    have hvs : v.cells.size = z := by rw [← Array.length_toList, ← z2.1, hl]
    by_cases hn : n = 0
    · subst hn
      have hst' : storeA h b o [] = some h' := by simpa [repA] using hst
      unfold storeA at hst'
      split at hst'
      · rename_i cs hg
        split at hst'
        · injection hst' with hst'
          have hsp : splice cs o [] = cs := by simp [splice]
          rw [hsp] at hst'
          subst hst'
          obtain ⟨k1, k2⟩ := r.change (w' := w) hL (.inl ⟨cs, hg⟩) (.cells true cs) rfl rfl rfl rfl (fun _ _ => rfl) (r.blk b _ L hg hL)
          refine ⟨σ, .tuple #[], w, ?_, VR.undef σ, k1, k2⟩
          simp [Builtin.clear_, run_underlying ht]
        · cases hst'
      · cases hst'
    · have hoff : off = L.base + o := by rcases ho with e | e <;> omega
      subst hoff
      obtain ⟨w', s1, s2, s3⟩ := storeCells_sim (P := P) r hst hL (LR.replicate z2 n)
      refine ⟨σ, .tuple #[], w', ?_, VR.undef σ, s2, s3⟩
      have hzc : (Builtin.zeroCells v.cells n).toList = (List.replicate n v.cells.toList).flatten := range_map_rep n v.cells (by omega)
      cases n with
      | zero => exact absurd rfl hn
      | succ n =>
        simp [Builtin.clear_, run_underlying ht, z1, hzc, s1]

theorem clearNil_sim {t e : TypeId} {ty : TypeId} (ht : P.underlying t = some (.slice e)) : Gives P σ w (Builtin.clear_ #[t] ty #[.slice none 0 0]) (.tup []) :=
  ⟨.tuple #[], by simp [Builtin.clear_, run_underlying ht], VR.undef σ⟩

theorem strBytes_ok : ∀ (l : List AV) (s : List Nat) (ds : List Value), LR σ l ds → strBytes l = some s → ∃ ns : List Int, ds = ns.map (.int .u8) ∧ (ns.map fun n => UInt8.ofNat n.toNat).map (·.toNat) = s
  | [], s, ds, hl, hs => by
    simp only [strBytes, Option.some.injEq] at hs
    subst hs
    exact ⟨[], by rw [hl.nil_inv]; rfl, rfl⟩
  | v :: l, s, ds, hl, hs => by
    obtain ⟨v', r, rfl, h1, h2⟩ := hl.cons_inv
    cases h1 <;> first | (simp [strBytes] at hs; done) | skip
    rename_i k n
    cases k <;> first | (simp [strBytes] at hs; done) | skip
    simp only [strBytes] at hs
    split at hs
    · rename_i m
      split at hs
      · rename_i l' g1 g2
        injection hs with hs; subst hs
        obtain ⟨ns, e1, e2⟩ := strBytes_ok l l' r h2 g2
        have g1 : m < 256 := by simpa [Nat.blt_eq] using g1
        refine ⟨(m : Int) :: ns, by rw [e1]; rfl, ?_⟩
        rw [List.map_cons, List.map_cons, e2]
        congr 1
        simp
        omega
      · cases hs
    · cases hs

theorem ofBytes_sim (r : HR σ h w) {src dst e : TypeId} (hs : P.underlying src = some (.slice e)) (he : P.underlying e = some (.int .u8)) (hd : P.underlying dst = some .string) {x : AV} {x' : Value} (hx : VR σ x x') (hns : isStr x = false) {cs : List AV} {l : List Nat} (hr : rowA 1 h x = some cs) (hl : strBytes cs = some l) :
    Gives P σ w (convert src dst x') (.str l) := by
  obtain ⟨n, news, p1, p2, p3, p4, p5, p6, _⟩ := row_src (P := P) r hx hr
  obtain ⟨ns, e1, e2⟩ := strBytes_ok cs l news p2 hl
  have hstr : VR σ (.str l) (.string (strOfNums ns)) := by
    have : (strOfNums ns).data.toList.map (·.toNat) = l := by
      rw [← e2]; simp [strOfNums]
    rw [← this]
    exact .str _
  cases hx with
  | str s => cases hns
  | snil =>
    simp only [rowA, Option.some.injEq] at hr
    subst hr
    simp only [strBytes, Option.some.injEq] at hl
    subst hl
    exact ⟨_, run_convert_bytes_nil w src e hs he 0 0 dst hd, VR.str (σ := σ) ByteArray.empty⟩
  | @sl b o len z off c cap L hL h1 hc hz hss ho =>
    simp only [lenA, Option.some.injEq] at p1
    subst p1
    have hload : (loadCells ⟨L.blk, off, none⟩ len).run P w = .ok (ns.map (Value.int .u8)).toArray w := by
      rw [← e1]
      simpa [Builtin.firstCells] using p5
    refine ⟨_, ?_, hstr⟩
    rw [run_convert_bytes_string w src dst e _ len c hs he hd, run_bytesToString w _ len c ns hload, foldl_push_bytes]
    simp [strOfNums, ByteArray.empty, ByteArray.emptyWithCapacity]
    rfl
  | _ => simp [rowA] at hr
end
end Go.Ab
