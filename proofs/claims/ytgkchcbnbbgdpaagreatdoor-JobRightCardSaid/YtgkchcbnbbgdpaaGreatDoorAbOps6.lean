/- Rows: append, copy, make, literals of slices, bytes to strings. -/
import Derived.Test.YtgkchcbnbbgdpaaGreatDoorAbOps5
import Derived.Laws.BytesArg
namespace Go.Ab
section
variable {P : Program} {σ : Ren} {h : H} {w : World}

theorem rowA_sl {z b o n z' : Nat} {cap : Option Nat} {l : List AV} (hl : rowA z h (.sl b o n cap z') = some l) : ∃ cs, h.cells b = some cs ∧ z = z' ∧ o + n * z ≤ cs.length ∧ l = (cs.drop o).take (n * z) := by
  simp only [rowA] at hl
  split at hl
  · rename_i cs h1 h2
    split at hl
    · rename_i h3
      injection hl with hl
      exact ⟨cs, h1, Nat.eq_of_beq_eq_true h2, Nat.le_of_ble_eq_true h3, hl.symm⟩
    · cases hl
  · cases hl

/-- What a slice or a string holds, cell by cell: in the world, and behind a draw. -/
theorem row_src (r : HR σ h w) {z : Nat} {x : AV} {x' : Value} (hx : VR σ x x') {l : List AV} (hl : rowA z h x = some l) :
    ∃ n news, lenA x = some n ∧ LR σ l news ∧ news.length = n * z ∧ (∀ w' : World, (Builtin.lenOf x').run P w' = .ok n w') ∧ (Builtin.firstCells z n x').run P w = .ok news.toArray w ∧ (Builtin.firstCells z n x').run P w.drew = .ok news.toArray w.drew ∧
      ∀ k, k ≤ n → (Builtin.firstCells z k x').run P w = .ok (news.take (k * z)).toArray w := by
  cases hx with
  | snil =>
    simp only [rowA, Option.some.injEq] at hl
    subst hl
    refine ⟨0, [], rfl, .nil σ, by simp, fun _ => rfl, run_firstCells_none w z 0 0 0, run_firstCells_none w.drew z 0 0 0, fun k hk => ?_⟩
    have : k = 0 := by omega
    subst this
    simpa using run_firstCells_none (P := P) w z 0 0 0
  | str s =>
    simp only [rowA] at hl
    split at hl
    · rename_i hz
      have hz := Nat.eq_of_beq_eq_true hz
      subst hz
      injection hl with hl; subst hl
      refine ⟨s.size, byteCells s, by simp only [lenA, str_size], ?_, by rw [byteCells_length, Nat.mul_one], fun _ => rfl, firstCells_string s w, firstCells_string s w.drew, fun k hk => ?_⟩
      · rw [List.map_map]
        exact LR.map_ev _ _ _ fun b _ => .int _ _
      · simp only [Builtin.firstCells, Sem.run_pure, Nat.mul_one, byteCells]
        congr 1
        apply Array.ext'
        rw [Array.toList_map, ByteArray.data_extract, Array.toList_extract, List.extract_eq_take_drop, List.map_take, List.map_drop]
        simp
    · cases hl
  | @sl b o len z' off c cap L hL h1 hc hz hs ho =>
    obtain ⟨cs, g1, g2, g3, g4⟩ := rowA_sl hl
    subst g2; subst g4
    have hoff : len * z = 0 ∨ off = L.base + o := by
      rcases ho with e | e
      · left; have : len = 0 := by omega
        rw [this]; simp
      · exact .inr e
    obtain ⟨ds, k1, k2, k3⟩ := row_ok r g1 hL (o := o) (n := len * z) g3
    have hcell : ∀ j v, ds[j]? = some v → w.cell? ((⟨L.blk, off, none⟩ : Addr).add j) = some v := by
      intro j v hj
      rcases hoff with e | e
      · have : ds = [] := List.eq_nil_of_length_eq_zero (by rw [k2, e])
        subst this; simp at hj
      · rw [e]; exact k3 j v hj
    refine ⟨len, ds, rfl, k1, k2, fun _ => rfl, run_firstCells_some w z len _ len c ds k2 hcell, run_firstCells_some w.drew z len _ len c ds k2 (by simpa using hcell), fun k hk => ?_⟩
    refine run_firstCells_some w z k _ len c (ds.take (k * z)) ?_ (fun j v hj => ?_)
    · rw [List.length_take, k2]
      have := Nat.mul_le_mul_right z hk
      omega
    · rw [List.getElem?_take] at hj
      split at hj
      · exact hcell j v hj
      · cases hj
  | _ => simp [rowA] at hl

theorem dropA_ok {b : Nat} {h' : H} (hd : dropA h b = some h') : (∃ cs, h.get b = some (.cells true cs)) ∧ h' = h.put b none := by
  unfold dropA at hd
  split at hd
  · rename_i cs e; injection hd with hd; exact ⟨⟨cs, e⟩, hd.symm⟩
  · cases hd

/-- A new row behind a draw. -/
theorem newRow_drew (r : HR σ h w) {cs : List AV} {arr : Array Value} {e : TypeId} {ds extra : List Value} (hd : LR σ cs ds) (ha : arr.toList = ds ++ extra) (hn : σ h.next = none) {z n c : Nat} (hz : 0 < z) (hl : n ≤ c) (hs : c * z ≤ arr.size) :
    ∃ σ', VR σ' (.sl h.next 0 n none z) (.slice (some ⟨w.heap.size, 0, none⟩) n c) ∧ HR σ' (h.new (.cells true cs)) (w.drew.alloc (.cells arr e)) ∧ Ext σ σ' h (h.new (.cells true cs)) w (w.drew.alloc (.cells arr e)) := by
  obtain ⟨h1, h2⟩ := (r.drew).newCells cs arr e ds extra hd ha hn
  exact ⟨_, .sl (L := ⟨w.heap.size, 0, arr.size⟩) (setR_same _ _ _) hl (by intro k hk; cases hk) hz (by simpa using hs) (.inr rfl), h1, Ext.drew.trans h2⟩

theorem grow_sim (r : HR σ h w) {t tx ty e : TypeId} {i : TypeInfo} {zv : Value} (ht : P.underlying t = some (.slice e)) (hi : P.info? e = some i) (hz : i.zero = some zv) (hzc : zv.cells.size = i.size) (hz0 : 0 < i.size)
    {base : Option Addr} {sLen sCap : Nat} {olds : List Value} {old : List AV} (hold : (Builtin.firstCells i.size sLen (.slice base sLen sCap)).run P w.drew = .ok olds.toArray w.drew) (hol : olds.length = sLen * i.size) (hor : LR σ old olds)
    {x : Value} {n : Nat} {news : List Value} {new : List AV} (hs : Src P i.size tx x n news w) (hnr : LR σ new news) (hg : sCap < sLen + n) (hb : (sLen + n) * i.bytes ≤ maxRow) (hm : sLen + n ≤ maxRow) (hn : σ h.next = none) :
    ∃ σ' v' w', (Builtin.append_ #[t, tx] ty #[.slice base sLen sCap, x]).run P w = .ok v' w' ∧ VR σ' (.sl h.next 0 (sLen + n) none i.size) v' ∧ HR σ' (h.new (.cells true (old ++ new))) w' ∧ Ext σ σ' h (h.new (.cells true (old ++ new))) w w' := by
  unfold maxRow at hb hm
  have hrun := run_append_grow_src (P := P) w t tx ty e i zv ht hi hz base sLen sCap olds hold x n news hs hg (by omega) (growslice_fits hg (by omega))
  have hge := grownCap_ge w (sLen + n) sCap e
  obtain ⟨σ', h1, h2, h3⟩ := newRow_drew (e := e) r (hor.append hnr) (arr := (olds ++ news).toArray ++ Builtin.zeroCells zv.cells (grownCap w (sLen + n) sCap e - (sLen + n))) (extra := (Builtin.zeroCells zv.cells (grownCap w (sLen + n) sCap e - (sLen + n))).toList) (by simp) hn
    (z := i.size) (n := sLen + n) (c := grownCap w (sLen + n) sCap e) hz0 hge (by
      rw [Array.size_append, List.size_toArray, size_zeroCells, hzc, List.length_append, hol, hs.newsLen, ← Nat.add_mul, ← Nat.add_mul]
      exact Nat.mul_le_mul_right _ (by omega))
  exact ⟨σ', _, _, hrun, h1, h2, h3⟩

theorem room_sim (r : HR σ h w) {t tx ty e : TypeId} {i : TypeInfo} (ht : P.underlying t = some (.slice e)) (hi : P.info? e = some i) (hz0 : 0 < i.size) {b o sLen : Nat} {cs : List AV} {L : Loc} {off sCap : Nat}
    (hL : σ b = some L) (hs0 : off + sCap * i.size ≤ L.size) (ho : sCap = 0 ∨ off = L.base + o) (hg : h.get b = some (.cells true cs)) (hin : o + sLen * i.size ≤ cs.length)
    {x : Value} {n : Nat} {news : List Value} {new : List AV} (hs : Src P i.size tx x n news w) (hnr : LR σ new news) (hn0 : 0 < n) (hroom : sLen + n ≤ sCap) (hn : σ h.next = none) :
    ∃ σ' v' w', (Builtin.append_ #[t, tx] ty #[.slice (some ⟨L.blk, off, none⟩) sLen sCap, x]).run P w = .ok v' w' ∧ VR σ' (.sl h.next 0 (sLen + n) none i.size) v' ∧
      HR σ' ((h.put b none).new (.cells true ((cs.drop o).take (sLen * i.size) ++ new))) w' ∧ Ext σ σ' h ((h.put b none).new (.cells true ((cs.drop o).take (sLen * i.size) ++ new))) w w' := by
  have hoff : off = L.base + o := by rcases ho with e | e <;> omega
  subst hoff
  obtain ⟨arr, e', fr, h1, ⟨h2, h2'⟩, h3, h4⟩ := r.blk b _ L hg hL
  rw [h4 rfl] at h1
  have hfit : (sLen + n) * i.size ≤ sCap * i.size := Nat.mul_le_mul_right _ hroom
  have hnl : news.length = n * i.size := hs.newsLen
  have hst := run_storeCells_at P L.blk (L.base + o + sLen * i.size) e' news 0 arr w h1 (by rw [Nat.add_mul] at hfit; omega) hs.one
  simp only [Nat.add_zero] at hst
  generalize hnew : (arr.toList.take (L.base + o + sLen * i.size) ++ news ++ arr.toList.drop (L.base + o + sLen * i.size + news.length)).toArray = na at hst
  have hnal : na.toList = arr.toList.take (L.base + o + sLen * i.size) ++ news ++ arr.toList.drop (L.base + o + sLen * i.size + news.length) := by rw [← hnew]
  have hnsz : na.size = arr.size := by
    rw [← Array.length_toList, hnal]; simp; rw [Nat.add_mul] at hfit; omega
  have hrun : (Builtin.append_ #[t, tx] ty #[.slice (some ⟨L.blk, L.base + o, none⟩) sLen sCap, x]).run P w = .ok (.slice (some ⟨L.blk, L.base + o, none⟩) (sLen + n) sCap) (w.setRow L.blk na) := by
    rcases hs.kind with ⟨e', hk⟩ | hk <;> simp [Builtin.append_, run_underlying ht, run_underlying hk, sizeOf, typeInfo, hi, hs.len, hroom, hs.cells, Addr.add_lit, hst]
  have hlen := h3.1
  simp only [List.length_take, List.length_drop, Array.length_toList] at hlen
  have hlr : LR σ ((cs.drop o).take (sLen * i.size) ++ new) ((na.toList.drop (L.base + o)).take ((cs.drop o).take (sLen * i.size) ++ new).length) := by
    have e1 : ((cs.drop o).take (sLen * i.size) ++ new).length = sLen * i.size + news.length := by rw [List.length_append, hnr.1]; simp; omega
    have e2 : (na.toList.drop (L.base + o)).take (sLen * i.size + news.length) = (((arr.toList.drop L.base).take cs.length).drop o).take (sLen * i.size) ++ news := by
      rw [hnal]
      apply List.ext_getElem?
      intro j
      simp only [List.getElem?_take, List.getElem?_drop, List.getElem?_append, List.length_take, List.length_append, List.length_drop, Array.length_toList]
      rw [Nat.add_mul] at hfit
      have m1 : min (L.base + o + sLen * i.size) arr.size = L.base + o + sLen * i.size := by omega
      have m2 : min cs.length (arr.size - L.base) = cs.length := hlen.symm
      have m3 : min (sLen * i.size) (cs.length - o) = sLen * i.size := by omega
      simp only [m1, m2, m3]
      by_cases h5 : j < sLen * i.size
      · rw [if_pos (by omega), if_pos (by omega), if_pos (by omega), if_pos (by omega), if_pos (by omega), if_pos (by omega)]
        rw [if_pos (by omega)]; congr 1; omega
      · by_cases h6 : j < sLen * i.size + news.length
        · rw [if_pos (by omega), if_pos (by omega), if_neg (by omega), if_neg (by omega)]; congr 1; omega
        · rw [if_neg (by omega), if_neg (by omega), List.getElem?_eq_none (by omega)]
    rw [e1, e2]
    exact ((h3.drop o).take _).append hnr
  obtain ⟨k1, k2⟩ := r.hand (w' := w.setRow L.blk na) (L' := ⟨L.blk, L.base + o, L.size⟩) hL (.inl ⟨cs, hg⟩) (.cells true ((cs.drop o).take (sLen * i.size) ++ new)) rfl hn (setRow_size w _ _) rfl rfl rfl (fun k hk => setRow_other w _ _ _ hk)
    (fun σ' hle => ⟨na, e', (0, 0), setRow_heap w L.blk arr na e' (0, 0) h1, ⟨by rw [hnsz, h2], by
      rw [List.length_append, hnr.1, hnl]; simp only [List.length_take, List.length_drop]; rw [Nat.add_mul] at hfit; omega⟩, hlr.mono hle, fun _ => rfl⟩)
  exact ⟨_, _, _, hrun, .sl (L := ⟨L.blk, L.base + o, L.size⟩) (setR_same _ _ _) hroom (by intro k hk; cases hk) hz0 hs0 (.inr rfl), k1, k2⟩
end
end Go.Ab
