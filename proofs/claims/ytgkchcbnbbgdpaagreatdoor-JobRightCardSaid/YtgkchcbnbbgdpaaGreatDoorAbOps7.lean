/- append, copy, make, literals, bytes to strings, clear: put together. -/
import Derived.Test.YtgkchcbnbbgdpaaGreatDoorAbOps6
import Derived.IntWalk
namespace Go.Ab
section
variable {P : Program} {σ : Ren} {h : H} {w : World}

theorem append_zero {t tx ty e : TypeId} {i : TypeInfo} (ht : P.underlying t = some (.slice e)) (hi : P.info? e = some i) {base : Option Addr} {sLen sCap : Nat} (hl : sLen ≤ sCap) {x : Value} (hs : Src P i.size tx x 0 [] w) :
    (Builtin.append_ #[t, tx] ty #[.slice base sLen sCap, x]).run P w = .ok (.slice base sLen sCap) w := by
  have hc := hs.cells
  rcases hs.kind with ⟨e', hk⟩ | hk <;> cases base <;> simp [Builtin.append_, run_underlying ht, run_underlying hk, sizeOf, typeInfo, hi, hs.len, hl, hc, storeCells]

theorem append_sim (r : HR σ h w) {t tx ty e : TypeId} {i : TypeInfo} {zv : Value} (ht : P.underlying t = some (.slice e)) (hk : (∃ e', P.underlying tx = some (.slice e')) ∨ P.underlying tx = some .string) (hi : P.info? e = some i) (hz : i.zero = some zv) (hzc : zv.cells.size = i.size)
    (hz0 : 0 < i.size) {s x v : AV} {s' x' : Value} {h' : H} (hs : VR σ s s') (hx : VR σ x x') (ha : appendA i.size i.bytes h s x = some (v, h')) : Makes P σ h w (Builtin.append_ #[t, tx] ty #[s', x']) v h' := by
  intro hf
  unfold appendA at ha
  split at ha
  · rename_i old new n k gs g1 g2 g3 g4
    obtain ⟨n', olds, p1, p2, p3, p4, p5, p6, _⟩ := row_src r hs g1
    rw [g3] at p1; injection p1 with p1; subst p1
    obtain ⟨k', news, q1, q2, q3, q4, q5, q6, _⟩ := row_src r hx g2
    rw [g4] at q1; injection q1 with q1; subst q1
    have hslice : ∃ base c, s' = .slice base n c ∧ n ≤ c := by
      cases hs with
      | snil => simp only [lenA, Option.some.injEq] at g3; subst g3; exact ⟨none, 0, rfl, Nat.le_refl _⟩
      | sl a b => simp only [lenA, Option.some.injEq] at g3; subst g3; exact ⟨_, _, rfl, b⟩
      | str s => cases gs
      | _ => simp [lenA] at g3
    cases k with
    | zero =>
      simp only [Option.some.injEq, Prod.mk.injEq] at ha
      obtain ⟨e1, e2⟩ := ha
      subst e1; subst e2
      have : news = [] := List.eq_nil_of_length_eq_zero (by rw [q3]; simp)
      subst this
      obtain ⟨base, c, rfl, hc⟩ := hslice
      exact ⟨σ, _, w, append_zero ht hi hc ⟨hk, q4, q5, q6, by simp, fun u hu => by cases hu⟩, hs, r, Ext.refl σ h w⟩
    | succ k =>
      simp only at ha
      split at ha
      · rename_i c1 c2 c3
        have c1 := Nat.le_of_ble_eq_true c1
        have c2 := Nat.le_of_ble_eq_true c2
        have hsrc : Src P i.size tx x' (k + 1) news w := ⟨hk, q4, q5, q6, q3, q2.oneCell c3⟩
        cases hs with
        | snil =>
          simp only [lenA, Option.some.injEq] at g3
          subst g3
          simp only [rowA, Option.some.injEq] at g1
          subst g1
          simp only [growA, Option.some.injEq, Prod.mk.injEq] at ha
          obtain ⟨e1, e2⟩ := ha
          subst e1; subst e2
          have hon : olds = [] := p2.nil_inv
          subst hon
          obtain ⟨σ', v', w', k1, k2, k3, k4⟩ := grow_sim (ty := ty) r ht hi hz hzc hz0 (base := none) (sLen := 0) (sCap := 0) (run_firstCells_none w.drew _ 0 0 0) (by simp) p2 hsrc q2 (by omega) c1 c2 (fresh_new hf)
          exact ⟨σ', v', w', k1, k2, k3, k4⟩
        | @sl b o len z' off c cap L hL h1 hc hzz hss ho =>
          obtain ⟨cs, d1, d2, d3, d4⟩ := rowA_sl g1
          subst d2; subst d4
          simp only [lenA, Option.some.injEq] at g3
          subst g3
          simp only at ha
          split at ha
          · rename_i hcap
            simp only [growA, Option.some.injEq, Prod.mk.injEq] at ha
            obtain ⟨e1, e2⟩ := ha
            subst e1; subst e2
            have hlt : c < len + (k + 1) := by
              cases cap with
              | none => cases hcap
              | some q =>
                have h1 := hc _ rfl
                have h2 : q < len + (k + 1) := by simpa [Nat.blt_eq] using hcap
                omega
            obtain ⟨σ', v', w', k1, k2, k3, k4⟩ := grow_sim (ty := ty) r ht hi hz hzc hz0 (sCap := c) p6 p3 p2 hsrc q2 hlt c1 c2 (fresh_new hf)
            exact ⟨σ', v', w', k1, k2, k3, k4⟩
          · split at ha
            · rename_i h1' hdrop
              obtain ⟨⟨cs', hg⟩, rfl⟩ := dropA_ok hdrop
              have hcs : cs' = cs := by
                unfold H.cells at d1
                rw [hg] at d1
                injection d1
              subst hcs
              simp only [growA, Option.some.injEq, Prod.mk.injEq] at ha
              obtain ⟨e1, e2⟩ := ha
              subst e1; subst e2
              have hn : σ h.next = none := hf _ (Nat.le_refl _) (by rw [H.next_new, H.next_put]; omega)
              by_cases hroom : len + (k + 1) ≤ c
              · obtain ⟨σ', v', w', k1, k2, k3, k4⟩ := room_sim (ty := ty) r ht hi hz0 hL hss ho hg d3 hsrc q2 (by omega) hroom hn
                exact ⟨σ', v', w', k1, k2, k3, k4⟩
              · have hn' : σ (h.put b none).next = none := hn
                obtain ⟨σ', v', w', k1, k2, k3, k4⟩ := grow_sim (ty := ty) (r.gone b) ht hi hz hzc hz0 (sCap := c) p6 p3 p2 hsrc q2 (by omega) c1 c2 hn'
                exact ⟨σ', v', w', k1, k2, k3, (Ext.gone b).trans k4⟩
            · cases ha
        | str s => cases gs
        | _ => simp [lenA] at g3
      · cases ha
  · cases ha

theorem copy_sim (r : HR σ h w) {t tx ty e : TypeId} {z : Nat} (ht : P.underlying t = some (.slice e)) (hz : sizeT P e = some z) {d x v : AV} {d' x' : Value} {h' : H} (hd : VR σ d d') (hx : VR σ x x') (ha : copyA z h d x = some (v, h')) :
    Makes P σ h w (Builtin.copy_ #[t, tx] ty #[d', x']) v h' := by
  intro hf
  unfold copyA at ha
  split at ha
  · rename_i new k g1 g2
    obtain ⟨k', news, q1, q2, q3, q4, q5, q6, q7⟩ := row_src (P := P) r hx g1
    rw [g2] at q1; injection q1 with q1; subst q1
    cases hd with
    | snil =>
      simp only [Option.some.injEq, Prod.mk.injEq] at ha
      obtain ⟨e1, e2⟩ := ha
      subst e1; subst e2
      have := q7 0 (Nat.zero_le _)
      refine ⟨σ, .int .i64 0, w, ?_, .int _ _, r, Ext.refl σ h w⟩
      simp [Builtin.copy_, run_underlying ht, q4, run_sizeOf hz, this, goInt]
    | @sl b o n z' off c cap L hL h1 hc hzz hss ho =>
      replace ha : copySl z h new k b o n z' = some (v, h') := ha
      unfold copySl at ha
      split at ha
      · rename_i h2 e1 e2
        have e1 := Nat.eq_of_beq_eq_true e1
        subst e1
        simp only [Option.some.injEq, Prod.mk.injEq] at ha
        obtain ⟨f1, f2⟩ := ha
        subst f1; subst f2
        have hq := q7 (min k n) (Nat.min_le_left _ _)
        by_cases hm : min k n = 0
        · have hst : storeA h b o (new.take (min k n * z)) = some h2 := e2
          rw [hm] at hq hst
          simp only [Nat.zero_mul, List.take_zero] at hq hst
          unfold storeA at hst
          split at hst
          · rename_i cs hg
            split at hst
            · rename_i hle hok
              injection hst with hst
              have hsp : splice cs o [] = cs := by simp [splice]
              rw [hsp] at hst
              subst hst
              refine ⟨σ, .int .i64 0, w, ?_, by rw [hm]; exact .int _ _, ?_, ?_⟩
              · simp [Builtin.copy_, run_underlying ht, q4, run_sizeOf hz, show Nat.min k n = 0 from hm, hq, goInt, storeCells]
              · obtain ⟨k1, _⟩ := r.change (w' := w) hL (.inl ⟨cs, hg⟩) (.cells true cs) rfl rfl rfl rfl (fun _ _ => rfl) (r.blk b _ L hg hL)
                exact k1
              · obtain ⟨_, k2⟩ := r.change (w' := w) hL (.inl ⟨cs, hg⟩) (.cells true cs) rfl rfl rfl rfl (fun _ _ => rfl) (r.blk b _ L hg hL)
                exact k2
            · cases hst
          · cases hst
        · have hoff : off = L.base + o := by rcases ho with e | e <;> omega
          subst hoff
          obtain ⟨w', s1, s2, s3⟩ := storeCells_sim (P := P) r e2 hL (q2.take (min k n * z))
          refine ⟨σ, .int .i64 (Int.ofNat (min k n)), w', ?_, .int _ _, s2, s3⟩
          have : Nat.min k n = min k n := rfl
          simp [Builtin.copy_, run_underlying ht, q4, run_sizeOf hz, hq, goInt, s1, this]
      · cases ha
    | _ => simp at ha
  · cases ha

theorem repA_length (n : Nat) (z : List AV) : (repA n z).length = n * z.length := by simp [repA]

theorem range_map_rep (n : Nat) (z : Array Value) (hz : 0 < z.size) : ((Array.range (n * z.size)).map (z[· % z.size]!)).toList = (List.replicate n z.toList).flatten := by
  rw [Array.toList_map, Array.toList_range]
  induction n with
  | zero => simp
  | succ n ih =>
    rw [Nat.succ_mul, Nat.add_comm (n * z.size), List.range_add, List.map_append, List.replicate_succ, List.flatten_cons]
    congr 1
    · apply List.ext_getElem?
      intro i
      simp only [List.getElem?_map, Array.getElem?_toList]
      by_cases hi : i < z.size
      · simp [hi, Nat.mod_eq_of_lt hi, getElem!_pos]
      · simp [hi]
    · rw [← ih, List.map_map]
      apply List.map_congr_left
      intro i _
      simp [Nat.add_mod_left]

theorem zero_cells {e : TypeId} {cs : List AV} (hc : cellsT P e = some cs) : ∃ v, (zeroValue e).run P w = .ok v w ∧ LR σ cs v.cells.toList := by
  unfold cellsT at hc
  cases hzt : zeroT P e with
  | none => simp [hzt] at hc
  | some zv =>
    simp only [hzt, Option.map_some, Option.some.injEq] at hc
    obtain ⟨v, h1, h2⟩ := run_zero (P := P) (w := w) hzt
    subst h2; subst hc
    exact ⟨v, h1, LR.ofV_cells σ v⟩

theorem mkSl_sim (r : HR σ h w) {t e : TypeId} {i : TypeInfo} {cs : List AV} (ht : P.underlying t = some (.slice e)) (hi : P.info? e = some i) (hc : cellsT P e = some cs) (hl : cs.length = i.size) (hz0 : 0 < i.size) {n : Nat} {k k' : IntKind}
    (hb : n * i.bytes ≤ maxRow) (hm : n ≤ maxRow) : Makes P σ h w (Instr.makeSlice t (.int k (n : Int)) (.int k' (n : Int))) (.sl h.next 0 n none i.size) (h.new (.cells true (repA n cs))) := by
  intro hf
  unfold maxRow at hb hm
  obtain ⟨v, h1, h2⟩ := zero_cells (P := P) (σ := σ) (w := w) hc
  have hvs : v.cells.size = i.size := by rw [← Array.length_toList, ← h2.1, hl]
  have hw : IntKind.i64.wrap (n : Int) = (n : Int) := by
    exact IntWalk.i64_in _ ⟨by omega, by omega⟩
  have hrows := range_map_rep n v.cells (by omega)
  rw [hvs] at hrows
  obtain ⟨σ', L, k1, k2, k3, k4, k5, k6⟩ := newRow_sim (P := P) (e := e) r (LR.replicate h2 n) (arr := (Array.range (n * i.size)).map (v.cells[· % i.size]!)) (extra := []) (by rw [hrows]; simp) (fresh_new hf)
  refine ⟨σ', .slice (some ⟨L.blk, 0, none⟩) n n, _, ?_, .sl k2 (Nat.le_refl n) (by intro q hq; cases hq) hz0 (by rw [k4]; simp) (.inr (by rw [k3])), k5, k6⟩
  have hbytes : ¬ (((i.bytes : Int) * (n : Int)) > 2 ^ 48) := by
    have : ((n * i.bytes : Nat) : Int) = (i.bytes : Int) * (n : Int) := by rw [Nat.mul_comm]; simp
    omega
  have hroom : ¬ (n * i.bytes > roomBytes) := by unfold roomBytes; omega
  by_cases hn0 : n * i.size = 0
  · have harr : ((Array.range (n * i.size)).map (v.cells[· % i.size]!)) = #[] := by rw [hn0]; simp
    rw [harr] at k1 ⊢
    have hn1 : n = 0 := by rcases Nat.mul_eq_zero.1 hn0 with h | h <;> omega
    subst hn1
    have hw0 : IntKind.i64.wrap 0 = 0 := hw
    simp [Instr.makeSlice, hw0, show Array.range 0 = #[] from rfl, run_underlying ht, asInt, asIntOf, typeInfo, hi, sizeOf, hw, askRoom, roomBytes, k1]
  · simp [Instr.makeSlice, run_underlying ht, asInt, asIntOf, typeInfo, hi, sizeOf, hw, askRoom, hroom, hn0, h1, hvs, k1, show ¬ ((n : Int) < 0) by omega, hbytes]
    intro hlt
    exfalso
    omega
end
end Go.Ab
