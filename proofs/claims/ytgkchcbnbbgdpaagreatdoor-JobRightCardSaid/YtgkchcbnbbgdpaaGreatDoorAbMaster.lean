/- Each operation of the model does what its abstract one does. -/
import Derived.Test.YtgkchcbnbbgdpaaGreatDoorAbOpAll
namespace Go.Ab
section
variable {P : Program} {σ : Ren} {h : H} {w : World} {o : Oper} {a : Act} {ts : TS}

theorem parts_map (a : Act) (parts : Array (Nat × Operand)) : (parts.map fun (i, x) => (i, a.eval x)) = (parts.toList.map fun p => (p.1, a.eval p.2)).toArray := by
  apply Array.ext'; simp

theorem load_ok (htr : TR σ ts a.tmps) (r : HR σ h w) {t : TypeId} {x : Operand} {s : Nat} {g : Bool} (ho : o.op = .load t x) (hs : sizeT P t = some s) (hg : isAggT P t = some g) : OpOk P σ h w o a (oLoad ts h s g (opd x)) := by
  unfold oLoad
  have hx := evA_ok htr x
  split
  · rename_i b o' e
    rw [e] at hx
    exact OpOk.ofO' fun v hv => OpOk.ofGives r (load_sim r hs hg hx hv) (by simp [execOp, ho])
  · trivial

theorem store_ok (htr : TR σ ts a.tmps) (r : HR σ h w) {t : TypeId} {x y : Operand} {s : Nat} (ho : o.op = .store t x y) (hs : sizeT P t = some s) : OpOk P σ h w o a (oStore ts h s (opd x) (opd y)) := by
  unfold oStore
  have hx := evA_ok htr x
  split
  · rename_i b o' e
    rw [e] at hx
    split
    · rename_i h' h1 h2
      exact OpOk.ofDoes (store_sim r hs hx (evA_ok htr y) (Nat.eq_of_beq_eq_true h1) h2) (by simp [execOp, ho])
    · trivial
  · trivial

theorem not_any {v : AV} {v' : Value} (hx : VR σ v v') (hn : isAny v = false) : ∀ ds, v' = .agg ds → ∃ cs, v = .agg cs := by
  intro ds hd
  subst hd
  cases hx with
  | agg h1 h2 => exact ⟨_, rfl⟩
  | any => cases hn

theorem box_ok (htr : TR σ ts a.tmps) (r : HR σ h w) {t : TypeId} {x : Operand} (ho : o.op = .box t x) : OpOk P σ h w o a (oBox ts h (opd x)) := by
  unfold oBox
  have hx := evA_ok htr x
  split
  · rename_i e
    exact OpOk.ofMakes (box_sim (e := t) r hx (not_any hx e)) (by simp [execOp, ho])
  · trivial

theorem ofBytes_ok (htr : TR σ ts a.tmps) (r : HR σ h w) {src dst e : TypeId} {x : Operand} (ho : o.op = .convert src dst x) (hs : P.underlying src = some (.slice e)) (he : P.underlying e = some (.int .u8)) (hd : P.underlying dst = some .string) : OpOk P σ h w o a (oOfBytes ts h (opd x)) := by
  unfold oOfBytes
  have hx := evA_ok htr x
  split
  · trivial
  · rename_i hn
    split
    · rename_i cs h1
      split
      · rename_i l h2
        have hns : isStr (evA ts (opd x)) = false := by
          generalize evA ts (opd x) = X at hn
          cases X <;> first | rfl | exact absurd rfl (hn _)
        exact OpOk.ofGives r (ofBytes_sim r hs he hd hx hns h1 h2) (by simp [execOp, ho])
      · trivial
    · trivial

theorem convS_ok (htr : TR σ ts a.tmps) (r : HR σ h w) {src dst : TypeId} {x : Operand} (ho : o.op = .convert src dst x) (hs : P.underlying src = some .string) (hd : P.underlying dst = some .string) : OpOk P σ h w o a (oConvS ts h (opd x)) := by
  unfold oConvS
  have hx := evA_ok htr x
  split
  · rename_i s e
    rw [e] at hx
    refine OpOk.ofGives r (s := convert src dst (a.eval x)) ?_ (by simp [execOp, ho])
    generalize a.eval x = X at hx
    cases hx
    exact ⟨_, by simp [convert, run_underlying hs, run_underlying hd], .str _⟩
  · trivial

theorem mkSl_ok (htr : TR σ ts a.tmps) (r : HR σ h w) {t e : TypeId} {i : TypeInfo} {cs : List AV} {l c : Operand} (ho : o.op = .makeSlice t l c) (ht : P.underlying t = some (.slice e)) (hi : P.info? e = some i) (hc : cellsT P e = some cs) (hl : cs.length = i.size) (hz0 : 0 < i.size) :
    OpOk P σ h w o a (oMkSl ts h i.size i.bytes cs (opd l) (opd c)) := by
  unfold oMkSl
  have h1 := evA_ok htr l
  have h2 := evA_ok htr c
  split
  · rename_i n m e1 e2
    obtain ⟨k, hk⟩ := asNat_ok h1 e1
    obtain ⟨k', hk'⟩ := asNat_ok h2 e2
    split
    · rename_i g1 g2 g3
      have g1 := Nat.eq_of_beq_eq_true g1
      subst g1
      exact OpOk.ofMakes (mkSl_sim (k := k) (k' := k') r ht hi hc hl hz0 (Nat.le_of_ble_eq_true g2) (Nat.le_of_ble_eq_true g3)) (by simp [execOp, ho, hk, hk'])
    · trivial
  · trivial

theorem slArr_ok (htr : TR σ ts a.tmps) (r : HR σ h w) {t e : TypeId} {n z : Nat} {x : Operand} {lo hi mx : Option Operand} (ho : o.op = .slice t x lo hi mx) (ht : P.underlying t = some (.array n e)) (hz : sizeT P e = some z) (hz0 : 0 < z) :
    OpOk P σ h w o a (oSlArr ts h n z (opd x) (lo.map opd) (hi.map opd) (mx.map opd)) := by
  unfold oSlArr
  have hx := evA_ok htr x
  split
  · rename_i b o' l r' e1 e2 e3
    rw [e1] at hx
    have hmx : mx = none := by cases mx <;> simp_all
    subst hmx
    obtain ⟨b1, b2, b3, b4⟩ := boundsA_ok e2
    split
    · rename_i cs hcs
      split
      · rename_i hle
        refine OpOk.ofO' fun v hv => OpOk.ofGives r (slArr_sim ht hz hz0 hx (fun L hL => ?_) (optNat_ok htr b1) (optNat_ok htr b2) b3 b4 hv) (by simp [execOp, ho])
        have hcs' : ∃ own, h.get b = some (.cells own cs) := by
          unfold H.cells at hcs
          split at hcs
          · rename_i own cs' hg; injection hcs with hcs; subst hcs; exact ⟨own, hg⟩
          · cases hcs
        obtain ⟨own, hg⟩ := hcs'
        obtain ⟨arr, t', fr, k1, ⟨k2, k3⟩, k4, k5⟩ := r.blk _ _ L hg hL
        have := Nat.le_of_ble_eq_true hle
        omega
      · trivial
    · trivial
  · trivial

theorem slStr_ok (htr : TR σ ts a.tmps) (r : HR σ h w) {t : TypeId} {x : Operand} {lo hi : Option Operand} (ho : o.op = .slice t x lo hi none) (ht : P.underlying t = some .string) :
    OpOk P σ h w o a (oSlStr ts h (opd x) (lo.map opd) (hi.map opd)) := by
  unfold oSlStr
  have hx := evA_ok htr x
  split
  · rename_i s e1
    rw [e1] at hx
    split
    · rename_i l r' e2
      obtain ⟨b1, b2, b3, b4⟩ := boundsA_ok e2
      have k1 := optNat_ok htr b1
      have k2 := optNat_ok htr b2
      refine OpOk.ofGives r (s := Instr.sliceAt t (a.eval x) (lo.map a.eval) (hi.map a.eval) none) ?_ (by simp [execOp, ho])
      generalize a.eval x = X at hx
      cases hx
      rename_i s'
      rw [str_size] at k2 b4
      exact slStr_sim ht k1 k2 b3 b4
    · trivial
  · trivial

theorem sl_ok (htr : TR σ ts a.tmps) (r : HR σ h w) {t e : TypeId} {z : Nat} {x : Operand} {lo hi mx : Option Operand} (ho : o.op = .slice t x lo hi mx) (ht : P.underlying t = some (.slice e)) (hz : sizeT P e = some z) (hmx : mx.isSome = true → hi.isSome = true) :
    OpOk P σ h w o a (oSl ts h z (opd x) (lo.map opd) (hi.map opd) (mx.map opd)) := by
  unfold oSl
  have hx := evA_ok htr x
  have hex : execOp a.eval o = (do pure (.value (← Instr.sliceAt t (a.eval x) (lo.map a.eval) (hi.map a.eval) (mx.map a.eval)))) := by simp [execOp, ho]
  split
  · rename_i e1
    rw [e1] at hx
    split
    · rename_i p e2
      obtain ⟨l, r'⟩ := p
      obtain ⟨b1, b2, b3, b4⟩ := boundsA_ok e2
      split
      · rename_i e3
        refine OpOk.ofGives r (slNil_sim ht hz hx (optNat_ok htr b1) (optNat_ok htr b2) b3 b4 ?_) hex
        rcases optNat_ok htr e3 with ⟨g1, _⟩ | ⟨k, g1⟩
        · exact .inl g1
        · refine .inr ⟨⟨k, g1⟩, ?_⟩
          have hs : mx.isSome = true := by cases mx <;> simp_all
          have hh := hmx hs
          rcases optNat_ok htr b2 with ⟨g2, _⟩ | g2
          · cases hi <;> simp_all
          · exact g2
      · trivial
    · trivial
  · rename_i b o' n cap z' e1
    rw [e1] at hx
    split
    · rename_i l r' e0 e2
      have e0 := Nat.eq_of_beq_eq_true e0
      subst e0
      obtain ⟨b1, b2, b3, b4⟩ := boundsA_ok e2
      split
      · rename_i e3
        have hm : mx = none := by cases mx <;> simp_all
        subst hm
        exact OpOk.ofO' fun v hv => OpOk.ofGives r (sl_sim ht hz hx (optNat_ok htr b1) (optNat_ok htr b2) b3 b4 hv) hex
      · rename_i m e3
        split
        · rename_i m' e4
          cases mx with
          | none => cases e3
          | some m0 =>
            simp only [Option.map_some, Option.some.injEq] at e3
            subst e3
            obtain ⟨k, hk⟩ := asNat_ok (evA_ok htr m0) e4
            refine OpOk.ofO' fun v hv => OpOk.ofGives r (s := Instr.sliceAt t (a.eval x) (lo.map a.eval) (hi.map a.eval) (some (a.eval m0))) ?_ hex
            rw [hk]
            have hh := hmx rfl
            refine sl_sim3 ht hz hx (optNat_ok htr b1) ?_ b3 b4 hv
            rcases optNat_ok htr b2 with ⟨g2, _⟩ | g2
            · cases hi <;> simp_all
            · exact g2
        · trivial
    · trivial
  · trivial

theorem fieldA_ok (htr : TR σ ts a.tmps) (r : HR σ h w) {t : TypeId} {fs : Array Field} {f : Nat} {fd : Field} {s : Nat} {x : Operand} (ho : o.op = .fieldAddr t x f) (ht : P.underlying t = some (.struct fs)) (hf : fs[f]? = some fd) (hs : sizeT P fd.type = some (s + 1)) :
    OpOk P σ h w o a (oFieldA ts h fd.offset (opd x)) := by
  unfold oFieldA
  have hx := evA_ok htr x
  split
  · rename_i b o' e
    rw [e] at hx
    exact OpOk.ofGives r (fieldA_sim ht hf hs hx) (by simp [execOp, ho])
  · trivial

theorem field_ok (htr : TR σ ts a.tmps) (r : HR σ h w) {t : TypeId} {fs : Array Field} {f : Nat} {fd : Field} {s : Nat} {g : Bool} {x : Operand} (ho : o.op = .field t x f) (ht : P.underlying t = some (.struct fs)) (hf : fs[f]? = some fd) (hs : sizeT P fd.type = some s) (hg : isAggT P fd.type = some g) :
    OpOk P σ h w o a (oField ts h fd.offset s g (opd x)) := by
  unfold oField
  have hx := evA_ok htr x
  split
  · rename_i cs e
    rw [e] at hx
    exact OpOk.ofO' fun v hv => OpOk.ofGives r (field_sim ht hf hs hg hx hv) (by simp [execOp, ho])
  · trivial

theorem idxArr_ok (htr : TR σ ts a.tmps) (r : HR σ h w) {t e : TypeId} {n z : Nat} {x i : Operand} (ho : o.op = .indexAddr t x i) (ht : P.underlying t = some (.array n e)) (hz : sizeT P e = some z) : OpOk P σ h w o a (oIdxArr ts h n z (opd x) (opd i)) := by
  unfold oIdxArr
  have hx := evA_ok htr x
  have hi := evA_ok htr i
  split
  · rename_i b o' j e1 e2
    rw [e1] at hx
    obtain ⟨k, hk⟩ := asNat_ok hi e2
    split
    · rename_i hlt
      exact OpOk.ofGives r (idxArr_sim (k := k) ht hz hx (by simpa [Nat.blt_eq] using hlt)) (by simp [execOp, ho, hk])
    · trivial
  · trivial

theorem idxSl_ok (htr : TR σ ts a.tmps) (r : HR σ h w) {t e : TypeId} {z : Nat} {x i : Operand} (ho : o.op = .indexAddr t x i) (ht : P.underlying t = some (.slice e)) (hz : sizeT P e = some z) : OpOk P σ h w o a (oIdxSl ts h z (opd x) (opd i)) := by
  unfold oIdxSl
  have hx := evA_ok htr x
  have hi := evA_ok htr i
  split
  · rename_i b o' n c z' j e1 e2
    rw [e1] at hx
    obtain ⟨k, hk⟩ := asNat_ok hi e2
    split
    · rename_i hlt hzz
      have hzz := Nat.eq_of_beq_eq_true hzz
      subst hzz
      exact OpOk.ofGives r (idxSl_sim (k := k) ht hz hx (by simpa [Nat.blt_eq] using hlt)) (by simp [execOp, ho, hk])
    · trivial
  · trivial

theorem ixAgg_ok (htr : TR σ ts a.tmps) (r : HR σ h w) {t e : TypeId} {n z : Nat} {g : Bool} {x i : Operand} (ho : o.op = .index t x i) (ht : P.underlying t = some (.array n e)) (hz : sizeT P e = some z) (hg : isAggT P e = some g) : OpOk P σ h w o a (oIxAgg ts h n z z g (opd x) (opd i)) := by
  unfold oIxAgg
  have hx := evA_ok htr x
  have hi := evA_ok htr i
  split
  · rename_i cs j e1 e2
    rw [e1] at hx
    obtain ⟨k, hk⟩ := asNat_ok hi e2
    split
    · rename_i hlt
      exact OpOk.ofO' fun v hv => OpOk.ofGives r (ixAgg_sim (k := k) ht hz hg hx (by simpa [Nat.blt_eq] using hlt) hv) (by simp [execOp, ho, hk])
    · trivial
  · trivial

theorem ixStr_ok (htr : TR σ ts a.tmps) (r : HR σ h w) {t : TypeId} {x i : Operand} (ho : o.op = .index t x i) (ht : P.underlying t = some .string) : OpOk P σ h w o a (oIxStr ts h (opd x) (opd i)) := by
  unfold oIxStr
  have hx := evA_ok htr x
  have hi := evA_ok htr i
  split
  · rename_i s j e1 e2
    rw [e1] at hx
    obtain ⟨k, hk⟩ := asNat_ok hi e2
    split
    · rename_i c hc
      refine OpOk.ofGives r (s := Instr.index t (a.eval x) (a.eval i)) ?_ (by simp [execOp, ho])
      rw [hk]
      generalize a.eval x = X at hx
      cases hx
      exact ixStr_sim (k := k) ht hc
    · trivial
  · trivial

theorem ext_ok (htr : TR σ ts a.tmps) (r : HR σ h w) {i : Nat} {x : Operand} (ho : o.op = .extract x i) : OpOk P σ h w o a (oExt ts h i (opd x)) := by
  unfold oExt
  have hx := evA_ok htr x
  split
  · rename_i vs e
    rw [e] at hx
    exact OpOk.ofO' fun v hv => OpOk.ofGives r (ext_sim hx hv) (by simp [execOp, ho])
  · trivial

theorem tass_ok (htr : TR σ ts a.tmps) (r : HR σ h w) {xt t : TypeId} {z : AV} {ok : Bool} {x : Operand} {d : TypeDesc} (ho : o.op = .typeAssert x xt t ok) (ht : P.underlying t = some d) (hd : ∀ ms, d ≠ .interface ms) (hz : zeroT P t = some z) : OpOk P σ h w o a (oTass ts h t z ok (opd x)) := by
  unfold oTass
  have hx := evA_ok htr x
  obtain ⟨zv, hzv, hzz⟩ := run_zero (w := w) hz
  have hzr : VR σ z zv := by rw [hzz]; exact VR.ofV σ zv
  have hex : execOp a.eval o = (do pure (.value (← Instr.typeAssert (a.eval x) xt t ok))) := by simp [execOp, ho]
  split
  · rename_i e
    rw [e] at hx
    split
    · refine OpOk.ofGives r (s := Instr.typeAssert (a.eval x) xt t true) ?_ hex
      generalize a.eval x = X at hx
      cases hx
      refine ⟨.tuple #[zv, .bool false], ?_, VR.mk_tup (.cons hzr (.one (.bool _)))⟩
      rw [tass_run ht hd]
      simp [hzv]
    · trivial
  · rename_i t' v e
    rw [e] at hx
    have hg : ∀ u, (match Nat.beq t' t, ok with
        | true, true => some (AV.tup [v, .bool true])
        | true, false => some v
        | false, true => some (.tup [z, .bool false])
        | false, false => none) = some u → Gives P σ w (Instr.typeAssert (a.eval x) xt t ok) u := by
      intro u hu
      generalize a.eval x = X at hx
      cases hx with
      | @ifc _ _ v' hv =>
      unfold Gives
      rw [tass_run ht hd]
      split at hu
      · rename_i g1
        have g1 := Nat.eq_of_beq_eq_true g1
        subst g1
        injection hu with hu; subst hu
        exact ⟨.tuple #[v', .bool true], by simp, VR.mk_tup (.cons hv (.one (.bool _)))⟩
      · rename_i g1
        have g1 := Nat.eq_of_beq_eq_true g1
        subst g1
        injection hu with hu; subst hu
        exact ⟨v', by simp, hv⟩
      · rename_i g1
        have g1 : t' ≠ t := by rintro rfl; simp [Nat.beq_refl] at g1
        injection hu with hu; subst hu
        exact ⟨.tuple #[zv, .bool false], by simp [g1, hzv], VR.mk_tup (.cons hzr (.one (.bool _)))⟩
      · cases hu
    split
    · rename_i g1; exact OpOk.ofGives r (hg _ (by rw [g1])) hex
    · rename_i g1; exact OpOk.ofGives r (hg _ (by rw [g1])) hex
    · rename_i g1; exact OpOk.ofGives r (hg _ (by rw [g1])) hex
    · trivial
  · trivial

theorem panic_ok (htr : TR σ ts a.tmps) {x : Operand} (ho : o.op = .panic x) : OpOk P σ h w o a (oPanic ts h (opd x)) := by
  unfold oPanic
  have hx := evA_ok htr x
  split
  · rename_i t v e
    rw [e] at hx
    refine ⟨rfl, a.eval x, ?_, hx⟩
    generalize hX : a.eval x = X at hx
    cases hx
    simp [execOp, ho, hX, Instr.panic, goPanic]
  · trivial

theorem mkIfc_ok (htr : TR σ ts a.tmps) (r : HR σ h w) {t : TypeId} {x : Operand} {d : TypeDesc} (ho : o.op = .makeInterface t x) (ht : P.underlying t = some d) (hd : ∀ ms, d ≠ .interface ms) : OpOk P σ h w o a (.val (.ifc t (evA ts (opd x))) h) := by
  refine OpOk.ofGives r (s := Instr.makeInterface t (a.eval x)) ⟨.iface t (a.eval x), ?_, .ifc (evA_ok htr x)⟩ (by simp [execOp, ho])
  simp only [Instr.makeInterface, Sem.run_bind, run_underlying ht, Result.andThen_ok]
  cases d <;> first | rfl | exact absurd rfl (hd _)

theorem mkFn_ok (htr : TR σ ts a.tmps) (r : HR σ h w) {f : FuncId} {fst cap : Array Operand} (ho : o.op = .makeFunc (.func f) fst cap) : OpOk P σ h w o a (.val (.fn f ((fst.toList.map opd).map (evA ts)) ((cap.toList.map opd).map (evA ts))) h) := by
  have h1 := evL_ok htr fst.toList
  have h2 := evL_ok htr cap.toList
  refine OpOk.ofGives r (s := Instr.makeFunc (.func f) (fst.map a.eval) (cap.map a.eval)) ⟨.func (.func f) (fst.map a.eval) (cap.map a.eval), rfl, ?_⟩ (by simp [execOp, ho])
  rw [args_map a fst, args_map a cap]
  exact .fn (by simp) (fun i v v' x y => h1.2 i v v' x (by simpa using y)) (by simp) (fun i v v' x y => h2.2 i v v' x (by simpa using y))

theorem build_ok (htr : TR σ ts a.tmps) (r : HR σ h w) {t : TypeId} {parts : Array (Nat × Operand)} {co : CO} (ho : o.op = .build t parts) (hc : comp1 P (.build t parts) = some co) : OpOk P σ h w o a (opA ts h co) := by
  have hex : execOp a.eval o = (do pure (.value (← Instr.build t (parts.toList.map fun p => (p.1, a.eval p.2)).toArray))) := by rw [← parts_map]; simp [execOp, ho]
  simp only [comp1] at hc
  split at hc
  · rename_i fs z ht hz
    split at hc
    · rename_i hfs
      cases hp : partsS P fs parts.toList with
      | none => simp [hp] at hc
      | some rp =>
        simp only [hp, Option.map_some, Option.some.injEq] at hc
        subst hc
        show OpOk P σ h w o a (oBuild ts h z rp)
        unfold oBuild
        split
        · rename_i cs hcs
          refine OpOk.ofGives r (buildS_sim htr ht (fun f hf => ?_) hz hp hcs) hex
          have := List.all_eq_true.1 hfs f hf
          exact Option.isSome_iff_exists.1 this
        · trivial
    · cases hc
  · rename_i n e z ht hz
    cases hs : sizeT P e with
    | none => simp [hs] at hc
    | some s =>
      simp only [hs, Option.map_some, Option.some.injEq] at hc
      subst hc
      show OpOk P σ h w o a (oBuild ts h z (partsA s parts.toList))
      unfold oBuild
      split
      · rename_i cs hcs
        exact OpOk.ofGives r (buildA_sim htr ht hs hz hcs) hex
      · trivial
  · cases hc

theorem bslice_ok (htr : TR σ ts a.tmps) (r : HR σ h w) {t : TypeId} {n : Nat} {parts : Array (Nat × Operand)} {co : CO} (ho : o.op = .buildSlice t n parts) (hc : comp1 P (.buildSlice t n parts) = some co) : OpOk P σ h w o a (opA ts h co) := by
  have hex : execOp a.eval o = (do pure (.value (← Instr.buildSlice t n (parts.toList.map fun p => (p.1, a.eval p.2)).toArray))) := by rw [← parts_map]; simp [execOp, ho]
  simp only [comp1] at hc
  split at hc
  · rename_i e ht
    split at hc
    · rename_i z cs hz hcs
      split at hc
      · rename_i hl
        injection hc with hc; subst hc
        show OpOk P σ h w o a (oBslice ts h n (z + 1) (repA n cs) (partsA (z + 1) parts.toList))
        unfold oBslice
        split
        · rename_i out ho'
          exact OpOk.ofMakes (bslice_sim r htr ht hz (by omega) hcs hl.1 hl.2 ho') hex
        · trivial
      · cases hc
    · cases hc
  · cases hc

theorem op_ok (htr : TR σ ts a.tmps) (r : HR σ h w) {co : CO} (hc : comp1 P o.op = some co) : OpOk P σ h w o a (opA ts h co) := by
  cases ho : o.op <;> rw [ho] at hc
  case move x => injection hc with hc; subst hc; exact OpOk.ofGives r (s := pure (a.eval x)) (.pure (evA_ok htr x)) (by simp [execOp, ho])
  case assign x => injection hc with hc; subst hc; exact OpOk.ofGives r (s := pure (a.eval x)) (.pure (evA_ok htr x)) (by simp [execOp, ho])
  case pick c x y => injection hc with hc; subst hc; exact pick_ok htr r ho
  case alloc e =>
    simp only [comp1] at hc
    cases hz : cellsT P e with
    | none => simp [hz] at hc
    | some z => simp only [hz, Option.map_some, Option.some.injEq] at hc; subst hc; exact OpOk.ofMakes (alloc_sim r hz) (by simp [execOp, ho])
  case box e x => injection hc with hc; subst hc; exact box_ok htr r ho
  case build t parts => exact build_ok htr r ho hc
  case buildSlice t n parts => exact bslice_ok htr r ho hc
  case load t x =>
    simp only [comp1] at hc
    split at hc
    · rename_i s g h1 h2; injection hc with hc; subst hc; exact load_ok htr r ho h1 h2
    · cases hc
  case store t x y =>
    simp only [comp1] at hc
    cases hz : sizeT P t with
    | none => simp [hz] at hc
    | some z => simp only [hz, Option.map_some, Option.some.injEq] at hc; subst hc; exact store_ok htr r ho hz
  case nilCheck x => injection hc with hc; subst hc; exact nilc_ok htr r ho
  case binOp op t x y k =>
    simp only [comp1] at hc
    cases hz : eqC P op t x y with
    | none => simp [hz] at hc
    | some z => simp only [hz, Option.map_some, Option.some.injEq] at hc; subst hc; exact OpOk.ofO' fun v hv => OpOk.ofGives r (bin_sim htr r hz hv) (by simp [execOp, ho])
  case unOp op t x => injection hc with hc; subst hc; exact un_ok htr r ho
  case convert s d x =>
    simp only [comp1] at hc
    split at hc
    · rename_i k h1 h2; injection hc with hc; subst hc; exact conv_ok htr r ho h1 h2
    · rename_i h1 h2; injection hc with hc; subst hc; exact convS_ok htr r ho h1 h2
    · rename_i e h1 h2
      split at hc
      · rename_i h3; injection hc with hc; subst hc; exact ofBytes_ok htr r ho h1 h3 h2
      · cases hc
    · cases hc
  case makeInterface t x =>
    simp only [comp1] at hc
    split at hc
    · cases hc
    · rename_i d hn h1; injection hc with hc; subst hc; exact mkIfc_ok htr r ho h1 (fun ms e => hn ms e)
    · cases hc
  case makeFunc f fst cap =>
    cases f with
    | func f => injection hc with hc; subst hc; exact mkFn_ok htr r ho
    | _ => cases hc
  case makeMap t n =>
    cases n with
    | none => injection hc with hc; subst hc; exact OpOk.ofMakes (mkMap_sim (t := t) r) (by simp [execOp, ho])
    | some n => cases hc
  case makeSlice t l c =>
    simp only [comp1] at hc
    split at hc
    · rename_i e ht
      split at hc
      · rename_i i cs hi hcs
        split at hc
        · rename_i z hz
          split at hc
          · rename_i hl
            injection hc with hc; subst hc
            have := mkSl_ok (o := o) (w := w) htr r (l := l) (c := c) ho ht hi hcs (by omega) (by omega)
            rw [hz] at this
            exact this
          · cases hc
        · cases hc
      · cases hc
    · cases hc
  case slice t x lo hi mx =>
    simp only [comp1] at hc
    split at hc
    · rename_i n e ht
      split at hc
      · rename_i z hz; injection hc with hc; subst hc; exact slArr_ok htr r ho ht hz (by omega)
      · cases hc
    · rename_i ht
      split at hc
      · injection hc with hc; subst hc; exact slStr_ok htr r ho ht
      · cases hc
    · rename_i e ht
      split at hc
      · rename_i z hz hb
        injection hc with hc; subst hc
        refine sl_ok htr r ho ht hz (fun hm => ?_)
        cases hi <;> cases mx <;> simp_all [mxOk]
      · cases hc
    · cases hc
  case fieldAddr t x f =>
    simp only [comp1] at hc
    split at hc
    · rename_i fs ht
      split at hc
      · rename_i fd hf
        split at hc
        · rename_i z hz; injection hc with hc; subst hc; exact fieldA_ok htr r ho ht hf hz
        · cases hc
      · cases hc
    · cases hc
  case field t x f =>
    simp only [comp1] at hc
    split at hc
    · rename_i fs ht
      split at hc
      · rename_i fd hf
        split at hc
        · rename_i s g hz hg; injection hc with hc; subst hc; exact field_ok htr r ho ht hf hz hg
        · cases hc
      · cases hc
    · cases hc
  case indexAddr t x i =>
    simp only [comp1] at hc
    split at hc
    · rename_i n e ht
      cases hz : sizeT P e with
      | none => simp [hz] at hc
      | some z => simp only [hz, Option.map_some, Option.some.injEq] at hc; subst hc; exact idxArr_ok htr r ho ht hz
    · rename_i e ht
      split at hc
      · rename_i z hz; injection hc with hc; subst hc; exact idxSl_ok htr r ho ht hz
      · cases hc
    · cases hc
  case index t x i =>
    simp only [comp1] at hc
    split at hc
    · rename_i n e ht
      split at hc
      · rename_i s g hz hg; injection hc with hc; subst hc; exact ixAgg_ok htr r ho ht hz hg
      · cases hc
    · rename_i ht; injection hc with hc; subst hc; exact ixStr_ok htr r ho ht
    · cases hc
  case lookup t x k ok =>
    simp only [comp1] at hc
    split at hc
    · rename_i kt e ht
      split at hc
      · rename_i q z hq hz
        injection hc with hc; subst hc
        exact OpOk.ofO' fun v hv => OpOk.ofGives r (look_sim r ht hq hz (evA_ok htr x) (evA_ok htr k) hv) (by simp [execOp, ho])
      · cases hc
    · cases hc
  case mapUpdate t m k x =>
    simp only [comp1] at hc
    split at hc
    · rename_i kt e ht
      cases hq : keyT P kt with
      | none => simp [hq] at hc
      | some q =>
        simp only [hq, Option.map_some, Option.some.injEq] at hc
        subst hc
        show OpOk P σ h w o a (ofH (updateA q h (evA ts (opd m)) (evA ts (opd k)) (evA ts (opd x))))
        cases hu : updateA q h (evA ts (opd m)) (evA ts (opd k)) (evA ts (opd x)) with
        | none => trivial
        | some h' => exact OpOk.ofDoes (upd_sim r ht hq (evA_ok htr m) (evA_ok htr k) (evA_ok htr x) hu) (by simp [execOp, ho])
    · cases hc
  case insert t m k x =>
    simp only [comp1] at hc
    split at hc
    · rename_i kt e ht
      cases hq : keyT P kt with
      | none => simp [hq] at hc
      | some q =>
        simp only [hq, Option.map_some, Option.some.injEq] at hc
        subst hc
        show OpOk P σ h w o a (ofH (updateA q h (evA ts (opd m)) (evA ts (opd k)) (evA ts (opd x))))
        cases hu : updateA q h (evA ts (opd m)) (evA ts (opd k)) (evA ts (opd x)) with
        | none => trivial
        | some h' => exact OpOk.ofDoes (upd_sim r ht hq (evA_ok htr m) (evA_ok htr k) (evA_ok htr x) hu) (by simp [execOp, ho])
    · cases hc
  case extract x i => injection hc with hc; subst hc; exact ext_ok htr r ho
  case typeAssert x xt t ok =>
    simp only [comp1] at hc
    split at hc
    · cases hc
    · rename_i d hn h1
      cases hz : zeroT P t with
      | none => simp [hz] at hc
      | some z => simp only [hz, Option.map_some, Option.some.injEq] at hc; subst hc; exact tass_ok htr r ho h1 (fun ms e => hn ms e) hz
    · cases hc
  case call c => exact compCall_ok htr r ho hc
  case defer c =>
    simp only [comp1] at hc
    split at hc
    · rename_i f hf; injection hc with hc; subst hc; exact defer_ok htr ho hf
    · cases hc
  case panic x => injection hc with hc; subst hc; exact panic_ok htr ho
  all_goals cases hc
end
end Go.Ab
