/- Addresses, fields, indexes, parts, comparisons of structs, pointers, interfaces. -/
import Derived.Test.YtgkchcbnbbgdpaaGreatDoorAbOps3
import Derived.Laws.Build
import Derived.Laws.StructEq
import Derived.Laws.Cover3
import Derived.WalkSpells
namespace Go.Ab
theorem ba_beq (s t : ByteArray) : (s == t) = (s.toList == t.toList) := by
  rw [ByteArray.toList_eq, ByteArray.toList_eq, Bool.eq_iff_iff, show (s == t) = (s.data == t.data) from rfl]
  simp

section
variable {P : Program} {σ : Ren} {h : H} {w : World}

theorem fieldA_sim {t : TypeId} {fs : Array Field} {f : Nat} {fd : Field} {s : Nat} (ht : P.underlying t = some (.struct fs)) (hf : fs[f]? = some fd) (hs : sizeT P fd.type = some (s + 1)) {b o : Nat} {x : Value} (hx : VR σ (.ptr b o) x) :
    Gives P σ w (Instr.fieldAt t x f) (.ptr b (o + fd.offset)) := by
  cases hx with
  | ptr hL =>
    rename_i L
    refine ⟨.pointer (some ⟨L.blk, L.base + (o + fd.offset), none⟩), ?_, .ptr hL⟩
    simp only [Instr.fieldAt, Sem.run_bind, run_underlying ht, Result.andThen_ok, hf, Instr.sureAddr, Sem.run_pure, fieldPlace, run_sizeOf hs]
    simp [Addr.add_lit, Nat.add_assoc]

theorem field_sim {t : TypeId} {fs : Array Field} {f : Nat} {fd : Field} {s : Nat} {g : Bool} (ht : P.underlying t = some (.struct fs)) (hf : fs[f]? = some fd) (hs : sizeT P fd.type = some s) (hg : isAggT P fd.type = some g)
    {cs : List AV} {x : Value} (hx : VR σ (.agg cs) x) {v : AV} (hv : partA cs fd.offset s g = some v) : Gives P σ w (Instr.field t x f) v := by
  obtain ⟨ds, rfl, hl⟩ := hx.of_agg
  obtain ⟨v', h1, h2⟩ := part_sim (P := P) (σ := σ) (w := w) hs hg hl hv
  exact ⟨v', by simp only [Instr.field, Sem.run_bind, run_underlying ht, Result.andThen_ok, hf, asAgg, Sem.run_pure, h1], h2⟩

theorem idxArr_sim {t e : TypeId} {n z : Nat} (ht : P.underlying t = some (.array n e)) (hz : sizeT P e = some z) {b o i : Nat} {k : IntKind} {x : Value} (hx : VR σ (.ptr b o) x) (hi : i < n) :
    Gives P σ w (Instr.indexAt t x (.int k (i : Int))) (.ptr b (o + i * z)) := by
  cases hx with
  | ptr hL =>
    rename_i L
    refine ⟨.pointer (some ⟨L.blk, L.base + (o + i * z), none⟩), ?_, .ptr hL⟩
    have h0 : (0 : Int) ≤ (i : Int) ∧ (i : Int) < (n : Int) := ⟨by omega, by omega⟩
    simp only [Instr.indexAt, asIntOf, Sem.run_bind, Sem.run_pure, Result.andThen_ok, run_underlying ht, Instr.sureAddr, if_pos h0, run_sizeOf hz]
    simp [Addr.add_lit, Nat.add_assoc, run_sizeOf hz, h0]

theorem idxSl_sim {t e : TypeId} {z : Nat} (ht : P.underlying t = some (.slice e)) (hz : sizeT P e = some z) {b o n i : Nat} {cap : Option Nat} {k : IntKind} {x : Value} (hx : VR σ (.sl b o n cap z) x) (hi : i < n) :
    Gives P σ w (Instr.indexAt t x (.int k (i : Int))) (.ptr b (o + i * z)) := by
  cases hx with
  | sl hL hl hc hz0 hs ho =>
    rename_i off c L
    have hoff : off = L.base + o := by rcases ho with h | h <;> omega
    refine ⟨.pointer (some ⟨L.blk, L.base + (o + i * z), none⟩), ?_, .ptr hL⟩
    have h0 : (0 : Int) ≤ (i : Int) ∧ (i : Int) < (n : Int) := ⟨by omega, by omega⟩
    simp only [Instr.indexAt, asIntOf, Sem.run_bind, Sem.run_pure, Result.andThen_ok, run_underlying ht, if_pos h0, run_sizeOf hz]
    simp [Addr.add_lit, Nat.add_assoc, run_sizeOf hz, h0, hoff]

theorem ixAgg_sim {t e : TypeId} {n z : Nat} {g : Bool} (ht : P.underlying t = some (.array n e)) (hz : sizeT P e = some z) (hg : isAggT P e = some g) {cs : List AV} {i : Nat} {k : IntKind} {x : Value} (hx : VR σ (.agg cs) x) (hi : i < n)
    {v : AV} (hv : partA cs (i * z) z g = some v) : Gives P σ w (Instr.index t x (.int k (i : Int))) v := by
  obtain ⟨ds, rfl, hl⟩ := hx.of_agg
  obtain ⟨v', h1, h2⟩ := part_sim (P := P) (σ := σ) (w := w) hz hg hl hv
  have h0 : (0 : Int) ≤ (i : Int) ∧ (i : Int) < (n : Int) := ⟨by omega, by omega⟩
  refine ⟨v', ?_, h2⟩
  simp only [Instr.index, asIntOf, Sem.run_bind, Sem.run_pure, Result.andThen_ok, run_underlying ht, if_pos h0, run_sizeOf hz, Int.toNat_natCast, h1]

theorem ixStr_sim {t : TypeId} (ht : P.underlying t = some .string) {s : ByteArray} {i c : Nat} {k : IntKind} (hc : (s.data.toList.map (·.toNat))[i]? = some c) :
    Gives P σ w (Instr.index t (.string s) (.int k (i : Int))) (.int .u8 (Int.ofNat c)) := by
  simp only [List.getElem?_map, Option.map_eq_some_iff] at hc
  obtain ⟨b, hb, rfl⟩ := hc
  have hb' : s[i]? = some b := by
    have hi : i < s.data.toList.length := (List.getElem?_eq_some_iff.1 hb).1
    have hi' : i < s.size := by simpa using hi
    rw [getElem?_pos s i hi']
    have := (List.getElem?_eq_some_iff.1 hb).2
    rw [← this]
    rfl
  refine ⟨.int .u8 (Int.ofNat b.toNat), ?_, .int _ _⟩
  simp only [Instr.index, asIntOf, Sem.run_bind, Sem.run_pure, Result.andThen_ok, run_underlying ht, Int.toNat_natCast, hb']
  simp

theorem ext_sim {vs : List AV} {x : Value} (hx : VR σ (.tup vs) x) {i : Nat} {v : AV} (hv : vs[i]? = some v) : Gives P σ w (Instr.extract x i) v := by
  cases hx with
  | tup h1 h2 =>
    rename_i ds
    have hi : i < ds.size := by rw [← h1]; exact (List.getElem?_eq_some_iff.1 hv).1
    refine ⟨ds[i], ?_, h2 i v _ hv (by simp [hi])⟩
    simp [Instr.extract, hi]

theorem tass_run {a : TypeId} {d : TypeDesc} (ha : P.underlying a = some d) (hd : ∀ ms, d ≠ .interface ms) {xt : TypeId} {x : Value} {ok : Bool} :
    (Instr.typeAssert x xt a ok).run P w = match x with
      | .nilIface => if ok then ((zeroValue a).run P w).andThen (fun z w => .ok (.tuple #[z, .bool false]) w) else (runtimePanic (.typeAssertion (some xt) none a "")).run P w
      | .iface t v => if t = a then .ok (if ok then .tuple #[v, .bool true] else v) w else if ok then ((zeroValue a).run P w).andThen (fun z w => .ok (.tuple #[z, .bool false]) w) else (runtimePanic (.typeAssertion (some xt) (some t) a "")).run P w
      | _ => .halt (.stuck "TypeAssert: interface value expected") w := by
  simp only [Instr.typeAssert, Sem.run_bind, run_underlying ha, Result.andThen_ok]
  cases x <;> cases d <;> first
    | (exact absurd rfl (hd _))
    | (cases ok <;> simp <;> rfl)
    | (cases ok <;> simp <;> split <;> simp)

theorem eqK_sim {v u : AV} {x y : Value} {q : EqK} {t : TypeId} {n : Nat} (ht : kindK P t = some q) (hx : VR σ v x) (hy : VR σ u y) {b : Bool} (hv : eqK q v u = some b) :
    (Op.equalIn (n + 1) t x y).run P w = .ok b w := by
  have hd : ∃ d, P.underlying t = some d ∧ ((q = .int ∧ ∃ k, d = .int k) ∨ (q = .bool ∧ d = .bool) ∨ (q = .str ∧ d = .string)) := by
    unfold kindK at ht
    split at ht <;> first | (cases ht; done) | (rename_i e; injection ht with ht; subst ht; exact ⟨_, e, by simp⟩)
  obtain ⟨d, hd, hq⟩ := hd
  cases hx <;> cases hy <;> rcases hq with ⟨rfl, k, rfl⟩ | ⟨rfl, rfl⟩ | ⟨rfl, rfl⟩ <;> simp only [eqK] at hv <;> try (cases hv; done)
  · injection hv with hv; subst hv
    simp only [Op.equalIn, Sem.run_bind, run_underlying hd, Result.andThen_ok]; rfl
  · split at hv
    · rename_i hk
      have hk := kindEq_iff hk
      subst hk
      injection hv with hv; subst hv
      simp only [Op.equalIn, Sem.run_bind, run_underlying hd, Result.andThen_ok]; simp; rfl
    · cases hv
  · injection hv with hv; subst hv
    simp only [Op.equalIn, Sem.run_bind, run_underlying hd, Result.andThen_ok]
    rw [str_eq]
    simp only [Sem.run_pure]
    rw [ba_beq]

theorem kindK_under {t : TypeId} {q : EqK} (ht : kindK P t = some q) : isAggT P t = some false := by
  unfold kindK at ht
  unfold isAggT
  split at ht <;> first | (cases ht; done) | (rename_i e; rw [e])

theorem eqFields_sim : ∀ (fl : List Field) (i : Nat) (ks : List EqK) (xs ys : Array Value) (as bs : List AV) (b : Bool) (n : Nat), kindsF P fl i = some ks → LR σ as (xs.toList.drop i) → LR σ bs (ys.toList.drop i) →
    eqL ks as bs = some b → (Op.eqFields (n + 1) xs ys fl).run P w = .ok b w := by
  intro fl
  induction fl with
  | nil =>
    intro i ks xs ys as bs b n hk ha hb he
    simp only [kindsF, Option.some.injEq] at hk
    subst hk
    cases as <;> cases bs <;> simp only [eqL] at he <;> try (cases he; done)
    injection he with he; subst he
    simp [Op.eqFields]
  | cons f fl ih =>
    intro i ks xs ys as bs b n hk ha hb he
    simp only [kindsF] at hk
    split at hk
    · rename_i k l h1 h2 h3
      injection hk with hk; subst hk
      simp only [Bool.and_eq_true, bne_iff_ne, beq_iff_eq] at h1
      obtain ⟨⟨hname, hoff⟩, hsize⟩ := h1
      cases as with
      | nil => cases bs <;> simp [eqL] at he
      | cons a as =>
        cases bs with
        | nil => simp [eqL] at he
        | cons c bs =>
          simp only [eqL] at he
          split at he
          · rename_i x y hx hy
            injection he with he; subst he
            obtain ⟨a', r, e1, ha1, ha2⟩ := ha.cons_inv
            obtain ⟨c', r', e2, hc1, hc2⟩ := hb.cons_inv
            have hd1 : xs[i]? = some a' := by
              have := congrArg (·[0]?) e1
              simpa [List.getElem?_drop] using this
            have hd2 : ys[i]? = some c' := by
              have := congrArg (·[0]?) e2
              simpa [List.getElem?_drop] using this
            have hr1 : xs.toList.drop (i + 1) = r := by rw [← List.drop_drop, e1]; rfl
            have hr2 : ys.toList.drop (i + 1) = r' := by rw [← List.drop_drop, e2]; rfl
            have hag := kindK_under h2
            have hp1 : (part f.type xs f.offset).run P w = .ok a' w := by simp [part, run_isAgg hag, hoff, hd1]
            have hp2 : (part f.type ys f.offset).run P w = .ok c' w := by simp [part, run_isAgg hag, hoff, hd2]
            have heq := eqK_sim (P := P) (w := w) (n := n) h2 ha1 hc1 hx
            have hih := ih (i + 1) l xs ys as bs y n h3 (by rw [hr1]; exact ha2) (by rw [hr2]; exact hc2) hy
            simp only [Op.eqFields, if_pos hname, Sem.run_bind, hp1, hp2, heq, Result.andThen_ok]
            cases x with
            | false => simp
            | true => simp [hih]
          · cases he
    · cases hk

theorem isEq_iff {op : BinOp} {t : Bool} (h : isEq op = some t) : (op = .eql ∧ t = true) ∨ (op = .neq ∧ t = false) := by
  cases op <;> simp [isEq] at h <;> subst h <;> simp

theorem beq_tt (b : Bool) : (b == true) = b := by cases b <;> rfl
theorem beq_ff (b : Bool) : (b == false) = !b := by cases b <;> rfl

theorem struct_sim {op : BinOp} {t : TypeId} {x y : Operand} {fs : Array Field} {ks : List EqK} (ht : P.underlying t = some (.struct fs)) (hst : P.stoodInHeld t = false) (hg : P.eqGuardType P.depth t = false) (hk : kindsF P fs.toList 0 = some ks)
    {as bs : List AV} {u v : Value} (hu : VR σ (.agg as) u) (hv : VR σ (.agg bs) v) {b t' : Bool} (he : eqL ks as bs = some b) (ho : isEq op = some t') :
    Gives P σ w (do eqGuard op t x y u v; binOp op t u v) (.bool (b == t')) := by
  obtain ⟨xs, rfl, hx⟩ := hu.of_agg
  obtain ⟨ys, rfl, hy⟩ := hv.of_agg
  have hf : P.fieldsOf t = fs := by simp [Program.fieldsOf, ht]
  have hrun := eqFields_sim (P := P) (σ := σ) (w := w) fs.toList 0 ks xs ys as bs b 9998 hk (by simpa using hx) (by simpa using hy) he
  have hq := run_equalIn_struct (P := P) w 9999 t xs ys (by rw [hf]; exact ht) hst
  rw [hf, hrun] at hq
  rcases isEq_iff ho with ⟨rfl, rfl⟩ | ⟨rfl, rfl⟩
  · refine ⟨.bool b, ?_, by rw [beq_tt]; exact .bool b⟩
    simp only [Sem.run_bind, run_eqGuard_agg w _ t x y xs ys hg, Result.andThen_ok, run_eql_struct, hq]
  · refine ⟨.bool (!b), ?_, by rw [beq_ff]; exact .bool _⟩
    simp only [Sem.run_bind, run_eqGuard_agg w _ t x y xs ys hg, Result.andThen_ok, run_neq_struct, hq]

/-- Two values of a kind whose '==' the world decides without a change. -/
theorem eq_sim {op : BinOp} {t : TypeId} {x y : Operand} {u v : Value} {b t' : Bool} (hgd : (eqGuard op t x y u v).run P w = .ok () w) (h1 : binOp .eql t u v = (do pure (.bool (← Op.equal t u v)))) (h2 : binOp .neq t u v = (do pure (.bool (!(← Op.equal t u v)))))
    (heq : (Op.equal t u v).run P w = .ok b w) (ho : isEq op = some t') : Gives P σ w (do eqGuard op t x y u v; binOp op t u v) (.bool (b == t')) := by
  rcases isEq_iff ho with ⟨rfl, rfl⟩ | ⟨rfl, rfl⟩
  · refine ⟨.bool b, ?_, by rw [beq_tt]; exact .bool b⟩
    simp only [Sem.run_bind, hgd, Result.andThen_ok, h1, heq]
    rfl
  · refine ⟨.bool (!b), ?_, by rw [beq_ff]; exact .bool _⟩
    simp only [Sem.run_bind, hgd, Result.andThen_ok, h2, heq]
    rfl

theorem bool_sim {op : BinOp} {t : TypeId} {x y : Operand} (ht : P.underlying t = some .bool) {a b t' : Bool} (ho : isEq op = some t') :
    Gives P σ w (do eqGuard op t x y (.bool a) (.bool b); binOp op t (.bool a) (.bool b)) (.bool ((a == b) == t')) :=
  eq_sim (by rw [eqGuard_at_bool]; rfl) rfl rfl (run_equalIn_bool w 9999 t a b ht) ho

theorem nonframe {a : Addr} {arr : Array Value} {e : TypeId} (hb : w.heap[a.block]? = some (.cells arr e (0, 0))) : w.frozen? a = false := by
  simp [World.frozen?, hb]

/-- Two pointers into blocks of the program's own. -/
theorem ptr_ne_in (d : Nat) {t e : TypeId} {s : Nat} (ht : P.underlying t = some (.pointer e)) (hs : sizeT P e = some (s + 1)) {a b : Addr} {arr arr' : Array Value} {e1 e2 : TypeId} (hne : a.block ≠ b.block)
    (ha : w.heap[a.block]? = some (.cells arr e1 (0, 0))) (hb : w.heap[b.block]? = some (.cells arr' e2 (0, 0))) : (Op.equalIn (d + 1) t (.pointer (some a)) (.pointer (some b))).run P w = .ok false w := by
  have hf1 : ∀ o, w.frozen? ⟨a.block, o, none⟩ = false := fun o => by simp [World.frozen?, ha]
  have hf2 : ∀ o, w.frozen? ⟨b.block, o, none⟩ = false := fun o => by simp [World.frozen?, hb]
  have hfa : w.frozen? a = false := nonframe ha
  have hfb : w.frozen? b = false := nonframe hb
  have hsa : w.shape? a.block = some (e1, arr.size) := by simp [World.shape?, ha]
  have hsb : w.shape? b.block = some (e2, arr'.size) := by simp [World.shape?, hb]
  have hbeq : (a.block == b.block) = false := by simpa using hne
  simp only [Op.equalIn, Sem.run_bind, run_underlying ht, Result.andThen_ok, run_sizeOf hs]
  simp [sameAddr, hbeq, frozen, Sem.run, hfa, hfb, noView, viewAt, shape, hsa, hsb, mayBeOne, stringish, hf1, hf2]

theorem ptr_same_in (d : Nat) {t e : TypeId} {s : Nat} (ht : P.underlying t = some (.pointer e)) (hs : sizeT P e = some (s + 1)) {k o o' : Nat} :
    (Op.equalIn (d + 1) t (.pointer (some ⟨k, o, none⟩)) (.pointer (some ⟨k, o', none⟩))).run P w = .ok (Nat.beq o o') w := by
  simp only [Op.equalIn, Sem.run_bind, run_underlying ht, Result.andThen_ok, run_sizeOf hs]
  have : ((⟨k, o, none⟩ : Addr) == ⟨k, o', none⟩) = Nat.beq o o' := by
    rw [Bool.eq_iff_iff]; simp [Nat.beq_eq]
  simp [sameAddr, this]

theorem ptr_nil1_in (d : Nat) {t e : TypeId} (ht : P.underlying t = some (.pointer e)) (b : Option Addr) : (Op.equalIn (d + 1) t (.pointer none) (.pointer b)).run P w = .ok b.isNone w := by
  simp only [Op.equalIn, Sem.run_bind, run_underlying ht, Result.andThen_ok]; rfl
theorem ptr_nil2_in (d : Nat) {t e : TypeId} (ht : P.underlying t = some (.pointer e)) (a : Addr) : (Op.equalIn (d + 1) t (.pointer (some a)) (.pointer none)).run P w = .ok false w := by
  simp only [Op.equalIn, Sem.run_bind, run_underlying ht, Result.andThen_ok]; rfl
theorem ifc_nn_in (d : Nat) {t : TypeId} {ms : Array (String × TypeId)} (ht : P.underlying t = some (.interface ms)) : (Op.equalIn (d + 1) t .nilIface .nilIface).run P w = .ok true w := by
  simp only [Op.equalIn, Sem.run_bind, run_underlying ht, Result.andThen_ok]; rfl
theorem ifc_n1_in (d : Nat) {t u : TypeId} {v : Value} {ms : Array (String × TypeId)} (ht : P.underlying t = some (.interface ms)) : (Op.equalIn (d + 1) t .nilIface (.iface u v)).run P w = .ok false w := by
  simp only [Op.equalIn, Sem.run_bind, run_underlying ht, Result.andThen_ok]; rfl
theorem ifc_n2_in (d : Nat) {t u : TypeId} {v : Value} {ms : Array (String × TypeId)} (ht : P.underlying t = some (.interface ms)) : (Op.equalIn (d + 1) t (.iface u v) .nilIface).run P w = .ok false w := by
  simp only [Op.equalIn, Sem.run_bind, run_underlying ht, Result.andThen_ok]; rfl
theorem sl_n1_in (d : Nat) {t e : TypeId} {n c n' c' : Nat} {b : Option Addr} (ht : P.underlying t = some (.slice e)) : (Op.equalIn (d + 1) t (.slice none n c) (.slice b n' c')).run P w = .ok b.isNone w := by
  simp only [Op.equalIn, Sem.run_bind, run_underlying ht, Result.andThen_ok]; rfl
theorem sl_n2_in (d : Nat) {t e : TypeId} {n c n' c' : Nat} {a : Addr} (ht : P.underlying t = some (.slice e)) : (Op.equalIn (d + 1) t (.slice (some a) n c) (.slice none n' c')).run P w = .ok false w := by
  simp only [Op.equalIn, Sem.run_bind, run_underlying ht, Result.andThen_ok]; rfl
theorem mp_n1_in (d : Nat) {t k e : TypeId} {b : Option Nat} (ht : P.underlying t = some (.map k e)) : (Op.equalIn (d + 1) t (.map none) (.map b)).run P w = .ok b.isNone w := by
  simp only [Op.equalIn, Sem.run_bind, run_underlying ht, Result.andThen_ok]; rfl
theorem mp_n2_in (d : Nat) {t k e : TypeId} {a : Nat} (ht : P.underlying t = some (.map k e)) : (Op.equalIn (d + 1) t (.map (some a)) (.map none)).run P w = .ok false w := by
  simp only [Op.equalIn, Sem.run_bind, run_underlying ht, Result.andThen_ok]; rfl
theorem fn_nn_in (d : Nat) {t : TypeId} {a b : Array TypeId} {c : Bool} (ht : P.underlying t = some (.func a b c)) : (Op.equalIn (d + 1) t .nilFunc .nilFunc).run P w = .ok true w := by
  simp only [Op.equalIn, Sem.run_bind, run_underlying ht, Result.andThen_ok]; rfl
theorem fn_n1_in (d : Nat) {t : TypeId} {a b : Array TypeId} {c : Bool} {f : Fn} {x y : Array Value} (ht : P.underlying t = some (.func a b c)) : (Op.equalIn (d + 1) t .nilFunc (.func f x y)).run P w = .ok false w := by
  simp only [Op.equalIn, Sem.run_bind, run_underlying ht, Result.andThen_ok]; rfl
theorem fn_n2_in (d : Nat) {t : TypeId} {a b : Array TypeId} {c : Bool} {f : Fn} {x y : Array Value} (ht : P.underlying t = some (.func a b c)) : (Op.equalIn (d + 1) t (.func f x y) .nilFunc).run P w = .ok false w := by
  simp only [Op.equalIn, Sem.run_bind, run_underlying ht, Result.andThen_ok]; rfl

theorem eqC_inv {op : BinOp} {t : TypeId} {x y : Operand} {c : EqC} (hc : eqC P op t x y = some c) : match c with
    | .plain => True
    | .bool => P.underlying t = some .bool
    | .ptr => ∃ e s, P.underlying t = some (.pointer e) ∧ sizeT P e = some (s + 1)
    | .ifc => ∃ ms, P.underlying t = some (.interface ms) ∧ (isKc x || isKc y) = true
    | .strct ks => ∃ fs, P.underlying t = some (.struct fs) ∧ P.stoodInHeld t = false ∧ P.eqGuardType P.depth t = false ∧ kindsF P fs.toList 0 = some ks
    | .slc => ∃ e, P.underlying t = some (.slice e)
    | .mp => ∃ k e, P.underlying t = some (.map k e)
    | .fnc => ∃ a b v, P.underlying t = some (.func a b v) := by
  unfold eqC at hc
  split at hc
  · injection hc with hc; subst hc; trivial
  · injection hc with hc; subst hc; trivial
  · rename_i e; injection hc with hc; subst hc; exact e
  · rename_i e
    split at hc
    · rename_i e'; injection hc with hc; subst hc; exact ⟨_, _, e, e'⟩
    · cases hc
  · rename_i e
    split at hc
    · rename_i e'; injection hc with hc; subst hc; exact ⟨_, e, e'⟩
    · cases hc
  · rename_i e
    split at hc
    · rename_i e1 e2; injection hc with hc; subst hc
      simp only [Bool.or_eq_false_iff] at e1
      exact ⟨_, e, e1.1, e1.2, e2⟩
    · cases hc
  · rename_i e; injection hc with hc; subst hc; exact ⟨_, e⟩
  · rename_i e; injection hc with hc; subst hc; exact ⟨_, _, e⟩
  · rename_i e; injection hc with hc; subst hc; exact ⟨_, _, _, e⟩
  · cases hc

theorem guard_nil {op : BinOp} {t : TypeId} {x y : Operand} (h : (isKc x || isKc y) = true) : (eqGuard op t x y .nilIface .nilIface).run P w = .ok () w := by
  cases x with
  | const c => rw [eqGuard_nil_constL]; rfl
  | _ =>
    cases y with
    | const c => rw [eqGuard_nil_constR]; rfl
    | _ => cases h

theorem own_heap (r : HR σ h w) {b : Nat} {cs : List AV} {L : Loc} (hg : h.get b = some (.cells true cs)) (hs : σ b = some L) : ∃ arr e, w.heap[L.blk]? = some (.cells arr e (0, 0)) := by
  obtain ⟨arr, e, fr, h1, _, _, h4⟩ := r.blk b _ L hg hs
  rw [h4 rfl] at h1
  exact ⟨arr, e, h1⟩

theorem ptr_eq_sim (r : HR σ h w) {op : BinOp} {t e : TypeId} {s : Nat} {x y : Operand} (h1 : P.underlying t = some (.pointer e)) (h2 : sizeT P e = some (s + 1)) {b1 o1 b2 o2 : Nat} {L L' : Loc} (hL : σ b1 = some L) (hL' : σ b2 = some L') {b t' : Bool}
    (hq : (match Nat.beq b1 b2 with
      | true => some (Nat.beq o1 o2)
      | false => match h.get b1, h.get b2 with
        | some (.cells true _), some (.cells true _) => some false
        | _, _ => none) = some b) (ho : isEq op = some t') :
    Gives P σ w (do eqGuard op t x y (.pointer (some ⟨L.blk, L.base + o1, none⟩)) (.pointer (some ⟨L'.blk, L'.base + o2, none⟩)); binOp op t (.pointer (some ⟨L.blk, L.base + o1, none⟩)) (.pointer (some ⟨L'.blk, L'.base + o2, none⟩))) (.bool (b == t')) := by
  refine eq_sim (by rw [eqGuard_at_pointer]; rfl) rfl rfl ?_ ho
  split at hq
  · rename_i hbb
    have := Nat.eq_of_beq_eq_true hbb
    subst this
    rw [hL] at hL'; injection hL' with hL'; subst hL'
    injection hq with hq; subst hq
    have := ptr_same_in (P := P) (w := w) 9999 h1 h2 (k := L.blk) (o := L.base + o1) (o' := L.base + o2)
    rw [show Nat.beq (L.base + o1) (L.base + o2) = Nat.beq o1 o2 by rw [Bool.eq_iff_iff, Nat.beq_eq, Nat.beq_eq]; omega] at this
    exact this
  · rename_i hbb
    have hne := Nat.ne_of_beq_eq_false hbb
    split at hq
    · rename_i c1 c2 g1 g2
      injection hq with hq; subst hq
      obtain ⟨arr, e1, k1⟩ := own_heap r g1 hL
      obtain ⟨arr', e2, k2⟩ := own_heap r g2 hL'
      exact ptr_ne_in (P := P) (w := w) 9999 h1 h2 (r.inj _ _ L L' hne (.inl ⟨_, g1⟩) (by rw [g2]; rfl) hL hL') k1 k2
    · cases hq

/-- '==' and '!=' and all other operators. -/
theorem bin_sim {a : Act} {ts : TS} (htr : TR σ ts a.tmps) (r : HR σ h w) {op : BinOp} {t : TypeId} {x y : Operand} {c : EqC} (hc : eqC P op t x y = some c) {v : AV} (hv : binA h op c (evA ts (opd x)) (evA ts (opd y)) = some v) :
    Gives P σ w (do eqGuard op t x y (a.eval x) (a.eval y); binOp op t (a.eval x) (a.eval y)) v := by
  have hx := evA_ok htr x
  have hy := evA_ok htr y
  generalize hu : evA ts (opd x) = u at hx hv
  generalize hu' : evA ts (opd y) = u' at hy hv
  generalize hX : a.eval x = X at hx
  generalize hY : a.eval y = Y at hy
  have hinv := eqC_inv hc
  unfold binA at hv
  split at hv
  · -- numbers
    cases hx; cases hy
    rename_i k n k' n'
    have hg : (eqGuard op t x y (.int k n) (.int k' n')).run P w = .ok () w := by rw [eqGuard_at_int]; rfl
    split at hv
    · obtain ⟨v', h1, h2⟩ := shift_sim (P := P) (σ := σ) (w := w) (t := t) (k' := k') hv
      exact ⟨v', by simp only [Sem.run_bind, hg, Result.andThen_ok, h1], h2⟩
    · rename_i hs
      split at hv
      · rename_i hk
        have hk := kindEq_iff hk
        subst hk
        obtain ⟨v', h1, h2⟩ := intBin_sim (P := P) (σ := σ) (w := w) (t := t) hs hv
        exact ⟨v', by simp only [Sem.run_bind, hg, Result.andThen_ok, h1], h2⟩
      · cases hv
  · cases hx; cases hy
    rename_i s u
    have hg : (eqGuard op t x y (.string s) (.string u)).run P w = .ok () w := by rw [eqGuard_at_string]; rfl
    obtain ⟨v', h1, h2⟩ := strBin_sim (P := P) (σ := σ) (w := w) (t := t) hv
    exact ⟨v', by simp only [Sem.run_bind, hg, Result.andThen_ok, h1], h2⟩
  · split at hv
    · rename_i t' b ho hq
      injection hv with hv; subst hv
      unfold equalA at hq
      split at hq
      · cases hx; cases hy
        injection hq with hq; subst hq
        exact bool_sim hinv ho
      · obtain ⟨fs, h1, h2, h3, h4⟩ := hinv
        exact struct_sim h1 h2 h3 h4 hx hy hq ho
      · obtain ⟨e, s, h1, h2⟩ := hinv
        cases hx with
        | @ptr b1 o1 L hL =>
          cases hy with
          | @ptr b2 o2 L' hL' =>
            exact ptr_eq_sim r h1 h2 hL hL' hq ho
      · obtain ⟨e, s, h1, h2⟩ := hinv
        cases hx; cases hy
        injection hq with hq; subst hq
        exact eq_sim (by rw [eqGuard_at_pointer]; rfl) rfl rfl (ptr_nil1_in 9999 h1 none) ho
      · obtain ⟨e, s, h1, h2⟩ := hinv
        cases hx; cases hy
        injection hq with hq; subst hq
        exact eq_sim (by rw [eqGuard_at_pointer]; rfl) rfl rfl (ptr_nil1_in 9999 h1 _) ho
      · obtain ⟨e, s, h1, h2⟩ := hinv
        cases hx; cases hy
        injection hq with hq; subst hq
        exact eq_sim (by rw [eqGuard_at_pointer]; rfl) rfl rfl (ptr_nil2_in 9999 h1 _) ho
      · obtain ⟨ms, h1, h2⟩ := hinv
        cases hx; cases hy
        injection hq with hq; subst hq
        exact eq_sim (guard_nil h2) rfl rfl (ifc_nn_in 9999 h1) ho
      · obtain ⟨ms, h1, h2⟩ := hinv
        cases hx; cases hy
        injection hq with hq; subst hq
        exact eq_sim (by rw [eqGuard_nil_iface]; rfl) rfl rfl (ifc_n1_in 9999 h1) ho
      · obtain ⟨ms, h1, h2⟩ := hinv
        cases hx; cases hy
        injection hq with hq; subst hq
        exact eq_sim (by rw [eqGuard_at_iface]; rfl) rfl rfl (ifc_n2_in 9999 h1) ho
      · obtain ⟨e, h1⟩ := hinv
        cases hx; cases hy
        injection hq with hq; subst hq
        exact eq_sim (by rw [eqGuard_at_slice]; rfl) rfl rfl (sl_n1_in 9999 h1) ho
      · obtain ⟨e, h1⟩ := hinv
        cases hx; cases hy
        injection hq with hq; subst hq
        exact eq_sim (by rw [eqGuard_at_slice]; rfl) rfl rfl (sl_n2_in 9999 h1) ho
      · obtain ⟨e, h1⟩ := hinv
        cases hx; cases hy
        injection hq with hq; subst hq
        exact eq_sim (by rw [eqGuard_at_slice]; rfl) rfl rfl (sl_n1_in 9999 h1) ho
      · obtain ⟨k, e, h1⟩ := hinv
        cases hx; cases hy
        injection hq with hq; subst hq
        exact eq_sim (by rw [eqGuard_at_map]; rfl) rfl rfl (mp_n1_in 9999 h1) ho
      · obtain ⟨k, e, h1⟩ := hinv
        cases hx; cases hy
        injection hq with hq; subst hq
        exact eq_sim (by rw [eqGuard_at_map]; rfl) rfl rfl (mp_n2_in 9999 h1) ho
      · obtain ⟨k, e, h1⟩ := hinv
        cases hx; cases hy
        injection hq with hq; subst hq
        exact eq_sim (by rw [eqGuard_at_map]; rfl) rfl rfl (mp_n1_in 9999 h1) ho
      · obtain ⟨p, q, z, h1⟩ := hinv
        cases hx; cases hy
        injection hq with hq; subst hq
        exact eq_sim (by rw [eqGuard_at_nilFunc]; rfl) rfl rfl (fn_nn_in 9999 h1) ho
      · obtain ⟨p, q, z, h1⟩ := hinv
        cases hx; cases hy
        injection hq with hq; subst hq
        exact eq_sim (by rw [eqGuard_at_func]; rfl) rfl rfl (fn_n2_in 9999 h1) ho
      · obtain ⟨p, q, z, h1⟩ := hinv
        cases hx; cases hy
        injection hq with hq; subst hq
        exact eq_sim (by rw [eqGuard_at_nilFunc]; rfl) rfl rfl (fn_n1_in 9999 h1) ho
      · cases hq
    · cases hv
end
end Go.Ab
