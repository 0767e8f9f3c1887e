/- Joined out of: AbMono AbRule AbStep AbOra AbV AbVS AbW AbX AbG AbRow. -/
import Derived.Test.YtgkchcbnbbgdpaaGreatDoorJvB
set_option linter.unusedVariables false
set_option linter.unusedSimpArgs false
namespace Go.Ab
structure LvLe (L L' : Lv) : Prop where
  exec : ∀ c s rc, L.exec c s rc ≠ .no → L'.exec c s rc = L.exec c s rc
  call : ∀ f l h, L.call f l h ≠ .no → L'.call f l h = L.call f l h
  callD : ∀ f l h u, L.callD f l h u ≠ none → L'.callD f l h u = L.callD f l h u
theorem regA_mono {cl cl' : Nat → List AV → H → Cr} (hc : ∀ f l h, cl f l h ≠ .no → cl' f l h = cl f l h) : ∀ (ops : List CR) (s : S) (rc : Rc), regA cl ops s rc ≠ .no → regA cl' ops s rc = regA cl ops s rc
  | [], s, rc, h => rfl
  | o :: rest, s, rc, h => by
    simp only [regA] at h ⊢
    split
    · rfl
    · rename_i hg
      simp only [hg] at h
      split
      · rename_i hw; simp only [hw] at h; exact regA_mono hc rest _ _ h
      · rename_i hw
        simp only [hw] at h
        split
        · rename_i e; simp only [e] at h; exact regA_mono hc rest _ _ h
        · rename_i e; simp only [e] at h; exact regA_mono hc rest _ _ h
        · rename_i f l h1 e
          simp only [e] at h
          have hne : cl f l h1 ≠ .no := by
            intro q; rw [q] at h; exact h rfl
          rw [hc f l h1 hne]
          generalize cl f l h1 = z at h hne
          cases z with
          | ret v h2 => exact regA_mono hc rest _ _ h
          | pan v h2 => rfl
          | no => rfl
        · rename_i e; simp only [e] at h; exact regA_mono hc rest _ _ h
        · rename_i e
          simp only [e] at h
          split
          · exact regA_mono hc rest _ _ h
          · exact regA_mono hc rest _ _ h
          · rfl
        · rfl
        · rfl
theorem resD_mono {cl cl' : Nat → List AV → H → Cr} (hc : ∀ f l h, cl f l h ≠ .no → cl' f l h = cl f l h) {o : CR} {ts : TS} {h : H} (hn : resD cl o ts h ≠ none) : resD cl' o ts h = resD cl o ts h := by
  unfold resD at hn ⊢
  split
  · rfl
  · rename_i hg
    simp only [hg] at hn
    split
    · rfl
    · rename_i hw
      simp only [hw] at hn
      split
      · rfl
      · rfl
      · rename_i f l h1 e
        simp only [e] at hn
        have hne : cl f l h1 ≠ .no := by
          intro q; rw [q] at hn; exact hn rfl
        rw [hc f l h1 hne]
      · rfl
theorem traceD_mono {cl cl' : Nat → List AV → H → Cr} (hc : ∀ f l h, cl f l h ≠ .no → cl' f l h = cl f l h) : ∀ (ops : List CR) (ts : TS) (h : H), traceD cl ops ts h ≠ none → traceD cl' ops ts h = traceD cl ops ts h
  | [], ts, h, hn => rfl
  | o :: rest, ts, h, hn => by
    simp only [traceD] at hn ⊢
    have h1 : resD cl o ts h ≠ none := by
      intro q; rw [q] at hn; exact hn rfl
    rw [resD_mono hc h1]
    generalize resD cl o ts h = z at hn h1
    cases z with
    | none => rfl
    | some p =>
      simp only at hn ⊢
      have h2 : traceD cl rest (putT ts o.dst p.1) p.2 ≠ none := by
        intro q; rw [q] at hn; exact hn rfl
      rw [traceD_mono hc rest _ _ h2]
theorem drawA_mono {cl cl' : Nat → List AV → H → Cr} (hc : ∀ f l h, cl f l h ≠ .no → cl' f l h = cl f l h) {ops : List CR} {two : Option (Nat × Nat)} {s : S} {rc : Rc} (hn : drawA cl ops two s rc ≠ .no) : drawA cl' ops two s rc = drawA cl ops two s rc := by
  unfold drawA at hn ⊢
  have h2 : traceD cl ops s.ts s.h ≠ none := by
    intro q; rw [q] at hn; exact hn rfl
  rw [traceD_mono hc ops _ _ h2]
theorem leaveA_mono {cd cd' : Nat → List AV → H → Option AV → Option (H × Option AV)} (hc : ∀ f l h u, cd f l h u ≠ none → cd' f l h u = cd f l h u) (fn : CFn) : ∀ (ds : List (Nat × List AV)) (ts : TS) (h : H) (u : Option AV), leaveA cd fn ds ts h u ≠ .no → leaveA cd' fn ds ts h u = leaveA cd fn ds ts h u
  | [], ts, h, none, _ => rfl
  | [], ts, h, some v, _ => rfl
  | d :: ds, ts, h, u, hn => by
    simp only [leaveA] at hn ⊢
    have h1 : cd d.1 d.2 h u ≠ none := by
      intro q; rw [q] at hn; exact hn rfl
    rw [hc _ _ _ _ h1]
    generalize cd d.1 d.2 h u = z at hn h1
    cases z with
    | none => rfl
    | some p => exact leaveA_mono hc fn ds ts _ _ hn
theorem mkLv_mono (cx : Cx) {L L' : Lv} (hl : LvLe L L') : LvLe (mkLv cx L) (mkLv cx L') := by
  refine ⟨fun c s rc hn => ?_, fun f l h hn => ?_, fun f l h u hn => ?_⟩
  · show execL cx L' c s rc = execL cx L c s rc
    change execL cx L c s rc ≠ .no at hn
    cases c with
    | skip => rfl
    | reg ops => exact regA_mono hl.call ops s rc hn
    | draw ops two => exact drawA_mono hl.call hn
    | seq a b =>
      simp only [execL] at hn ⊢
      have h1 : L.exec a s rc ≠ .no := by
        intro q; rw [q] at hn; exact hn rfl
      rw [hl.exec a s rc h1]
      split
      · rename_i e; simp only [e] at hn; exact hl.exec _ _ _ hn
      · rfl
    | cond c t e =>
      simp only [execL] at hn ⊢
      split
      · rename_i e; simp only [e] at hn; exact hl.exec _ _ _ hn
      · rfl
    | block id body =>
      simp only [execL] at hn ⊢
      cases hr : isOn rc with
      | true => rfl
      | false =>
        rw [hr] at hn
        have h1 : L.exec body s rc ≠ .no := by
          intro q; rw [q] at hn; exact hn rfl
        rw [hl.exec body s rc h1]
    | loop body =>
      simp only [execL] at hn ⊢
      cases hr : isOn rc with
      | true => rfl
      | false =>
        rw [hr] at hn
        have h1 : L.exec body s rc ≠ .no := by
          intro q; rw [q] at hn; exact hn rfl
        rw [hl.exec body s rc h1]
        generalize L.exec body s rc = z at hn h1
        cases z with
        | no => rfl
        | ok f s1 rc1 =>
          cases f with
          | norm => exact hl.exec _ _ _ hn
          | exit n => rfl
          | ret => rfl
          | pan v => rfl
    | exit id => rfl
    | ret => rfl
  · show callL cx L' f l h = callL cx L f l h
    change callL cx L f l h ≠ .no at hn
    unfold callL at hn ⊢
    split
    · rfl
    · rename_i he
      simp only [he] at hn
      split
      · rename_i fn hfn
        simp only [hfn] at hn
        have h1 : L.exec fn.body (startA l h) .off ≠ .no := by
          intro q; rw [q] at hn
          cases hb : Nat.ble l.length fn.ntmps <;> (rw [hb] at hn; exact hn rfl)
        rw [hl.exec _ _ _ h1]
        cases hb : Nat.ble l.length fn.ntmps with
        | false => rfl
        | true =>
          rw [hb] at hn
          generalize L.exec fn.body (startA l h) .off = z at hn h1
          cases z with
          | no => rfl
          | ok fl s rc =>
            cases fl with
            | norm => exact leaveA_mono hl.callD _ _ _ _ _ hn
            | ret => exact leaveA_mono hl.callD _ _ _ _ _ hn
            | pan v => exact leaveA_mono hl.callD _ _ _ _ _ hn
            | exit n => rfl
      · rfl
  · show callDL cx L' f l h u = callDL cx L f l h u
    change callDL cx L f l h u ≠ none at hn
    unfold callDL at hn ⊢
    split
    · rename_i fn hfn
      simp only [hfn] at hn
      cases hb : Nat.ble l.length fn.ntmps with
      | false => rfl
      | true =>
        rw [hb] at hn
        cases hr : hasRec fn.body with
        | false =>
          rw [hr] at hn
          have h1 : L.exec fn.body (startA l h) .off ≠ .no := by
            intro q; rw [q] at hn; exact hn rfl
          simp only [hl.exec _ _ _ h1]
        | true =>
          rw [hr] at hn
          have h1 : L.exec fn.body (startA l h) (.on u) ≠ .no := by
            intro q; rw [q] at hn; exact hn rfl
          simp only [hl.exec _ _ _ h1]
    · rfl
theorem lev_mono1 (cx : Cx) : ∀ n, LvLe (lev cx n) (lev cx (n + 1))
  | 0 => ⟨fun _ _ _ h => absurd rfl h, fun _ _ _ h => absurd rfl h, fun _ _ _ _ h => absurd rfl h⟩
  | n + 1 => mkLv_mono cx (lev_mono1 cx n)
theorem LvLe.trans {a b c : Lv} (h : LvLe a b) (k : LvLe b c) : LvLe a c :=
  ⟨fun x s r hn => by rw [k.exec x s r (by rw [h.exec x s r hn]; exact hn), h.exec x s r hn],
   fun x s r hn => by rw [k.call x s r (by rw [h.call x s r hn]; exact hn), h.call x s r hn],
   fun x s r u hn => by rw [k.callD x s r u (by rw [h.callD x s r u hn]; exact hn), h.callD x s r u hn]⟩
theorem lev_mono (cx : Cx) (n : Nat) : ∀ k, LvLe (lev cx n) (lev cx (n + k))
  | 0 => ⟨fun _ _ _ _ => rfl, fun _ _ _ _ => rfl, fun _ _ _ _ _ => rfl⟩
  | k + 1 => (lev_mono cx n k).trans (lev_mono1 cx (n + k))
theorem lev_le (cx : Cx) {n m : Nat} (h : n ≤ m) : LvLe (lev cx n) (lev cx m) := by
  obtain ⟨k, rfl⟩ := Nat.le.dest h
  exact lev_mono cx n k
end Go.Ab
namespace Go.Ab
structure Ex (cx : Cx) (c : CC) (s : S) (f : Fl) (s' : S) : Prop where
  run : ∃ n, (lev cx n).exec c s .off = .ok f s' .off
structure Ca (cx : Cx) (f : Nat) (l : List AV) (h : H) (v : AV) (h' : H) : Prop where
  run : ∃ n, (lev cx n).call f l h = .ret v h'
structure Rg (cx : Cx) (ops : List CR) (s : S) (s' : S) : Prop where
  run : ∃ n, regA (lev cx n).call ops s .off = .ok .norm s' .off
section
variable {cx : Cx}
theorem ex_le {c : CC} {s s' : S} {f : Fl} {rc : Rc} {n m : Nat} (h : n ≤ m) (e : (lev cx n).exec c s .off = .ok f s' rc) : (lev cx m).exec c s .off = .ok f s' rc := by
  rw [(lev_le cx h).exec c s .off (by rw [e]; intro q; cases q)]; exact e
theorem ca_le {f : Nat} {l : List AV} {h h' : H} {v : AV} {n m : Nat} (hn : n ≤ m) (e : (lev cx n).call f l h = .ret v h') : (lev cx m).call f l h = .ret v h' := by
  rw [(lev_le cx hn).call f l h (by rw [e]; intro q; cases q)]; exact e
theorem rg_le {ops : List CR} {s s' : S} {f : Fl} {rc : Rc} {n m : Nat} (hn : n ≤ m) (e : regA (lev cx n).call ops s .off = .ok f s' rc) : regA (lev cx m).call ops s .off = .ok f s' rc := by
  rw [regA_mono (lev_le cx hn).call ops s .off (by rw [e]; intro q; cases q)]; exact e
theorem Ex.skip {s : S} : Ex cx .skip s .norm s := ⟨⟨1, rfl⟩⟩
theorem Ex.ret {s : S} : Ex cx .ret s .ret s := ⟨⟨1, rfl⟩⟩
theorem Ex.exit {s : S} {id : Nat} : Ex cx (.exit id) s (.exit id) s := ⟨⟨1, rfl⟩⟩
theorem Ex.reg {ops : List CR} {s s' : S} (h : Rg cx ops s s') : Ex cx (.reg ops) s .norm s' := let ⟨n, e⟩ := h.run; ⟨⟨n + 1, e⟩⟩
theorem Ex.draw {ops : List CR} {two : Option (Nat × Nat)} {s s' : S} {f : Fl} (n : Nat) (h : drawA (lev cx n).call ops two s .off = .ok f s' .off) : Ex cx (.draw ops two) s f s' := ⟨⟨n + 1, h⟩⟩
theorem Ex.seq {a b : CC} {s s1 s' : S} {f : Fl} (h1 : Ex cx a s .norm s1) (h2 : Ex cx b s1 f s') : Ex cx (.seq a b) s f s' := by
  obtain ⟨n, e1⟩ := h1.run
  obtain ⟨m, e2⟩ := h2.run
  refine ⟨⟨n + m + 1, ?_⟩⟩
  show execL cx (lev cx (n + m)) (.seq a b) s .off = _
  simp only [execL, ex_le (Nat.le_add_right n m) e1, ex_le (Nat.le_add_left m n) e2]
theorem Ex.stop {a b : CC} {s s' : S} {f : Fl} (h1 : Ex cx a s f s') (hf : f ≠ .norm) : Ex cx (.seq a b) s f s' := by
  obtain ⟨n, e1⟩ := h1.run
  refine ⟨⟨n + 1, ?_⟩⟩
  show execL cx (lev cx n) (.seq a b) s .off = _
  simp only [execL, e1]
  cases f <;> first | exact absurd rfl hf | rfl
theorem Ex.condT {c : Opd} {t e : CC} {s s' : S} {f : Fl} (hb : evA s.ts c = .bool true) (h : Ex cx t s f s') : Ex cx (.cond c t e) s f s' := by
  obtain ⟨n, e1⟩ := h.run
  refine ⟨⟨n + 1, ?_⟩⟩
  show execL cx (lev cx n) (.cond c t e) s .off = _
  simp only [execL, hb]; exact e1
theorem Ex.condF {c : Opd} {t e : CC} {s s' : S} {f : Fl} (hb : evA s.ts c = .bool false) (h : Ex cx e s f s') : Ex cx (.cond c t e) s f s' := by
  obtain ⟨n, e1⟩ := h.run
  refine ⟨⟨n + 1, ?_⟩⟩
  show execL cx (lev cx n) (.cond c t e) s .off = _
  simp only [execL, hb]; exact e1
theorem Ex.block {id : Nat} {body : CC} {s s' : S} (h : Ex cx body s .norm s') : Ex cx (.block id body) s .norm s' := by
  obtain ⟨n, e1⟩ := h.run
  refine ⟨⟨n + 1, ?_⟩⟩
  show execL cx (lev cx n) (.block id body) s .off = _
  simp only [execL, e1, isOn]
theorem Ex.blockRet {id : Nat} {body : CC} {s s' : S} (h : Ex cx body s .ret s') : Ex cx (.block id body) s .ret s' := by
  obtain ⟨n, e1⟩ := h.run
  refine ⟨⟨n + 1, ?_⟩⟩
  show execL cx (lev cx n) (.block id body) s .off = _
  simp only [execL, e1, isOn]
theorem Ex.blockExit {id : Nat} {body : CC} {s s' : S} (h : Ex cx body s (.exit id) s') : Ex cx (.block id body) s .norm s' := by
  obtain ⟨n, e1⟩ := h.run
  refine ⟨⟨n + 1, ?_⟩⟩
  show execL cx (lev cx n) (.block id body) s .off = _
  simp only [execL, e1, isOn, Nat.beq_refl]
theorem Ex.blockOut {id i : Nat} {body : CC} {s s' : S} (h : Ex cx body s (.exit i) s') (hi : Nat.beq i id = false) : Ex cx (.block id body) s (.exit i) s' := by
  obtain ⟨n, e1⟩ := h.run
  refine ⟨⟨n + 1, ?_⟩⟩
  show execL cx (lev cx n) (.block id body) s .off = _
  simp only [execL, e1, isOn, hi]
theorem Ex.loopNext {body : CC} {s s1 s' : S} {f : Fl} (h1 : Ex cx body s .norm s1) (h2 : Ex cx (.loop body) s1 f s') : Ex cx (.loop body) s f s' := by
  obtain ⟨n, e1⟩ := h1.run
  obtain ⟨m, e2⟩ := h2.run
  refine ⟨⟨n + m + 1, ?_⟩⟩
  show execL cx (lev cx (n + m)) (.loop body) s .off = _
  simp only [execL, isOn, ex_le (Nat.le_add_right n m) e1, ex_le (Nat.le_add_left m n) e2]
theorem Ex.loopStop {body : CC} {s s' : S} {f : Fl} (h1 : Ex cx body s f s') (hf : f ≠ .norm) : Ex cx (.loop body) s f s' := by
  obtain ⟨n, e1⟩ := h1.run
  refine ⟨⟨n + 1, ?_⟩⟩
  show execL cx (lev cx n) (.loop body) s .off = _
  simp only [execL, isOn, e1]
  cases f <;> first | exact absurd rfl hf | rfl
theorem Rg.nil {s : S} : Rg cx [] s s := ⟨⟨0, rfl⟩⟩
theorem Rg.un {o : CR} {rest : List CR} {s s' : S} (hg : guardOk s.ts o = true) (hw : wantedA s.ts o = false) (h : Rg cx rest ⟨putT s.ts o.dst undefA, s.ds, s.h⟩ s') : Rg cx (o :: rest) s s' := by
  obtain ⟨n, e⟩ := h.run
  exact ⟨⟨n, by simp only [regA, hg, hw]; exact e⟩⟩
theorem Rg.val {o : CR} {rest : List CR} {s s' : S} {v : AV} {h1 : H} (hg : guardOk s.ts o = true) (hw : wantedA s.ts o = true) (ho : opA s.ts s.h o.op = .val v h1) (h : Rg cx rest ⟨putT s.ts o.dst v, s.ds, h1⟩ s') : Rg cx (o :: rest) s s' := by
  obtain ⟨n, e⟩ := h.run
  exact ⟨⟨n, by simp only [regA, hg, hw, ho]; exact e⟩⟩
theorem Rg.skip {o : CR} {rest : List CR} {s s' : S} {h1 : H} (hg : guardOk s.ts o = true) (hw : wantedA s.ts o = true) (ho : opA s.ts s.h o.op = .skip h1) (h : Rg cx rest ⟨putT s.ts o.dst undefA, s.ds, h1⟩ s') : Rg cx (o :: rest) s s' := by
  obtain ⟨n, e⟩ := h.run
  exact ⟨⟨n, by simp only [regA, hg, hw, ho]; exact e⟩⟩
theorem Rg.call {o : CR} {rest : List CR} {s s' : S} {f : Nat} {l : List AV} {v : AV} {h1 h2 : H} (hg : guardOk s.ts o = true) (hw : wantedA s.ts o = true) (ho : opA s.ts s.h o.op = .call f l h1) (hc : Ca cx f l h1 v h2) (h : Rg cx rest ⟨putT s.ts o.dst v, s.ds, h2⟩ s') : Rg cx (o :: rest) s s' := by
  obtain ⟨n, e⟩ := h.run
  obtain ⟨m, e2⟩ := hc.run
  refine ⟨⟨n + m, ?_⟩⟩
  simp only [regA, hg, hw, ho, ca_le (Nat.le_add_left m n) e2]
  exact rg_le (Nat.le_add_right n m) e
theorem Ca.fn {f : Nat} {l : List AV} {h : H} {fn : CFn} {s : S} {fl : Fl} {vs : List AV} (he : cx.ext f = none) (hf : cx.fn f = some fn) (hl : Nat.ble l.length fn.ntmps = true) (hx : Ex cx fn.body (startA l h) fl s) (hfl : fl = .norm ∨ fl = .ret) (hd : s.ds = [])
    (hr : resA s.ts s.h fn.results = some vs) : Ca cx f l h (tupA vs) s.h := by
  obtain ⟨n, e⟩ := hx.run
  refine ⟨⟨n + 1, ?_⟩⟩
  show callL cx (lev cx n) f l h = _
  rcases hfl with rfl | rfl <;> simp only [callL, he, hf, hl, e, hd, leaveA, hr]
theorem Ca.ext {f : Nat} {l : List AV} {h h' : H} {v : AV} {e : List AV → H → Option (AV × H)} (he : cx.ext f = some e) (hv : e l h = some (v, h')) : Ca cx f l h v h' :=
  ⟨⟨1, by show callL cx lev0 f l h = _; simp only [callL, he, hv]⟩⟩
theorem Ca.calls {P : Program} (hmix : P.follows .mixedOrders = true) (hx : CxOk P cx) {f : Nat} {l : List AV} {h h' : H} {v : AV} (hc : Ca cx f l h v h') {σ : Ren} {w : World} {l' : List Value} (hh : HR σ h w) (hl : LR σ l l') (hf : Fresh σ h.next h'.next) :
    Calls P f l'.toArray w fun e w' => ∃ v' σ', e = .returned v' ∧ VR σ' v v' ∧ HR σ' h' w' ∧ Ext σ σ' h h' w w' :=
  let ⟨_, e⟩ := hc.run; calls_ok hmix hx e hh hl hf
end
end Go.Ab
namespace Go.Ab
section
variable {cx : Cx}
inductive Sq (cx : Cx) (b : CC) : Fl → S → Fl → S → Prop
  | go {s1 s' : S} {f : Fl} (h : Ex cx b s1 f s') : Sq cx b .norm s1 f s'
  | ret {s : S} : Sq cx b .ret s .ret s
  | exit {s : S} {i : Nat} : Sq cx b (.exit i) s (.exit i) s
inductive Bl (id : Nat) : Fl → S → Fl → S → Prop
  | norm {s : S} : Bl id .norm s .norm s
  | ret {s : S} : Bl id .ret s .ret s
  | hit {i : Nat} {s : S} (h : Nat.beq i id = true) : Bl id (.exit i) s .norm s
  | out {i : Nat} {s : S} (h : Nat.beq i id = false) : Bl id (.exit i) s (.exit i) s
theorem Ex.bl {id : Nat} {body : CC} {s s1 s' : S} {f1 f : Fl} (h1 : Ex cx body s f1 s1) (h2 : Bl id f1 s1 f s') : Ex cx (.block id body) s f s' := by
  cases h2 with
  | norm => exact Ex.block h1
  | ret => exact Ex.blockRet h1
  | hit h => rw [Nat.eq_of_beq_eq_true h] at h1; exact Ex.blockExit h1
  | out h => exact Ex.blockOut h1 h
inductive Lp (cx : Cx) (body : CC) : Fl → S → Fl → S → Prop
  | next {s1 s' : S} {f : Fl} (h : Ex cx (.loop body) s1 f s') : Lp cx body .norm s1 f s'
  | ret {s : S} : Lp cx body .ret s .ret s
  | exit {s : S} {i : Nat} : Lp cx body (.exit i) s (.exit i) s
end
end Go.Ab
namespace Go.Ab
abbrev Ans := List (Option Bool)
abbrev Lg := List Prop
def AllL (l : Lg) : Prop := ∀ p ∈ l, p
inductive OR (α : Type) where
  | ok (a : α) (ans : Ans) (log : Lg)
  | ask (b : Bool)
  | no
def askO (b : Bool) (ans : Ans) (log : Lg) : OR Bool :=
  match ans with
  | [] => .ask b
  | none :: r => .ok b r log
  | some x :: r => .ok x r ((b = x) :: log)
structure LO where
  exec : CC → S → Ans → Lg → OR (Fl × S)
  call : Nat → List AV → H → Ans → Lg → OR (AV × H)
def wantO (ts : TS) (o : CR) (ans : Ans) (log : Lg) : OR Bool :=
  match o.guard with
  | none => .ok true ans log
  | some (d, want) => match ts.get d with
    | some (.bool b) => match askO b ans log with
      | .ok b ans log => .ok (b == want) ans log
      | .ask b => .ask b
      | .no => .no
    | some .any => .no
    | none => .no
    | _ => .ok false ans log
def genO (cl : Nat → List AV → H → Ans → Lg → OR (AV × H)) (o : CO) (ts : TS) (h : H) (ans : Ans) (log : Lg) : OR (AV × H) :=
  match opA ts h o with
  | .val v h => .ok (v, h) ans log
  | .skip h => .ok (undefA, h) ans log
  | .call f args h => cl f args h ans log
  | _ => .no
def isDiv : BinOp → Bool
  | .quo | .rem => true
  | _ => false
def divV (op : BinOp) (k : IntKind) (a b : Int) : AV :=
  match op with
  | .quo => .int k (k.wrap (a.tdiv b))
  | _ => .int k (a.tmod b)
def doO (cl : Nat → List AV → H → Ans → Lg → OR (AV × H)) (o : CO) (ts : TS) (h : H) (ans : Ans) (log : Lg) : OR (AV × H) :=
  match o with
  | .pick c a b => match evA ts c with
    | .bool x => match askO x ans log with
      | .ok true ans log => .ok (evA ts a, h) ans log
      | .ok false ans log => .ok (evA ts b, h) ans log
      | .ask b => .ask b
      | .no => .no
    | _ => .no
  | .bin op c x y => match isDiv op with
    | true => match evA ts x, evA ts y with
      | .int k a, .int k' b => match kindEq k k', askO (decide (b = 0)) ans log with
        | true, .ok false ans log => .ok (divV op k a b, h) ans log
        | true, .ask b => .ask b
        | _, _ => .no
      | _, _ => .no
    | false => genO cl (.bin op c x y) ts h ans log
  | o => genO cl o ts h ans log
def stepO (cl : Nat → List AV → H → Ans → Lg → OR (AV × H)) (o : CR) (ts : TS) (h : H) (ans : Ans) (log : Lg) : OR (AV × H) :=
  match wantO ts o ans log with
  | .ok true ans log => doO cl o.op ts h ans log
  | .ok false ans log => .ok (undefA, h) ans log
  | .ask b => .ask b
  | .no => .no
def regO (cl : Nat → List AV → H → Ans → Lg → OR (AV × H)) : List CR → S → Ans → Lg → OR (Fl × S)
  | [], s, ans, log => .ok (.norm, s) ans log
  | o :: rest, s, ans, log => match stepO cl o s.ts s.h ans log with
    | .ok (v, h) ans log => regO cl rest ⟨putT s.ts o.dst v, s.ds, h⟩ ans log
    | .ask b => .ask b
    | .no => .no
def traceO (cl : Nat → List AV → H → Ans → Lg → OR (AV × H)) : List CR → TS → H → Ans → Lg → OR (List (TS × H))
  | [], ts, h, ans, log => .ok [(ts, h)] ans log
  | o :: rest, ts, h, ans, log => match stepO cl o ts h ans log with
    | .ok (v, h') ans log => match traceO cl rest (putT ts o.dst v) h' ans log with
      | .ok l ans log => .ok ((ts, h) :: l) ans log
      | .ask b => .ask b
      | .no => .no
    | .ask b => .ask b
    | .no => .no
def okV : AV → Bool
  | .bool _ | .int _ _ | .str _ | .ptr _ _ | .pnil | .sl _ _ _ _ _ | .snil | .map _ | .mnil | .fnil | .inil => true
  | _ => false
def okVs : List AV → Bool
  | [] => true
  | v :: r => match okV v with
    | true => okVs r
    | false => false
def okA : AV → Bool
  | .agg l => okVs l
  | .tup l => okVs l
  | v => okV v
def holdsQ (o : CR) (ts : TS) (v : AV) (l : List (TS × H)) : List Nat → Option (List Prop)
  | [] => some []
  | q :: qs => match l[q]? with
    | some (_, h) => match opA ts h o.op with
      | .val v' _ => match holdsQ o ts v l qs with
        | some ps => some ((v = v') :: ps)
        | none => none
      | _ => none
    | none => none
def held1Q (l : List (TS × H)) (o : CR) (ts : TS) (h : H) : Option (List Prop) :=
  match isReads o, o.win, wantedA ts o with
  | true, _ :: _, true => match opA ts h o.op with
    | .val v _ => match okA v with
      | true => holdsQ o ts v l o.win
      | false => none
    | _ => none
  | _, _, _ => some []
def heldQ (all : List (TS × H)) : List CR → List (TS × H) → Option (List Prop)
  | o :: rest, (ts, h) :: l => match held1Q all o ts h, heldQ all rest l with
    | some a, some b => some (a ++ b)
    | _, _ => none
  | _, _ => some []
def drawO (cl : Nat → List AV → H → Ans → Lg → OR (AV × H)) (ops : List CR) (two : Option (Nat × Nat)) (s : S) (ans : Ans) (log : Lg) : OR (Fl × S) :=
  match traceO cl ops s.ts s.h ans log with
  | .ok l ans log => match heldQ l ops l with
    | some ps => match twoOk ops l two, l.getLast? with
      | true, some (ts, h) => .ok (.norm, ⟨ts, s.ds, h⟩) ans (ps ++ log)
      | _, _ => .no
    | none => .no
  | .ask b => .ask b
  | .no => .no
def execLO (L : LO) (c : CC) (s : S) (ans : Ans) (log : Lg) : OR (Fl × S) :=
  match c with
  | .skip => .ok (.norm, s) ans log
  | .reg ops => regO L.call ops s ans log
  | .draw ops two => drawO L.call ops two s ans log
  | .seq a b => match L.exec a s ans log with
    | .ok (.norm, s) ans log => L.exec b s ans log
    | r => r
  | .cond c t e => match evA s.ts c with
    | .bool b => match askO b ans log with
      | .ok b ans log => L.exec (match b with | true => t | false => e) s ans log
      | .ask b => .ask b
      | .no => .no
    | _ => .no
  | .block id body => match L.exec body s ans log with
    | .ok (.exit i, s) ans log => match Nat.beq i id with
      | true => .ok (.norm, s) ans log
      | false => .ok (.exit i, s) ans log
    | r => r
  | .loop body => match L.exec body s ans log with
    | .ok (.norm, s) ans log => L.exec (.loop body) s ans log
    | r => r
  | .exit id => .ok (.exit id, s) ans log
  | .ret => .ok (.ret, s) ans log
def callLO (cx : Cx) (L : LO) (f : Nat) (args : List AV) (h : H) (ans : Ans) (log : Lg) : OR (AV × H) :=
  match cx.ext f with
  | some e => match e args h with
    | some (v, h') => .ok (v, h') ans log
    | none => .no
  | none => match cx.fn f with
    | some fn => match Nat.ble args.length fn.ntmps, L.exec fn.body (startA args h) ans log with
      | true, .ok (.norm, s) ans log | true, .ok (.ret, s) ans log => match s.ds, resA s.ts s.h fn.results with
        | [], some l => .ok (tupA l, s.h) ans log
        | _, _ => .no
      | true, .ask b => .ask b
      | _, _ => .no
    | none => .no
def levO (cx : Cx) : Nat → LO
  | 0 => { exec := fun _ _ _ _ => .no, call := fun _ _ _ _ _ => .no }
  | n + 1 => { exec := execLO (levO cx n), call := callLO cx (levO cx n) }
theorem askO_ok {b x : Bool} {ans ans' : Ans} {log log' : Lg} (h : askO b ans log = .ok x ans' log') (hl : AllL log') : AllL log ∧ b = x := by
  unfold askO at h
  split at h
  · cases h
  · cases h; exact ⟨hl, rfl⟩
  · cases h; exact ⟨fun p hp => hl p (List.mem_cons_of_mem _ hp), hl _ (List.mem_cons_self ..)⟩
def ClOra (cl : Nat → List AV → H → Cr) (co : Nat → List AV → H → Ans → Lg → OR (AV × H)) : Prop :=
  ∀ f args h ans log v h' ans' log', co f args h ans log = .ok (v, h') ans' log' → AllL log' → AllL log ∧ cl f args h = .ret v h'
theorem wantO_ok {ts : TS} {o : CR} {ans ans' : Ans} {log log' : Lg} {x : Bool} (h : wantO ts o ans log = .ok x ans' log') (hl : AllL log') : AllL log ∧ guardOk ts o = true ∧ wantedA ts o = x := by
  unfold wantO at h
  unfold guardOk wantedA
  split at h
  · next hg => cases h; simp only [hg]; exact ⟨hl, trivial, trivial⟩
  · next d want hg =>
    simp only [hg]
    split at h
    · next b hb =>
      simp only [hb]
      split at h
      · next ha => cases h; obtain ⟨h1, h2⟩ := askO_ok ha hl; subst h2; exact ⟨h1, trivial, rfl⟩
      · cases h
      · cases h
    · cases h
    · cases h
    · next v h1 h2 h3 =>
      cases h
      refine ⟨hl, ?_, ?_⟩
      · cases hq : ts.get d with
        | none => exact absurd hq h3
        | some v => cases v <;> first | rfl | exact absurd hq h2
      · cases hq : ts.get d with
        | none => rfl
        | some v => cases v <;> first | rfl | exact absurd hq (h1 _)
theorem genO_ok {cl : Nat → List AV → H → Cr} {co : Nat → List AV → H → Ans → Lg → OR (AV × H)} (hc : ClOra cl co) {o : CO} {ts : TS} {h h' : H} {v : AV} {ans ans' : Ans} {log log' : Lg} (e : genO co o ts h ans log = .ok (v, h') ans' log') (hl : AllL log') :
    AllL log ∧ (opA ts h o = .val v h' ∨ (opA ts h o = .skip h' ∧ v = undefA) ∨ ∃ f args h1, opA ts h o = .call f args h1 ∧ cl f args h1 = .ret v h') := by
  unfold genO at e
  split at e
  · next ho => cases e; exact ⟨hl, .inl ho⟩
  · next ho => cases e; exact ⟨hl, .inr (.inl ⟨ho, rfl⟩)⟩
  · next ho => obtain ⟨h1, h2⟩ := hc _ _ _ _ _ _ _ _ _ e hl; exact ⟨h1, .inr (.inr ⟨_, _, _, ho, h2⟩)⟩
  · cases e
theorem doO_ok {cl : Nat → List AV → H → Cr} {co : Nat → List AV → H → Ans → Lg → OR (AV × H)} (hc : ClOra cl co) {o : CO} {ts : TS} {h h' : H} {v : AV} {ans ans' : Ans} {log log' : Lg} (e : doO co o ts h ans log = .ok (v, h') ans' log') (hl : AllL log') :
    AllL log ∧ (opA ts h o = .val v h' ∨ (opA ts h o = .skip h' ∧ v = undefA) ∨ ∃ f args h1, opA ts h o = .call f args h1 ∧ cl f args h1 = .ret v h') := by
  unfold doO at e
  split at e
  · next c a b =>
    split at e
    · next x hx =>
      split at e
      · next ha => cases e; obtain ⟨h1, h2⟩ := askO_ok ha hl; subst h2; exact ⟨h1, .inl (by simp only [opA, oPick, hx])⟩
      · next ha => cases e; obtain ⟨h1, h2⟩ := askO_ok ha hl; subst h2; exact ⟨h1, .inl (by simp only [opA, oPick, hx])⟩
      · cases e
      · cases e
    · cases e
  · next op c x y =>
    split at e
    · next hop =>
      split at e
      · next k a k' b hx hy =>
        split at e
        · next hk ha =>
          cases e
          obtain ⟨h1, h2⟩ := askO_ok ha hl
          have hb : ¬ b = 0 := of_decide_eq_false h2
          refine ⟨h1, .inl ?_⟩
          cases op <;> first | (cases hop; done) | simp only [opA, hx, hy, binA, isShift, hk, intBin, if_neg hb, ofO, divV]
        · cases e
        · cases e
      · cases e
    · exact genO_ok hc e hl
  · exact genO_ok hc e hl
theorem regO_ok {cl : Nat → List AV → H → Cr} {co : Nat → List AV → H → Ans → Lg → OR (AV × H)} (hc : ClOra cl co) : ∀ {ops : List CR} {s s' : S} {f : Fl} {ans ans' : Ans} {log log' : Lg}, regO co ops s ans log = .ok (f, s') ans' log' → AllL log' →
    AllL log ∧ regA cl ops s .off = .ok f s' .off := by
  intro ops
  induction ops with
  | nil => intro s s' f ans ans' log log' h hl; cases h; exact ⟨hl, rfl⟩
  | cons o rest ih =>
    intro s s' f ans ans' log log' h hl
    simp only [regO, stepO] at h
    cases hw : wantO s.ts o ans log with
    | ask b => simp only [hw] at h; cases h
    | no => simp only [hw] at h; cases h
    | ok x an lg =>
      simp only [hw] at h
      cases x with
      | false =>
        obtain ⟨h1, h2⟩ := ih h hl
        obtain ⟨h3, h4, h5⟩ := wantO_ok hw h1
        exact ⟨h3, by simp only [regA, h4, h5, h2]⟩
      | true =>
        simp only [] at h
        cases hd : doO co o.op s.ts s.h an lg with
        | ask b => simp only [hd] at h; cases h
        | no => simp only [hd] at h; cases h
        | ok p an lg2 =>
          obtain ⟨v, h1⟩ := p
          simp only [hd] at h
          obtain ⟨h6, h2⟩ := ih h hl
          obtain ⟨h7, h8⟩ := doO_ok hc hd h6
          obtain ⟨h3, h4, h5⟩ := wantO_ok hw h7
          refine ⟨h3, ?_⟩
          rcases h8 with h8 | ⟨h8, rfl⟩ | ⟨f1, args, h9, h8, h10⟩
          · simp only [regA, h4, h5, h8, h2]
          · simp only [regA, h4, h5, h8, h2]
          · simp only [regA, h4, h5, h8, h10, h2]
theorem traceO_ok {cl : Nat → List AV → H → Cr} {co : Nat → List AV → H → Ans → Lg → OR (AV × H)} (hc : ClOra cl co) : ∀ {ops : List CR} {ts : TS} {h : H} {l : List (TS × H)} {ans ans' : Ans} {log log' : Lg}, traceO co ops ts h ans log = .ok l ans' log' → AllL log' →
    AllL log ∧ traceD cl ops ts h = some l := by
  intro ops
  induction ops with
  | nil => intro ts h l ans ans' log log' e hl; cases e; exact ⟨hl, rfl⟩
  | cons o rest ih =>
    intro ts h l ans ans' log log' e hl
    simp only [traceO, stepO] at e
    cases hw : wantO ts o ans log with
    | ask b => simp only [hw] at e; cases e
    | no => simp only [hw] at e; cases e
    | ok x an lg =>
      simp only [hw] at e
      cases x with
      | false =>
        simp only [] at e
        cases ht : traceO co rest (putT ts o.dst undefA) h an lg with
        | ask b => simp only [ht] at e; cases e
        | no => simp only [ht] at e; cases e
        | ok l1 an lg2 =>
          simp only [ht] at e
          cases e
          obtain ⟨h1, h2⟩ := ih ht hl
          obtain ⟨h3, h4, h5⟩ := wantO_ok hw h1
          exact ⟨h3, by simp only [traceD, resD, h4, h5, h2]⟩
      | true =>
        simp only [] at e
        cases hd : doO co o.op ts h an lg with
        | ask b => simp only [hd] at e; cases e
        | no => simp only [hd] at e; cases e
        | ok p an lg2 =>
          obtain ⟨v, h1⟩ := p
          simp only [hd] at e
          cases ht : traceO co rest (putT ts o.dst v) h1 an lg2 with
          | ask b => simp only [ht] at e; cases e
          | no => simp only [ht] at e; cases e
          | ok l1 an lg2 =>
            simp only [ht] at e
            cases e
            obtain ⟨h6, h2⟩ := ih ht hl
            obtain ⟨h7, h8⟩ := doO_ok hc hd h6
            obtain ⟨h3, h4, h5⟩ := wantO_ok hw h7
            refine ⟨h3, ?_⟩
            rcases h8 with h8 | ⟨h8, rfl⟩ | ⟨f1, args, h9, h8, h10⟩
            · simp only [traceD, resD, h4, h5, h8, h2]
            · simp only [traceD, resD, h4, h5, h8, h2]
            · simp only [traceD, resD, h4, h5, h8, h10, h2]
theorem sameV_refl {v : AV} (h : okV v = true) : sameV v v = true := by
  cases v <;> first | (cases h; done) | skip
  all_goals simp only [sameV, Nat.beq_refl, Bool.and_self, beq_self_eq_true, decide_true]
  · next k n => cases k <;> rfl
  · next s => induction s with
    | nil => rfl
    | cons a r ih => simp only [listEq, Nat.beq_refl]; exact ih rfl
  · next a b c d e => cases d <;> simp [sameN]
theorem sameL_refl : ∀ {l : List AV}, okVs l = true → sameL l l = true
  | [], _ => rfl
  | v :: r, h => by
    simp only [okVs] at h
    split at h
    · next hv => simp only [sameL, sameV_refl hv, sameL_refl h, Bool.and_self]
    · cases h
theorem sameA_refl {v : AV} (h : okA v = true) : sameA v v = true := by
  cases v <;> first | exact sameL_refl h | (simp only [sameA]; exact sameV_refl h)
theorem holdsQ_ok {o : CR} {ts : TS} {v : AV} {l : List (TS × H)} (hv : okA v = true) : ∀ {qs : List Nat} {ps : List Prop}, holdsQ o ts v l qs = some ps → (∀ p ∈ ps, p) → holdsAt o ts v l qs = true := by
  intro qs
  induction qs with
  | nil => intro ps h hp; rfl
  | cons q qs ih =>
    intro ps h hp
    unfold holdsQ at h
    split at h
    · next ts1 h1 hq =>
      split at h
      · next v' h2 ho =>
        split at h
        · next ps1 hps =>
          cases h
          have e : v = v' := hp _ (List.mem_cons_self ..)
          subst e
          simp only [holdsAt, hq]; rw [ho]; simp only [sameA_refl hv]
          exact ih hps (fun p h => hp p (List.mem_cons_of_mem _ h))
        · cases h
      · cases h
    · cases h
theorem held1Q_ok {o : CR} {ts : TS} {h : H} {l : List (TS × H)} {ps : List Prop} (e : held1Q l o ts h = some ps) (hp : ∀ p ∈ ps, p) : held1 l o ts h = true := by
  unfold held1Q at e
  unfold held1
  split at e
  · next h1 h2 h3 =>
    split at e
    · next v h4 ho =>
      split at e
      · next hv => simp only [h1, h3, ho]; rw [h2]; rw [h2] at e; exact holdsQ_ok hv e hp
      · cases e
    · cases e
  · next hn =>
    split
    · next h1 h2 h3 => exact absurd h3 (hn _ _ h1 h2)
    · rfl
theorem heldQ_ok {all : List (TS × H)} : ∀ {ops : List CR} {l : List (TS × H)} {ps : List Prop}, heldQ all ops l = some ps → (∀ p ∈ ps, p) → heldD all ops l = true := by
  intro ops
  induction ops with
  | nil => intro l ps h hp; rfl
  | cons o rest ih =>
    intro l ps h hp
    cases l with
    | nil => rfl
    | cons p l =>
      obtain ⟨ts, h0⟩ := p
      unfold heldQ at h
      split at h
      · next a b ha hb =>
        cases h
        simp only [heldD, held1Q_ok ha (fun p h => hp p (List.mem_append_left _ h))]
        exact ih hb (fun p h => hp p (List.mem_append_right _ h))
      · cases h
theorem drawO_ok {cl : Nat → List AV → H → Cr} {co : Nat → List AV → H → Ans → Lg → OR (AV × H)} (hc : ClOra cl co) {ops : List CR} {two : Option (Nat × Nat)} {s s' : S} {f : Fl} {ans ans' : Ans} {log log' : Lg} (e : drawO co ops two s ans log = .ok (f, s') ans' log') (hl : AllL log') :
    AllL log ∧ drawA cl ops two s .off = .ok f s' .off := by
  unfold drawO at e
  split at e
  · next l an lg ht =>
    split at e
    · next ps ha =>
      split at e
      · next ts h h2 h3 =>
        cases e
        obtain ⟨h6, h7⟩ := traceO_ok hc ht (fun p h => hl p (List.mem_append_right _ h))
        exact ⟨h6, by simp only [drawA, h7, heldQ_ok ha (fun p h => hl p (List.mem_append_left _ h)), h2, h3]⟩
      · cases e
    · cases e
  · cases e
  · cases e
theorem levO_ok (cx : Cx) : ∀ n : Nat, (∀ c s ans log f s' ans' log', (levO cx n).exec c s ans log = .ok (f, s') ans' log' → AllL log' → AllL log ∧ (lev cx n).exec c s .off = .ok f s' .off) ∧ ClOra (lev cx n).call (levO cx n).call := by
  intro n
  induction n with
  | zero => exact ⟨fun _ _ _ _ _ _ _ _ h => (by cases h), fun _ _ _ _ _ _ _ _ _ h => (by cases h)⟩
  | succ n ih =>
    obtain ⟨ih, ihc⟩ := ih
    constructor
    · intro c s ans log f s' ans' log' h hl
      show AllL log ∧ execL cx (lev cx n) c s .off = _
      change execLO (levO cx n) c s ans log = _ at h
      cases c with
      | skip => cases h; exact ⟨hl, rfl⟩
      | reg ops => exact regO_ok ihc h hl
      | draw ops two => exact drawO_ok ihc h hl
      | seq a b =>
        simp only [execLO] at h
        split at h
        · next ha =>
          obtain ⟨h1, h2⟩ := ih _ _ _ _ _ _ _ _ h hl
          obtain ⟨h3, h4⟩ := ih _ _ _ _ _ _ _ _ ha h1
          exact ⟨h3, by simp only [execL, h4, h2]⟩
        · next hn =>
          obtain ⟨h3, h4⟩ := ih _ _ _ _ _ _ _ _ h hl
          refine ⟨h3, ?_⟩
          simp only [execL, h4]
          cases f with
          | norm => exact absurd h (hn _ _ _)
          | _ => rfl
      | cond c t e =>
        simp only [execLO] at h
        split at h
        · next b hb =>
          split at h
          · next ha =>
            obtain ⟨h1, h2⟩ := ih _ _ _ _ _ _ _ _ h hl
            obtain ⟨h3, h4⟩ := askO_ok ha h1
            subst h4
            exact ⟨h3, by simp only [execL, hb]; exact h2⟩
          · cases h
          · cases h
        · cases h
      | block id body =>
        simp only [execLO] at h
        split at h
        · next ha =>
          split at h
          · next hq => cases h; obtain ⟨h3, h4⟩ := ih _ _ _ _ _ _ _ _ ha hl; exact ⟨h3, by simp only [execL, isOn, h4, hq]⟩
          · next hq => cases h; obtain ⟨h3, h4⟩ := ih _ _ _ _ _ _ _ _ ha hl; exact ⟨h3, by simp only [execL, isOn, h4, hq]⟩
        · next hn =>
          obtain ⟨h3, h4⟩ := ih _ _ _ _ _ _ _ _ h hl
          refine ⟨h3, ?_⟩
          simp only [execL, isOn, h4]
          cases f with
          | exit i => exact absurd h (hn _ _ _ _)
          | _ => rfl
      | loop body =>
        simp only [execLO] at h
        split at h
        · next ha =>
          obtain ⟨h1, h2⟩ := ih _ _ _ _ _ _ _ _ h hl
          obtain ⟨h3, h4⟩ := ih _ _ _ _ _ _ _ _ ha h1
          exact ⟨h3, by simp only [execL, isOn, h4, h2]⟩
        · next hn =>
          obtain ⟨h3, h4⟩ := ih _ _ _ _ _ _ _ _ h hl
          refine ⟨h3, ?_⟩
          simp only [execL, isOn, h4]
          cases f with
          | norm => exact absurd h (hn _ _ _)
          | _ => rfl
      | exit id => cases h; exact ⟨hl, rfl⟩
      | ret => cases h; exact ⟨hl, rfl⟩
    · intro f args h ans log v h' ans' log' e hl
      show AllL log ∧ callL cx (lev cx n) f args h = _
      change callLO cx (levO cx n) f args h ans log = _ at e
      unfold callLO at e
      split at e
      · next e1 he =>
        split at e
        · next hv => cases e; exact ⟨hl, by simp only [callL, he, hv]⟩
        · cases e
      · next he =>
        split at e
        · next fn hf =>
          split at e
          · next hb hx =>
            split at e
            · next hd hr => cases e; obtain ⟨h3, h4⟩ := ih _ _ _ _ _ _ _ _ hx hl; exact ⟨h3, by simp only [callL, he, hf, hb, h4, hd, leaveA, hr]⟩
            · cases e
          · next hb hx =>
            split at e
            · next hd hr => cases e; obtain ⟨h3, h4⟩ := ih _ _ _ _ _ _ _ _ hx hl; exact ⟨h3, by simp only [callL, he, hf, hb, h4, hd, leaveA, hr]⟩
            · cases e
          · cases e
          · cases e
        · cases e
def AndL : List Prop → Prop
  | [] => True
  | p :: r => p ∧ AndL r
def view : OR (AV × H) → Option (AV × Nat × Prop)
  | .ok (v, h) _ l => some (v, h.next, AndL l)
  | _ => none
theorem AndL.all : ∀ {l : List Prop}, AndL l → AllL l
  | [], _ => fun _ h => by cases h
  | p :: r, h => fun q hq => by
    cases hq with
    | head => exact h.1
    | tail _ hq => exact AndL.all h.2 q hq
theorem Ca.ora {cx : Cx} {n : Nat} {f : Nat} {args : List AV} {h : H} {ans : Ans} {v : AV} {nx : Nat} {p : Prop} (e : view ((levO cx n).call f args h ans []) = some (v, nx, p)) (hl : p) : ∃ h', Ca cx f args h v h' ∧ h'.next = nx := by
  cases hr : (levO cx n).call f args h ans [] with
  | ok p an lg =>
    obtain ⟨v1, h1⟩ := p
    rw [hr] at e
    simp only [view, Option.some.injEq, Prod.mk.injEq] at e
    obtain ⟨rfl, rfl, rfl⟩ := e
    exact ⟨h1, ⟨⟨n, ((levO_ok cx n).2 _ _ _ _ _ _ _ _ _ hr (AndL.all hl)).2⟩⟩, rfl⟩
  | ask b => rw [hr] at e; cases e
  | no => rw [hr] at e; cases e
end Go.Ab
/- Runs with letters in them: tests are answered ahead, and what letters hide (an operation's value, a call's, a loop's end) is handed in; what was assumed is written down. -/
namespace Go.Ab
def Kn (ts0 ts : TS) : Prop := ∀ n v, ts0.get n = some v → ts.get n = some v
theorem Kn.refl (ts : TS) : Kn ts ts := fun _ _ h => h
theorem Kn.trans {a b c : TS} (h : Kn a b) (k : Kn b c) : Kn a c := fun n v e => k n v (h n v e)
theorem Kn.put {a b : TS} (h : Kn a b) (d : Option Nat) (v : AV) : Kn (putT a d v) (putT b d v) := by
  intro n x e
  cases d with
  | none => exact h n x e
  | some d =>
    simp only [putT, Tr.get_set] at e ⊢
    split at e
    · next hn => rw [if_pos hn]; exact e
    · next hn => rw [if_neg hn]; exact h n x e
def hasT (ts : TS) (n : Nat) : Bool := match ts.get n with | some _ => true | none => false
def knows (ts : TS) : List Nat → Bool
  | [] => true
  | n :: r => match hasT ts n with
    | true => knows ts r
    | false => false
theorem knows_all {ts : TS} : ∀ {l : List Nat}, knows ts l = true → ∀ n ∈ l, ∃ v, ts.get n = some v := by
  intro l
  induction l with
  | nil => intro _ n hn; cases hn
  | cons a r ih =>
    intro h n hn
    simp only [knows] at h
    cases e : hasT ts a with
    | false => rw [e] at h; cases h
    | true =>
      rw [e] at h
      rcases List.mem_cons.1 hn with rfl | hn
      · unfold hasT at e
        split at e
        · next v hv => exact ⟨v, hv⟩
        · cases e
      · exact ih h n hn
theorem Kn.same {a b : TS} (h : Kn a b) {l : List Nat} (hk : knows a l = true) : SameOn l b a := by
  intro n hn
  obtain ⟨v, hv⟩ := knows_all hk n hn
  rw [hv, h n v hv]
/-! An operation with its operands' values put in. -/
def Opd.sub (ts : TS) (x : Opd) : Opd := .k (evA ts x)
def subO (ts : TS) : Option Opd → Option Opd
  | some x => some (x.sub ts)
  | none => none
def subL (ts : TS) : List Opd → List Opd
  | [] => []
  | x :: r => x.sub ts :: subL ts r
def subP (ts : TS) : List (Nat × Nat × Opd) → List (Nat × Nat × Opd)
  | [] => []
  | (a, b, x) :: r => (a, b, x.sub ts) :: subP ts r
def CO.sub (ts : TS) : CO → CO
  | .mv x => .mv (x.sub ts)
  | .pick c a b => .pick (c.sub ts) (a.sub ts) (b.sub ts)
  | .alloc z => .alloc z
  | .box x => .box (x.sub ts)
  | .build z ps => .build z (subP ts ps)
  | .bslice n z cs ps => .bslice n z cs (subP ts ps)
  | .load s g a => .load s g (a.sub ts)
  | .store s a x => .store s (a.sub ts) (x.sub ts)
  | .nilc x => .nilc (x.sub ts)
  | .bin op c x y => .bin op c (x.sub ts) (y.sub ts)
  | .un op x => .un op (x.sub ts)
  | .conv k x => .conv k (x.sub ts)
  | .ofBytes x => .ofBytes (x.sub ts)
  | .convS x => .convS (x.sub ts)
  | .mkIfc t x => .mkIfc t (x.sub ts)
  | .mkFn f a c => .mkFn f (subL ts a) (subL ts c)
  | .mkMap => .mkMap
  | .mkSl z b zero l c => .mkSl z b zero (l.sub ts) (c.sub ts)
  | .slArr n z x lo hi mx => .slArr n z (x.sub ts) (subO ts lo) (subO ts hi) (subO ts mx)
  | .slStr x lo hi => .slStr (x.sub ts) (subO ts lo) (subO ts hi)
  | .sl z x lo hi mx => .sl z (x.sub ts) (subO ts lo) (subO ts hi) (subO ts mx)
  | .fieldA off x => .fieldA off (x.sub ts)
  | .field off s g x => .field off s g (x.sub ts)
  | .idxArr n z x i => .idxArr n z (x.sub ts) (i.sub ts)
  | .idxSl z x i => .idxSl z (x.sub ts) (i.sub ts)
  | .ixAgg n z s g x i => .ixAgg n z s g (x.sub ts) (i.sub ts)
  | .ixStr x i => .ixStr (x.sub ts) (i.sub ts)
  | .look q z x k ok => .look q z (x.sub ts) (k.sub ts) ok
  | .upd q m k v => .upd q (m.sub ts) (k.sub ts) (v.sub ts)
  | .ext i x => .ext i (x.sub ts)
  | .tass a z ok x => .tass a z ok (x.sub ts)
  | .call f args => .call (f.sub ts) (subL ts args)
  | .append z b s x => .append z b (s.sub ts) (x.sub ts)
  | .lenS x => .lenS (x.sub ts)
  | .lenL x => .lenL (x.sub ts)
  | .lenM x => .lenM (x.sub ts)
  | .lenK n => .lenK n
  | .copy z d x => .copy z (d.sub ts) (x.sub ts)
  | .min x y => .min (x.sub ts) (y.sub ts)
  | .max x y => .max (x.sub ts) (y.sub ts)
  | .del q m k => .del q (m.sub ts) (k.sub ts)
  | .clear z zero x => .clear z zero (x.sub ts)
  | .recov => .recov
  | .defer f args => .defer (f.sub ts) (subL ts args)
  | .panic x => .panic (x.sub ts)
theorem ev_sub (ts t0 : TS) (x : Opd) : evA t0 (x.sub ts) = evA ts x := rfl
theorem subL_ev (ts t0 : TS) : ∀ l : List Opd, (subL ts l).map (evA t0) = l.map (evA ts)
  | [] => rfl
  | x :: r => by simp only [subL, List.map_cons, ev_sub, subL_ev ts t0 r]
theorem optNat_sub (ts t0 : TS) (d : Nat) (x : Option Opd) : optNat t0 d (subO ts x) = optNat ts d x := by cases x <;> rfl
theorem fillA_sub (ts t0 : TS) : ∀ (l : List (Nat × Nat × Opd)) (cs : List AV), fillA t0 cs (subP ts l) = fillA ts cs l
  | [], _ => rfl
  | (a, b, x) :: r, cs => by simp only [subP, fillA, ev_sub, fillA_sub ts t0 r]
theorem opA_sub (ts : TS) (h : H) (o : CO) : opA .leaf h (o.sub ts) = opA ts h o := by
  cases o with
  | build z ps => simp only [CO.sub, opA, oBuild, fillA_sub]
  | bslice n z cs ps => simp only [CO.sub, opA, oBslice, fillA_sub]
  | mkFn f a c => simp only [CO.sub, opA, subL_ev]
  | call f a => simp only [CO.sub, opA, oCall, subL_ev, ev_sub]
  | defer f a => simp only [CO.sub, opA, oDefer, subL_ev, ev_sub]
  | slArr n z x lo hi mx => cases lo <;> cases hi <;> cases mx <;> (simp only [CO.sub, opA, oSlArr, subO, ev_sub]; try rfl) <;> (split <;> simp_all [optNat, ev_sub])
  | slStr x lo hi => cases lo <;> cases hi <;> rfl
  | sl z x lo hi mx => cases lo <;> cases hi <;> cases mx <;> rfl
  | _ => rfl
/-! The machine. -/
inductive An where
  | n | t | f
  | v (d : Option Nat) (v : AV) (h : H)
  | w (d : Option Nat) (v : AV)
  | p (d : Option Nat) (v : AV)
  | l (ks : List Nat) (fl : Fl) (l1 : List (Nat × AV)) (h : H)
inductive VO (α : Type) where
  | ok (a : α) (ans : List An) (log : Lg)
  | ask (b : Bool) (left : List An)
  | no
def ofL : List (Nat × AV) → TS
  | [] => .leaf
  | (n, v) :: r => (ofL r).set n (some v)
structure GivesA (cx : Cx) (h : H) (o : CO) (v : AV) (h' : H) : Prop where
  run : opA .leaf h o = .val v h' ∨ (opA .leaf h o = .skip h' ∧ v = undefA) ∨ ∃ f args h1, opA .leaf h o = .call f args h1 ∧ Ca cx f args h1 v h'
def BdP (cx : Cx) (c : CC) (ts0 : TS) (h : H) (f : Fl) (ts1 : TS) (h1 : H) : Prop :=
  ∀ ts ds, Kn ts0 ts → ∃ ts', Kn ts1 ts' ∧ Ex cx c ⟨ts, ds, h⟩ f ⟨ts', ds, h1⟩
def pickTs (ts : TS) : List Nat → List (Nat × AV)
  | [] => []
  | n :: r => match ts.get n with
    | some v => (n, v) :: pickTs ts r
    | none => pickTs ts r
theorem ofL_pick {ts : TS} : ∀ l, Kn (ofL (pickTs ts l)) ts
  | [] => fun n v h => by simp [pickTs, ofL, Tr.get] at h
  | a :: r => by
    simp only [pickTs]
    split
    · next v hv =>
      intro n x h
      simp only [ofL, Tr.get_set] at h
      split at h
      · next e => subst e; rw [hv]; exact h
      · exact ofL_pick r n x h
    · exact ofL_pick r
def askV (b : Bool) (ans : List An) (log : Lg) : VO Bool :=
  match ans with
  | .n :: r => .ok b r log
  | .t :: r => .ok true r ((b = true) :: log)
  | .f :: r => .ok false r ((b = false) :: log)
  | _ => .ask b ans
def wantV (ts : TS) (o : CR) (ans : List An) (log : Lg) : VO Bool :=
  match o.guard with
  | none => .ok true ans log
  | some (d, want) => match ts.get d with
    | some (.bool b) => match askV b ans log with
      | .ok b ans log => .ok (b == want) ans log
      | .ask b l => .ask b l
      | .no => .no
    | some .any => .no
    | none => .no
    | _ => .ok false ans log
structure PureA (cx : Cx) (o : CO) (v : AV) : Prop where
  run : ∀ h, GivesA cx h o v h
def giveV (cx : Cx) (o : CO) (d : Option Nat) (h0 : H) : List An → Option (AV × H × List An × Prop)
  | .v d' v h :: r => match sameN d d' with
    | true => some (v, h, r, GivesA cx h0 o v h)
    | false => none
  | .w d' v :: r => match sameN d d' with
    | true => some (v, h0, r, GivesA cx h0 o v h0)
    | false => none
  | .p d' v :: r => match sameN d d' with
    | true => some (v, h0, r, PureA cx o v)
    | false => none
  | _ => none
theorem giveV_ok {cx : Cx} {o : CO} {d : Option Nat} {h0 h : H} {v : AV} {l r : List An} {p : Prop} (e : giveV cx o d h0 l = some (v, h, r, p)) (hp : p) : GivesA cx h0 o v h := by
  unfold giveV at e
  split at e
  · split at e
    · cases e; exact hp
    · cases e
  · split at e
    · cases e; exact hp
    · cases e
  · split at e
    · cases e; exact hp.run _
    · cases e
  · cases e
def genV (cl : Nat → List AV → H → List An → Lg → VO (AV × H)) (o : CO) (ts : TS) (h : H) (ans : List An) (log : Lg) : VO (AV × H) :=
  match opA ts h o with
  | .val v h => .ok (v, h) ans log
  | .skip h => .ok (undefA, h) ans log
  | .call f args h => cl f args h ans log
  | _ => .no
def doV (cx : Cx) (cl : Nat → List AV → H → List An → Lg → VO (AV × H)) (d : Option Nat) (o : CO) (ts : TS) (h : H) (ans : List An) (log : Lg) : VO (AV × H) :=
  match giveV cx (o.sub ts) d h ans with
  | some (v, h', r, p) => .ok (v, h') r (p :: log)
  | none => match o with
    | .pick c a b => match evA ts c with
      | .bool x => match askV x ans log with
        | .ok true ans log => .ok (evA ts a, h) ans log
        | .ok false ans log => .ok (evA ts b, h) ans log
        | .ask b l => .ask b l
        | .no => .no
      | _ => .no
    | .bin op c x y => match isDiv op with
      | true => match evA ts x, evA ts y with
        | .int k a, .int k' b => match kindEq k k', askV (decide (b = 0)) ans log with
          | true, .ok false ans log => .ok (divV op k a b, h) ans log
          | true, .ask b l => .ask b l
          | _, _ => .no
        | _, _ => .no
      | false => genV cl (.bin op c x y) ts h ans log
    | o => genV cl o ts h ans log
def stepV (cx : Cx) (cl : Nat → List AV → H → List An → Lg → VO (AV × H)) (o : CR) (ts : TS) (h : H) (ans : List An) (log : Lg) : VO (AV × H) :=
  match wantV ts o ans log with
  | .ok true ans log => match knows ts o.op.slots with
    | true => doV cx cl o.dst o.op ts h ans log
    | false => .no
  | .ok false ans log => .ok (undefA, h) ans log
  | .ask b l => .ask b l
  | .no => .no
def regV (cx : Cx) (cl : Nat → List AV → H → List An → Lg → VO (AV × H)) : List CR → TS → H → List An → Lg → VO (Fl × TS × H)
  | [], ts, h, ans, log => .ok (.norm, ts, h) ans log
  | o :: rest, ts, h, ans, log => match stepV cx cl o ts h ans log with
    | .ok (v, h) ans log => regV cx cl rest (putT ts o.dst v) h ans log
    | .ask b l => .ask b l
    | .no => .no
def traceV (cx : Cx) (cl : Nat → List AV → H → List An → Lg → VO (AV × H)) : List CR → TS → H → List An → Lg → VO (List (TS × H × AV))
  | [], ts, h, ans, log => .ok [(ts, h, undefA)] ans log
  | o :: rest, ts, h, ans, log => match stepV cx cl o ts h ans log with
    | .ok (v, h') ans log => match traceV cx cl rest (putT ts o.dst v) h' ans log with
      | .ok l ans log => .ok ((ts, h, v) :: l) ans log
      | .ask b l => .ask b l
      | .no => .no
    | .ask b l => .ask b l
    | .no => .no
structure ReadsV (h : H) (o : CO) (v : AV) : Prop where
  run : ∃ h2, opA .leaf h o = .val v h2
def holdsV (o : CR) (ts : TS) (v : AV) (l : List (TS × H × AV)) : List Nat → Option (List Prop)
  | [] => some []
  | q :: qs => match l[q]? with
    | some (_, h, _) => match holdsV o ts v l qs with
      | some ps => some (ReadsV h (o.op.sub ts) v :: ps)
      | none => none
    | none => none
def held1V (l : List (TS × H × AV)) (o : CR) (ts : TS) (h : H) (v : AV) : Option (List Prop) :=
  match isReads o, o.win, wantedA ts o with
  | true, _ :: _, true => match okA v, holdsV o ts v l o.win with
    | true, some ps => some (ReadsV h (o.op.sub ts) v :: ps)
    | _, _ => none
  | _, _, _ => some []
def heldV (all : List (TS × H × AV)) : List CR → List (TS × H × AV) → Option (List Prop)
  | o :: rest, (ts, h, v) :: l => match held1V all o ts h v, heldV all rest l with
    | some a, some b => some (a ++ b)
    | _, _ => none
  | _, _ => some []
def knowsAt (ops : List CR) (l : List (TS × H × AV)) (i : Nat) : Bool :=
  match ops[i]?, l[i]? with
  | some o, some (ts, _, _) => knows ts o.op.slots
  | _, _ => false
def pairs : List (TS × H × AV) → List (TS × H)
  | [] => []
  | (a, b, _) :: r => (a, b) :: pairs r
def twoV (ops : List CR) (l : List (TS × H × AV)) : Option (Nat × Nat) → Bool
  | none => true
  | some (i, j) => match knowsAt ops l i, knowsAt ops l j with
    | true, true => twoOk ops (pairs l) (some (i, j))
    | _, _ => false
def drawV (cx : Cx) (cl : Nat → List AV → H → List An → Lg → VO (AV × H)) (ops : List CR) (two : Option (Nat × Nat)) (ts : TS) (h : H) (ans : List An) (log : Lg) : VO (Fl × TS × H) :=
  match traceV cx cl ops ts h ans log with
  | .ok l ans log => match heldV l ops l with
    | some ps => match twoV ops l two, l.getLast? with
      | true, some (ts, h, _) => .ok (.norm, ts, h) ans (ps ++ log)
      | _, _ => .no
    | none => .no
  | .ask b l => .ask b l
  | .no => .no
structure LV where
  exec : CC → TS → H → List An → Lg → VO (Fl × TS × H)
  call : Nat → List AV → H → List An → Lg → VO (AV × H)
def knowsR (ts : TS) : List (Nat × Option (Nat × Bool)) → Bool
  | [] => true
  | (t, _) :: r => match hasT ts t with
    | true => knowsR ts r
    | false => false
def execLV (cx : Cx) (L : LV) (c : CC) (ts : TS) (h : H) (ans : List An) (log : Lg) : VO (Fl × TS × H) :=
  match c with
  | .skip => .ok (.norm, ts, h) ans log
  | .reg ops => regV cx L.call ops ts h ans log
  | .draw ops two => drawV cx L.call ops two ts h ans log
  | .seq a b => match L.exec a ts h ans log with
    | .ok (.norm, ts, h) ans log => L.exec b ts h ans log
    | r => r
  | .cond c t e => match knows ts c.sl, evA ts c with
    | true, .bool b => match askV b ans log with
      | .ok b ans log => L.exec (match b with | true => t | false => e) ts h ans log
      | .ask b l => .ask b l
      | .no => .no
    | _, _ => .no
  | .block id body => match L.exec body ts h ans log with
    | .ok (.exit i, ts, h) ans log => match Nat.beq i id with
      | true => .ok (.norm, ts, h) ans log
      | false => .ok (.exit i, ts, h) ans log
    | r => r
  | .loop body => match ans with
    | .l ks f l1 h1 :: r => .ok (f, ofL l1, h1) r (BdP cx (.loop body) (ofL (pickTs ts ks)) h f (ofL l1) h1 :: log)
    | _ => match L.exec body ts h ans log with
      | .ok (.norm, ts, h) ans log => L.exec (.loop body) ts h ans log
      | r => r
  | .exit id => .ok (.exit id, ts, h) ans log
  | .ret => .ok (.ret, ts, h) ans log
def callLV (cx : Cx) (L : LV) (f : Nat) (args : List AV) (h : H) (ans : List An) (log : Lg) : VO (AV × H) :=
  match cx.ext f with
  | some e => match e args h with
    | some (v, h') => .ok (v, h') ans log
    | none => .no
  | none => match cx.fn f with
    | some fn => match Nat.ble args.length fn.ntmps, L.exec fn.body (putArgs args 0 .leaf) h ans log with
      | true, .ok (.norm, ts, h) ans log | true, .ok (.ret, ts, h) ans log => match knowsR ts fn.results, resA ts h fn.results with
        | true, some l => .ok (tupA l, h) ans log
        | _, _ => .no
      | true, .ask b l => .ask b l
      | _, _ => .no
    | none => .no
def levV (cx : Cx) : Nat → LV
  | 0 => { exec := fun _ _ _ _ _ => .no, call := fun _ _ _ _ _ => .no }
  | n + 1 => { exec := execLV cx (levV cx n), call := callLV cx (levV cx n) }
end Go.Ab
namespace Go.Ab
theorem askV_ok {b x : Bool} {ans ans' : List An} {log log' : Lg} (h : askV b ans log = .ok x ans' log') (hl : AllL log') : AllL log ∧ b = x := by
  unfold askV at h
  split at h
  · cases h; exact ⟨hl, rfl⟩
  · cases h; exact ⟨fun p hp => hl p (List.mem_cons_of_mem _ hp), hl _ (List.mem_cons_self ..)⟩
  · cases h; exact ⟨fun p hp => hl p (List.mem_cons_of_mem _ hp), hl _ (List.mem_cons_self ..)⟩
  · cases h
section
variable {cx : Cx}
def ClV (cx : Cx) (co : Nat → List AV → H → List An → Lg → VO (AV × H)) : Prop :=
  ∀ f args h ans log v h' ans' log', co f args h ans log = .ok (v, h') ans' log' → AllL log' → AllL log ∧ Ca cx f args h v h'
theorem wantV_ok {ts : TS} {o : CR} {ans ans' : List An} {log log' : Lg} {x : Bool} (h : wantV ts o ans log = .ok x ans' log') (hl : AllL log') :
    AllL log ∧ ∀ tr, Kn ts tr → guardOk tr o = true ∧ wantedA tr o = x := by
  unfold wantV at h
  unfold guardOk wantedA
  split at h
  · next hg => cases h; simp only [hg]; exact ⟨hl, fun _ _ => ⟨trivial, trivial⟩⟩
  · next d want hg =>
    simp only [hg]
    split at h
    · next b hb =>
      split at h
      · next ha => cases h; obtain ⟨h1, h2⟩ := askV_ok ha hl; subst h2; exact ⟨h1, fun tr hk => by simp only [hk _ _ hb]; exact ⟨trivial, trivial⟩⟩
      · cases h
      · cases h
    · cases h
    · cases h
    · next v h1 h2 h3 =>
      cases h
      refine ⟨hl, fun tr hk => ?_⟩
      cases hq : ts.get d with
      | none => exact absurd hq h3
      | some v =>
        simp only [hk _ _ hq]
        cases v <;> first | exact ⟨rfl, rfl⟩ | exact absurd hq h2 | exact absurd hq (h1 _)
def DoesV (cx : Cx) (ts : TS) (h : H) (o : CO) (v : AV) (h' : H) : Prop :=
  opA ts h o = .val v h' ∨ (opA ts h o = .skip h' ∧ v = undefA) ∨ ∃ f args h1, opA ts h o = .call f args h1 ∧ Ca cx f args h1 v h'
theorem genV_ok {co : Nat → List AV → H → List An → Lg → VO (AV × H)} (hc : ClV cx co) {o : CO} {ts : TS} {h h' : H} {v : AV} {ans ans' : List An} {log log' : Lg} (e : genV co o ts h ans log = .ok (v, h') ans' log') (hl : AllL log') :
    AllL log ∧ DoesV cx ts h o v h' := by
  unfold genV at e
  split at e
  · next ho => cases e; exact ⟨hl, .inl ho⟩
  · next ho => cases e; exact ⟨hl, .inr (.inl ⟨ho, rfl⟩)⟩
  · next ho => obtain ⟨h1, h2⟩ := hc _ _ _ _ _ _ _ _ _ e hl; exact ⟨h1, .inr (.inr ⟨_, _, _, ho, h2⟩)⟩
  · cases e
theorem doV_ok {co : Nat → List AV → H → List An → Lg → VO (AV × H)} (hc : ClV cx co) {d : Option Nat} {o : CO} {ts : TS} {h h' : H} {v : AV} {ans ans' : List An} {log log' : Lg} (e : doV cx co d o ts h ans log = .ok (v, h') ans' log') (hl : AllL log') :
    AllL log ∧ DoesV cx ts h o v h' := by
  unfold doV at e
  split at e
  · next hg =>
    cases e
    refine ⟨fun p hp => hl p (List.mem_cons_of_mem _ hp), ?_⟩
    have := (giveV_ok hg (hl _ (List.mem_cons_self ..))).run
    rw [opA_sub] at this
    exact this
  · next hgn =>
    clear hgn
    split at e
    · next c a b =>
      split at e
      · next x hx =>
        split at e
        · next ha => cases e; obtain ⟨h1, h2⟩ := askV_ok ha hl; subst h2; exact ⟨h1, .inl (by simp only [opA, oPick, hx])⟩
        · next ha => cases e; obtain ⟨h1, h2⟩ := askV_ok ha hl; subst h2; exact ⟨h1, .inl (by simp only [opA, oPick, hx])⟩
        · cases e
        · cases e
      · cases e
    · next op c x y =>
      split at e
      · next hop =>
        split at e
        · next k a k' b hx hy =>
          split at e
          · next hk ha =>
            cases e
            obtain ⟨h1, h2⟩ := askV_ok ha hl
            have hb : ¬ b = 0 := of_decide_eq_false h2
            refine ⟨h1, .inl ?_⟩
            cases op <;> first | (cases hop; done) | simp only [opA, hx, hy, binA, isShift, hk, intBin, if_neg hb, ofO, divV]
          · cases e
          · cases e
        · cases e
      · exact genV_ok hc e hl
    · exact genV_ok hc e hl
def StepR (cx : Cx) (o : CR) (tr : TS) (h : H) (v : AV) (h' : H) : Prop :=
  guardOk tr o = true ∧ ((wantedA tr o = false ∧ v = undefA ∧ h' = h) ∨ (wantedA tr o = true ∧ DoesV cx tr h o.op v h'))
theorem stepV_ok {co : Nat → List AV → H → List An → Lg → VO (AV × H)} (hc : ClV cx co) {o : CR} {ts : TS} {h h' : H} {v : AV} {ans ans' : List An} {log log' : Lg} (e : stepV cx co o ts h ans log = .ok (v, h') ans' log') (hl : AllL log') :
    AllL log ∧ ∀ tr, Kn ts tr → StepR cx o tr h v h' := by
  unfold stepV at e
  split at e
  · next hw =>
    split at e
    · next hk =>
      obtain ⟨h1, h2⟩ := doV_ok hc e hl
      obtain ⟨h3, h4⟩ := wantV_ok hw h1
      refine ⟨h3, fun tr hkn => ⟨(h4 tr hkn).1, .inr ⟨(h4 tr hkn).2, ?_⟩⟩⟩
      unfold DoesV
      rw [opA_congr (hkn.same hk)]
      exact h2
    · cases e
  · next hw =>
    cases e
    obtain ⟨h3, h4⟩ := wantV_ok hw hl
    exact ⟨h3, fun tr hkn => ⟨(h4 tr hkn).1, .inl ⟨(h4 tr hkn).2, rfl, rfl⟩⟩⟩
  · cases e
  · cases e
theorem StepR.rg {o : CR} {tr : TS} {ds : List (Nat × List AV)} {h h' : H} {v : AV} {rest : List CR} {s' : S} (hs : StepR cx o tr h v h') (hr : Rg cx rest ⟨putT tr o.dst v, ds, h'⟩ s') : Rg cx (o :: rest) ⟨tr, ds, h⟩ s' := by
  obtain ⟨hg, hs⟩ := hs
  rcases hs with ⟨hw, rfl, rfl⟩ | ⟨hw, ho | ⟨ho, rfl⟩ | ⟨f, args, h1, ho, hc⟩⟩
  · exact Rg.un hg hw hr
  · exact Rg.val hg hw ho hr
  · exact Rg.skip hg hw ho hr
  · exact Rg.call hg hw ho hc hr
theorem regV_ok {co : Nat → List AV → H → List An → Lg → VO (AV × H)} (hc : ClV cx co) : ∀ {ops : List CR} {ts ts' : TS} {h h' : H} {f : Fl} {ans ans' : List An} {log log' : Lg}, regV cx co ops ts h ans log = .ok (f, ts', h') ans' log' → AllL log' →
    AllL log ∧ f = .norm ∧ ∀ tr ds, Kn ts tr → ∃ tr', Kn ts' tr' ∧ Rg cx ops ⟨tr, ds, h⟩ ⟨tr', ds, h'⟩ := by
  intro ops
  induction ops with
  | nil => intro ts ts' h h' f ans ans' log log' e hl; cases e; exact ⟨hl, rfl, fun tr ds hk => ⟨tr, hk, Rg.nil⟩⟩
  | cons o rest ih =>
    intro ts ts' h h' f ans ans' log log' e hl
    simp only [regV] at e
    split at e
    · next hs =>
      obtain ⟨h1, h2, h3⟩ := ih e hl
      obtain ⟨h4, h5⟩ := stepV_ok hc hs h1
      refine ⟨h4, h2, fun tr ds hk => ?_⟩
      obtain ⟨tr', hk', hr⟩ := h3 _ ds (hk.put o.dst _)
      exact ⟨tr', hk', (h5 tr hk).rg hr⟩
    · cases e
    · cases e
theorem StepR.res {o : CR} {tr : TS} {h h' : H} {v : AV} (hs : StepR cx o tr h v h') : ∃ n, ∀ m, n ≤ m → resD (lev cx m).call o tr h = some (v, h') := by
  obtain ⟨hg, hs⟩ := hs
  rcases hs with ⟨hw, rfl, rfl⟩ | ⟨hw, ho | ⟨ho, rfl⟩ | ⟨f, args, h1, ho, hc⟩⟩
  · exact ⟨0, fun m _ => by simp only [resD, hg, hw]⟩
  · exact ⟨0, fun m _ => by simp only [resD, hg, hw, ho]⟩
  · exact ⟨0, fun m _ => by simp only [resD, hg, hw, ho]⟩
  · obtain ⟨n, e⟩ := hc.run
    exact ⟨n, fun m hm => by simp only [resD, hg, hw, ho, ca_le hm e]⟩
inductive TrR : List CR → List (TS × H × AV) → List (TS × H) → Prop
  | last {ts tr : TS} {h : H} {v : AV} (hk : Kn ts tr) : TrR [] [(ts, h, v)] [(tr, h)]
  | step {o : CR} {rest : List CR} {ts tr : TS} {h : H} {v : AV} {l : List (TS × H × AV)} {l' : List (TS × H)} (hk : Kn ts tr) (hr : TrR rest l l') : TrR (o :: rest) ((ts, h, v) :: l) ((tr, h) :: l')
theorem traceV_ok {co : Nat → List AV → H → List An → Lg → VO (AV × H)} (hc : ClV cx co) : ∀ {ops : List CR} {ts : TS} {h : H} {l : List (TS × H × AV)} {ans ans' : List An} {log log' : Lg}, traceV cx co ops ts h ans log = .ok l ans' log' → AllL log' →
    AllL log ∧ ∀ tr, Kn ts tr → ∃ l', TrR ops l l' ∧ ∃ n, ∀ m, n ≤ m → traceD (lev cx m).call ops tr h = some l' := by
  intro ops
  induction ops with
  | nil => intro ts h l ans ans' log log' e hl; cases e; exact ⟨hl, fun tr hk => ⟨_, .last hk, 0, fun m _ => rfl⟩⟩
  | cons o rest ih =>
    intro ts h l ans ans' log log' e hl
    simp only [traceV] at e
    split at e
    · next hs =>
      split at e
      · next ht =>
        cases e
        obtain ⟨h1, h2⟩ := ih ht hl
        obtain ⟨h4, h5⟩ := stepV_ok hc hs h1
        refine ⟨h4, fun tr hk => ?_⟩
        obtain ⟨l', hl', n, hn⟩ := h2 _ (hk.put o.dst _)
        obtain ⟨n2, hn2⟩ := (h5 tr hk).res
        refine ⟨(tr, h) :: l', .step hk hl', n + n2, fun m hm => ?_⟩
        simp only [traceD, hn2 m (by omega), hn m (by omega)]
      · cases e
      · cases e
    · cases e
    · cases e
theorem TrR.get {ops : List CR} {l : List (TS × H × AV)} {l' : List (TS × H)} (r : TrR ops l l') : ∀ {i : Nat} {ts : TS} {h : H} {v : AV}, l[i]? = some (ts, h, v) → ∃ tr, Kn ts tr ∧ l'[i]? = some (tr, h) := by
  induction r with
  | last hk =>
    intro i ts h v e
    cases i with
    | zero => simp at e; obtain ⟨rfl, rfl, rfl⟩ := e; exact ⟨_, hk, rfl⟩
    | succ i => simp at e
  | step hk hr ih =>
    intro i ts h v e
    cases i with
    | zero => simp at e; obtain ⟨rfl, rfl, rfl⟩ := e; exact ⟨_, hk, rfl⟩
    | succ i => simp at e; obtain ⟨tr, h1, h2⟩ := ih e; exact ⟨tr, h1, by simpa using h2⟩
theorem TrR.last? {ops : List CR} {l : List (TS × H × AV)} {l' : List (TS × H)} (r : TrR ops l l') : ∀ {ts : TS} {h : H} {v : AV}, l.getLast? = some (ts, h, v) → ∃ tr, Kn ts tr ∧ l'.getLast? = some (tr, h) := by
  induction r with
  | last hk => intro ts h v e; simp at e; obtain ⟨rfl, rfl, rfl⟩ := e; exact ⟨_, hk, rfl⟩
  | step hk hr ih =>
    intro ts h v e
    cases hr with
    | last hk2 => simp at e; obtain ⟨rfl, rfl, rfl⟩ := e; exact ⟨_, hk2, by simp⟩
    | step hk2 hr2 =>
      simp only [List.getLast?_cons_cons] at e ⊢
      exact ih e
theorem holdsV_ok {o : CR} {ts tr : TS} (hsub : ∀ h, opA tr h o.op = opA .leaf h (o.op.sub ts)) {v : AV} {ops : List CR} {l : List (TS × H × AV)} {l' : List (TS × H)} (r : TrR ops l l') (hv : okA v = true) : ∀ {qs : List Nat} {ps : List Prop}, holdsV o ts v l qs = some ps → (∀ p ∈ ps, p) → holdsAt o tr v l' qs = true := by
  intro qs
  induction qs with
  | nil => intro ps h hp; rfl
  | cons q qs ih =>
    intro ps h hp
    unfold holdsV at h
    split at h
    · next h1 _ hq =>
      split at h
      · next ps1 hps =>
        cases h
        obtain ⟨h2, e⟩ := (hp _ (List.mem_cons_self ..)).run
        obtain ⟨_, _, hq'⟩ := r.get hq
        unfold holdsAt
        simp only [hq', hsub, e, sameA_refl hv]
        exact ih hps (fun p h => hp p (List.mem_cons_of_mem _ h))
      · cases h
    · cases h
theorem held1V_ok {o : CR} {ts tr : TS} {h : H} {v : AV} {h' : H} {ops : List CR} {l : List (TS × H × AV)} {l' : List (TS × H)} (r : TrR ops l l') {ps : List Prop} (e : held1V l o ts h v = some ps) (hp : ∀ p ∈ ps, p) (hk : Kn ts tr) (hd : StepR cx o tr h v h')
    (hkk : wantedA ts o = true → knows ts o.op.slots = true) (hgo : guardOk ts o = true) : held1 l' o tr h = true := by
  unfold held1V at e
  unfold held1
  split
  · next q qs h1 h2 h3 =>
    have hw : wantedA ts o = true := by
      cases hw : wantedA ts o with
      | true => rfl
      | false =>
        exfalso
        unfold wantedA at hw h3
        unfold guardOk at hgo
        cases hg : o.guard with
        | none => rw [hg] at hw; cases hw
        | some p =>
          obtain ⟨d, want⟩ := p
          rw [hg] at hw h3 hgo
          simp only [] at hw h3 hgo
          cases hq : ts.get d with
          | none => rw [hq] at hgo; cases hgo
          | some x =>
            rw [hk _ _ hq] at h3
            rw [hq] at hw
            cases x <;> first | (cases h3; done) | (simp only [] at hw h3; rw [hw] at h3; cases h3)
    simp only [h1, hw] at e
    rw [h2] at e
    simp only [] at e
    split at e
    · next ps1 hv hps =>
      cases e
      have hsub : ∀ h, opA tr h o.op = opA .leaf h (o.op.sub ts) := fun h => by rw [opA_sub, opA_congr (hk.same (hkk hw))]
      obtain ⟨h5, e5⟩ := (hp _ (List.mem_cons_self ..)).run
      rw [hsub, e5]
      exact h2 ▸ holdsV_ok hsub r hv hps (fun p h => hp p (List.mem_cons_of_mem _ h))
    · cases e
  · rfl
theorem heldV_ok {co : Nat → List AV → H → List An → Lg → VO (AV × H)} (hc : ClV cx co) {opsA : List CR} {all : List (TS × H × AV)} {all' : List (TS × H)} (ra : TrR opsA all all') : ∀ {ops : List CR} {ts : TS} {h : H} {l : List (TS × H × AV)} {l' : List (TS × H)} {ans ans' : List An} {log log' : Lg},
    traceV cx co ops ts h ans log = .ok l ans' log' → AllL log' → TrR ops l l' → ∀ {ps : List Prop}, heldV all ops l = some ps → (∀ p ∈ ps, p) → heldD all' ops l' = true := by
  intro ops
  induction ops with
  | nil => intro ts h l l' ans ans' log log' e hl r ps hh hp; cases r; rfl
  | cons o rest ih =>
    intro ts h l l' ans ans' log log' e hl r ps hh hp
    simp only [traceV] at e
    split at e
    · next v h' an lg hs =>
      split at e
      · next l1 an2 lg2 ht =>
        cases e
        cases r with
        | step hk hr =>
          next tr l1' =>
          unfold heldV at hh
          split at hh
          · next a b ha hb =>
            cases hh
            have hlog := (traceV_ok hc ht hl).1
            obtain ⟨_, hst⟩ := stepV_ok hc hs hlog
            have hkk : wantedA ts o = true → knows ts o.op.slots = true := by
              intro hw
              unfold stepV at hs
              split at hs
              · split at hs
                · next hk => exact hk
                · cases hs
              · next hw2 =>
                cases hs
                have := ((wantV_ok hw2 hlog).2 ts (Kn.refl ts)).2
                rw [hw] at this; cases this
              · cases hs
              · cases hs
            have hgo : guardOk ts o = true := (hst ts (Kn.refl ts)).1
            unfold heldD
            rw [held1V_ok ra ha (fun p h => hp p (List.mem_append_left _ h)) hk (hst _ hk) hkk hgo]
            exact ih ht hl hr hb (fun p h => hp p (List.mem_append_right _ h))
          · cases hh
      · cases e
      · cases e
    · cases e
    · cases e
theorem pairs_get : ∀ {l : List (TS × H × AV)} {i : Nat} {ts : TS} {h : H} {v : AV}, l[i]? = some (ts, h, v) → (pairs l)[i]? = some (ts, h)
  | [], i, ts, h, v, e => by simp at e
  | (a, b, c) :: l, 0, ts, h, v, e => by simp at e; obtain ⟨rfl, rfl, rfl⟩ := e; rfl
  | (a, b, c) :: l, i + 1, ts, h, v, e => by simp at e; simpa [pairs] using pairs_get e
theorem blockAt_kn {ops opsA : List CR} {l : List (TS × H × AV)} {l' : List (TS × H)} (r : TrR opsA l l') {i : Nat} (hk : knowsAt ops l i = true) : blockAt ops l' i = blockAt ops (pairs l) i := by
  unfold knowsAt at hk
  split at hk
  · next o ts h v ho hl =>
    obtain ⟨tr, hkn, hl'⟩ := r.get hl
    have hp := pairs_get hl
    unfold blockAt
    simp only [ho, hl', hp]
    cases e : o.op <;> try rfl
    next s a x =>
      simp only []
      have h1 := hkn.same hk
      rw [e] at h1
      rw [evA_same (x := a) (ts := tr) (ts' := ts) (SameOn.left h1)]
  · cases hk
theorem twoV_ok {ops opsA : List CR} {l : List (TS × H × AV)} {l' : List (TS × H)} (r : TrR opsA l l') {two : Option (Nat × Nat)} (h : twoV ops l two = true) : twoOk ops l' two = true := by
  cases two with
  | none => rfl
  | some p =>
    obtain ⟨i, j⟩ := p
    simp only [twoV] at h
    split at h
    · next hi hj =>
      simp only [twoOk] at h ⊢
      rw [blockAt_kn r hi, blockAt_kn r hj]
      exact h
    · cases h
theorem drawV_ok {co : Nat → List AV → H → List An → Lg → VO (AV × H)} (hc : ClV cx co) {ops : List CR} {two : Option (Nat × Nat)} {ts ts' : TS} {h h' : H} {f : Fl} {ans ans' : List An} {log log' : Lg} (e : drawV cx co ops two ts h ans log = .ok (f, ts', h') ans' log') (hl : AllL log') :
    AllL log ∧ BdP cx (.draw ops two) ts h f ts' h' := by
  unfold drawV at e
  split at e
  · next l an lg ht =>
    split at e
    · next ps ha =>
      split at e
      · next ts1 h1 v1 h2 h3 =>
        cases e
        have hps : ∀ p ∈ ps, p := fun p h => hl p (List.mem_append_left _ h)
        have hlg : AllL lg := fun p h => hl p (List.mem_append_right _ h)
        obtain ⟨h6, h7⟩ := traceV_ok hc ht hlg
        refine ⟨h6, fun tr ds hk => ?_⟩
        obtain ⟨l', hr, n, hn⟩ := h7 tr hk
        obtain ⟨tr', hk', hlast⟩ := hr.last? h3
        refine ⟨tr', hk', Ex.draw n ?_⟩
        simp only [drawA, hn n (Nat.le_refl n), heldV_ok hc hr ht hlg hr ha hps, twoV_ok hr h2, hlast]
      · cases e
    · cases e
  · cases e
  · cases e
theorem knowsR_all {ts tr : TS} {h : H} (hk : Kn ts tr) : ∀ {rs : List (Nat × Option (Nat × Bool))}, knowsR ts rs = true → resA tr h rs = resA ts h rs := by
  intro rs
  induction rs with
  | nil => intro _; rfl
  | cons p r ih =>
    intro e
    obtain ⟨t, o⟩ := p
    simp only [knowsR] at e
    split at e
    · next ht =>
      have hev : evA tr (.t t) = evA ts (.t t) := by
        unfold hasT at ht
        split at ht
        · next v hv => simp only [evA, hv, hk _ _ hv]
        · cases ht
      cases o with
      | none => simp only [resA, hev, ih e]
      | some q => obtain ⟨a, b⟩ := q; simp only [resA, hev, ih e]
    · cases e
theorem levV_ok (cx : Cx) : ∀ n : Nat, (∀ c ts h ans log f ts' h' ans' log', (levV cx n).exec c ts h ans log = .ok (f, ts', h') ans' log' → AllL log' → AllL log ∧ BdP cx c ts h f ts' h') ∧ ClV cx (levV cx n).call := by
  intro n
  induction n with
  | zero => exact ⟨fun _ _ _ _ _ _ _ _ _ _ h => (by cases h), fun _ _ _ _ _ _ _ _ _ h => (by cases h)⟩
  | succ n ih =>
    obtain ⟨ih, ihc⟩ := ih
    constructor
    · intro c ts h ans log f ts' h' ans' log' e hl
      change execLV cx (levV cx n) c ts h ans log = _ at e
      cases c with
      | skip => cases e; exact ⟨hl, fun tr ds hk => ⟨tr, hk, Ex.skip⟩⟩
      | reg ops =>
        obtain ⟨h1, rfl, h3⟩ := regV_ok ihc e hl
        exact ⟨h1, fun tr ds hk => let ⟨tr', a, b⟩ := h3 tr ds hk; ⟨tr', a, Ex.reg b⟩⟩
      | draw ops two => exact drawV_ok ihc e hl
      | seq a b =>
        simp only [execLV] at e
        split at e
        · next ha =>
          obtain ⟨h1, h2⟩ := ih _ _ _ _ _ _ _ _ _ _ e hl
          obtain ⟨h3, h4⟩ := ih _ _ _ _ _ _ _ _ _ _ ha h1
          refine ⟨h3, fun tr ds hk => ?_⟩
          obtain ⟨t1, k1, e1⟩ := h4 tr ds hk
          obtain ⟨t2, k2, e2⟩ := h2 t1 ds k1
          exact ⟨t2, k2, Ex.seq e1 e2⟩
        · next hn =>
          obtain ⟨h3, h4⟩ := ih _ _ _ _ _ _ _ _ _ _ e hl
          refine ⟨h3, fun tr ds hk => ?_⟩
          obtain ⟨t1, k1, e1⟩ := h4 tr ds hk
          exact ⟨t1, k1, Ex.stop e1 (fun hf => by subst hf; exact hn _ _ _ _ e)⟩
      | cond c t e1 =>
        simp only [execLV] at e
        split at e
        · next b hkn hb =>
          split at e
          · next ha =>
            obtain ⟨h1, h2⟩ := ih _ _ _ _ _ _ _ _ _ _ e hl
            obtain ⟨h3, h4⟩ := askV_ok ha h1
            subst h4
            refine ⟨h3, fun tr ds hk => ?_⟩
            obtain ⟨t1, k1, e1⟩ := h2 tr ds hk
            have hev : evA tr c = .bool b := by rw [evA_same (hk.same hkn)]; exact hb
            refine ⟨t1, k1, ?_⟩
            cases b with
            | true => exact Ex.condT hev e1
            | false => exact Ex.condF hev e1
          · cases e
          · cases e
        · cases e
      | block id body =>
        simp only [execLV] at e
        split at e
        · next ha =>
          split at e
          · next hq =>
            cases e
            obtain ⟨h3, h4⟩ := ih _ _ _ _ _ _ _ _ _ _ ha hl
            refine ⟨h3, fun tr ds hk => ?_⟩
            obtain ⟨t1, k1, e1⟩ := h4 tr ds hk
            exact ⟨t1, k1, Ex.bl e1 (.hit hq)⟩
          · next hq =>
            cases e
            obtain ⟨h3, h4⟩ := ih _ _ _ _ _ _ _ _ _ _ ha hl
            refine ⟨h3, fun tr ds hk => ?_⟩
            obtain ⟨t1, k1, e1⟩ := h4 tr ds hk
            exact ⟨t1, k1, Ex.bl e1 (.out hq)⟩
        · next hn =>
          obtain ⟨h3, h4⟩ := ih _ _ _ _ _ _ _ _ _ _ e hl
          refine ⟨h3, fun tr ds hk => ?_⟩
          obtain ⟨t1, k1, e1⟩ := h4 tr ds hk
          refine ⟨t1, k1, ?_⟩
          cases f with
          | norm => exact Ex.bl e1 .norm
          | ret => exact Ex.bl e1 .ret
          | exit i => exact absurd e (hn _ _ _ _ _)
          | pan v =>
            obtain ⟨m, em⟩ := e1.run
            refine ⟨⟨m + 1, ?_⟩⟩
            show execL cx (lev cx m) (.block id body) _ .off = _
            simp only [execL, em, isOn]
      | loop body =>
        simp only [execLV] at e
        split at e
        · next ks f1 l1 h1 r =>
          cases e
          refine ⟨fun p hp => hl p (List.mem_cons_of_mem _ hp), fun tr ds hk => ?_⟩
          exact hl _ (List.mem_cons_self ..) tr ds ((ofL_pick _).trans hk)
        · split at e
          · next ha =>
            obtain ⟨h1, h2⟩ := ih _ _ _ _ _ _ _ _ _ _ e hl
            obtain ⟨h3, h4⟩ := ih _ _ _ _ _ _ _ _ _ _ ha h1
            refine ⟨h3, fun tr ds hk => ?_⟩
            obtain ⟨t1, k1, e1⟩ := h4 tr ds hk
            obtain ⟨t2, k2, e2⟩ := h2 t1 ds k1
            exact ⟨t2, k2, Ex.loopNext e1 e2⟩
          · next hn =>
            obtain ⟨h3, h4⟩ := ih _ _ _ _ _ _ _ _ _ _ e hl
            refine ⟨h3, fun tr ds hk => ?_⟩
            obtain ⟨t1, k1, e1⟩ := h4 tr ds hk
            exact ⟨t1, k1, Ex.loopStop e1 (fun hf => by subst hf; exact hn _ _ _ _ e)⟩
      | exit id => cases e; exact ⟨hl, fun tr ds hk => ⟨tr, hk, Ex.exit⟩⟩
      | ret => cases e; exact ⟨hl, fun tr ds hk => ⟨tr, hk, Ex.ret⟩⟩
    · intro f args h ans log v h' ans' log' e hl
      change callLV cx (levV cx n) f args h ans log = _ at e
      unfold callLV at e
      split at e
      · next e1 he =>
        split at e
        · next hv => cases e; exact ⟨hl, Ca.ext he hv⟩
        · cases e
      · next he =>
        split at e
        · next fn hf =>
          split at e
          · next hb hx =>
            split at e
            · next hd hr =>
              cases e
              obtain ⟨h3, h4⟩ := ih _ _ _ _ _ _ _ _ _ _ hx hl
              obtain ⟨t1, k1, e1⟩ := h4 _ [] (Kn.refl _)
              exact ⟨h3, Ca.fn he hf hb e1 (.inl rfl) rfl (by rw [knowsR_all k1 hd]; exact hr)⟩
            · cases e
          · next hb hx =>
            split at e
            · next hd hr =>
              cases e
              obtain ⟨h3, h4⟩ := ih _ _ _ _ _ _ _ _ _ _ hx hl
              obtain ⟨t1, k1, e1⟩ := h4 _ [] (Kn.refl _)
              exact ⟨h3, Ca.fn he hf hb e1 (.inr rfl) rfl (by rw [knowsR_all k1 hd]; exact hr)⟩
            · cases e
          · cases e
          · cases e
        · cases e
def lookL (ts : TS) : List Nat → Option (List AV)
  | [] => some []
  | n :: r => match ts.get n, lookL ts r with
    | some v, some l => some (v :: l)
    | _, _ => none
def zipL : List Nat → List AV → List (Nat × AV)
  | n :: r, v :: l => (n, v) :: zipL r l
  | _, _ => []
theorem lookL_kn {ts : TS} : ∀ {l : List Nat} {vs : List AV}, lookL ts l = some vs → Kn (ofL (zipL l vs)) ts
  | [], vs, h => by cases h; intro n v e; simp [zipL, ofL, Tr.get] at e
  | a :: r, vs, h => by
    simp only [lookL] at h
    split at h
    · next v l hv hr =>
      cases h
      intro n x e
      simp only [zipL, ofL, Tr.get_set] at e
      split at e
      · next e1 => subst e1; rw [hv]; exact e
      · exact lookL_kn hr n x e
    · cases h
def viewB (ks : List Nat) : VO (Fl × TS × H) → Option (Fl × Option (List AV) × H × Prop)
  | .ok (f, ts, h) _ l => some (f, lookL ts ks, h, AndL l)
  | _ => none
def viewC : VO (AV × H) → Option (AV × H × Prop)
  | .ok (v, h) _ l => some (v, h, AndL l)
  | _ => none
theorem Ca.of {cx : Cx} {n f : Nat} {args : List AV} {h h' : H} {ans : List An} {v : AV} {p : Prop} (e : viewC ((levV cx n).call f args h ans []) = some (v, h', p)) (hp : p) : Ca cx f args h v h' := by
  cases hr : (levV cx n).call f args h ans [] with
  | ok q an lg =>
    obtain ⟨v1, h1⟩ := q
    rw [hr] at e
    simp only [viewC, Option.some.injEq, Prod.mk.injEq] at e
    obtain ⟨rfl, rfl, rfl⟩ := e
    exact ((levV_ok cx n).2 _ _ _ _ _ _ _ _ _ hr (AndL.all hp)).2
  | ask b l => rw [hr] at e; cases e
  | no => rw [hr] at e; cases e
end
end Go.Ab
namespace Go.Ab
def Up (σ : Ren) (n : Nat) : Prop := ∀ b, n ≤ b → σ b = none
structure Frm (σ : Ren) (h : H) (w : World) (σ' : Ren) (h' : H) (w' : World) : Prop where
  os : w'.os = w.os
  tape : w'.tape = w.tape
  output : w'.output = w.output
  size : w.heap.size ≤ w'.heap.size
  keep : ∀ c, c < w.heap.size → (∀ b L, Own h b → σ b = some L → L.blk ≠ c) → w'.heap[c]? = w.heap[c]?
  own : ∀ b L, Own h' b → σ' b = some L → w.heap.size ≤ L.blk ∨ ∃ b0 L0, Own h b0 ∧ σ b0 = some L0 ∧ L0.blk = L.blk
  live : ∀ b L, (h'.get b).isSome = true → σ' b = some L → w.heap.size ≤ L.blk ∨ ∃ b0 L0, (h.get b0).isSome = true ∧ σ b0 = some L0 ∧ L0.blk = L.blk
theorem Frm.of {σ σ' : Ren} {h h' : H} {w w' : World} (e : Ext σ σ' h h' w w') : Frm σ h w σ' h' w' := ⟨e.os, e.tape, e.output, e.size, e.keep, e.own, e.live⟩
theorem Frm.trans {σ σ1 σ2 : Ren} {h h1 h2 : H} {w w1 w2 : World} (a : Frm σ h w σ1 h1 w1) (b : Frm σ1 h1 w1 σ2 h2 w2) : Frm σ h w σ2 h2 w2 := by
  refine ⟨b.os.trans a.os, b.tape.trans a.tape, b.output.trans a.output, Nat.le_trans a.size b.size, fun c hc hn => ?_, fun x L ho hs => ?_, fun x L ho hs => ?_⟩
  · rw [← a.keep c hc hn]
    refine b.keep c (Nat.lt_of_lt_of_le hc a.size) (fun x L ho hs => ?_)
    rcases a.own x L ho hs with h2' | ⟨b0, L0, ho0, hs0, he⟩
    · omega
    · rw [← he]; exact hn b0 L0 ho0 hs0
  · rcases b.own x L ho hs with h2' | ⟨b0, L0, ho0, hs0, he⟩
    · exact .inl (Nat.le_trans a.size h2')
    · rcases a.own b0 L0 ho0 hs0 with h3 | ⟨b1, L1, ho1, hs1, he1⟩
      · exact .inl (by rw [← he]; exact h3)
      · exact .inr ⟨b1, L1, ho1, hs1, he1.trans he⟩
  · rcases b.live x L ho hs with h2' | ⟨b0, L0, ho0, hs0, he⟩
    · exact .inl (Nat.le_trans a.size h2')
    · rcases a.live b0 L0 ho0 hs0 with h3 | ⟨b1, L1, ho1, hs1, he1⟩
      · exact .inl (by rw [← he]; exact h3)
      · exact .inr ⟨b1, L1, ho1, hs1, he1.trans he⟩
structure PostW (N k : Nat) (σ : Ren) (h0 : H) (w : World) (f : Fl) (ts1 : TS) (h1 : H) (σ' : Ren) (e : Exit) (a' : Act) (w' : World) : Prop where
  fr : FR σ' f e
  tr : TR σ' ts1 a'.tmps
  hr : HR σ' h1 w'
  sz : a'.tmps.size = N
  ds : a'.defers = []
  up : Up σ' h1.next
  fix : ∀ b, b < k → σ' b = σ b
  frm : Frm σ h0 w σ' h1 w'
def Tri (P : Program) (N k : Nat) (c : CC) (ts0 : TS) (h0 : H) (f : Fl) (ts1 : TS) (h1 : H) : Prop :=
  ∀ (cd : Code), compC P N cd = c → ∀ σ a w, TR σ ts0 a.tmps → HR σ h0 w → a.tmps.size = N → a.defers = [] → Up σ h0.next →
    wpL P cd (fun e a' w' => ∃ σ', PostW N k σ h0 w f ts1 h1 σ' e a' w') a w
theorem wpL_mono {P : Program} {c : Code} {Q R : Exit → Act → World → Prop} {a : Act} {w : World} (h : wpL P c Q a w) (hm : ∀ e a w, Q e a w → R e a w) : wpL P c R a w := by
  cases c <;> first | exact wp_mono h hm | (intro b k cs; obtain ⟨e, a', w', h1, h2⟩ := h b k cs; exact ⟨e, a', w', hm _ _ _ h1, h2⟩)
theorem TR.kn {σ : Ren} {ts0 ts : TS} {tmps : Array Value} (h : TR σ ts tmps) (k : Kn ts0 ts) : TR σ ts0 tmps := fun t v hv => h t v (k t v hv)
theorem PostW.step {N k : Nat} {σ σ1 : Ren} {h0 h1 h2 : H} {w w1 : World} {f f2 : Fl} {ts1 ts2 : TS} {e : Exit} {a1 : Act} {σ2 : Ren} {e2 : Exit} {a2 : Act} {w2 : World}
    (p : PostW N k σ h0 w f ts1 h1 σ1 e a1 w1) (q : PostW N k σ1 h1 w1 f2 ts2 h2 σ2 e2 a2 w2) : PostW N k σ h0 w f2 ts2 h2 σ2 e2 a2 w2 :=
  ⟨q.fr, q.tr, q.hr, q.sz, q.ds, q.up, fun b hb => (q.fix b hb).trans (p.fix b hb), p.frm.trans q.frm⟩
section
variable {P : Program} {N k : Nat}
theorem Tri.of_bd {cx : Cx} (hmix : P.follows .mixedOrders = true) (hx : CxOk P cx) {c : CC} {ts0 ts1 : TS} {h h1 : H} {f : Fl} (hk : k ≤ h.next) (b : BdP cx c ts0 h f ts1 h1) : Tri P N k c ts0 h f ts1 h1 := by
  intro cd hcd σ a w htr hhr hsz hds hup
  subst hcd
  obtain ⟨ts', k1, e⟩ := b ts0 [] (Kn.refl _)
  obtain ⟨n, e⟩ := e.run
  have hp : Pre N σ ⟨ts0, [], h⟩ a w := ⟨hhr, htr, hsz, by rw [hds]; trivial⟩
  refine wpL_mono ((lev_ok hmix hx n).off N cd _ _ _ _ e σ a w hp (fun b hb _ => hup b hb)) fun e a' w' hq => ?_
  obtain ⟨σ', q1, q2, q3⟩ := hq
  refine ⟨σ', q1, q2.tr.kn k1, q2.hr, q2.sz, ?_, fun b hb => ?_, fun b hb => ?_, .of q3⟩
  · have := q2.ds
    cases hd : a'.defers with
    | nil => rfl
    | cons x y => rw [hd] at this; exact this.elim
  · have hn : h.next ≤ h1.next := q3.next
    rw [q3.out b (fun hh => by have : b < h1.next := hh.2; omega)]
    exact hup b (Nat.le_trans hn hb)
  · exact q3.out b (fun hh => by have : h.next ≤ b := hh.1; omega)
theorem Tri.weaken {c : CC} {ts0 ts1 ts2 ts3 : TS} {h h1 : H} {f : Fl} (t : Tri P N k c ts0 h f ts1 h1) (k0 : Kn ts0 ts2) (k1 : Kn ts3 ts1) : Tri P N k c ts2 h f ts3 h1 := by
  intro cd hcd σ a w htr hhr hsz hds hup
  refine wpL_mono (t cd hcd σ a w (htr.kn k0) hhr hsz hds hup) fun e a' w' hq => ?_
  obtain ⟨σ', q⟩ := hq
  exact ⟨σ', q.fr, q.tr.kn k1, q.hr, q.sz, q.ds, q.up, q.fix, q.frm⟩
theorem seq_inv {cd : Code} {x y : CC} (h : compC P N cd = .seq x y) : ∃ a b, cd = .seq a b ∧ compC P N a = x ∧ compC P N b = y := by
  cases cd <;> first | (simp only [compC] at h; cases h; done) | (simp only [compC, stuckC] at h; cases h; done) | skip
  case region id ops draw =>
    cases draw with
    | false => simp only [compC] at h; split at h <;> cases h
    | true =>
      simp only [compC] at h
      rcases draw_facts (P := P) (N := N) (ops := ops) with hd | ⟨l, two, hd, _⟩ <;> rw [hd] at h <;> cases h
  case seq a b => simp only [compC] at h; injection h with h1 h2; exact ⟨a, b, rfl, h1, h2⟩
theorem block_inv {cd : Code} {i : Nat} {y : CC} (h : compC P N cd = .block i y) : ∃ b, cd = .block i b ∧ compC P N b = y := by
  cases cd <;> first | (simp only [compC] at h; cases h; done) | (simp only [compC, stuckC] at h; cases h; done) | skip
  case region id ops draw =>
    cases draw with
    | false => simp only [compC] at h; split at h <;> cases h
    | true =>
      simp only [compC] at h
      rcases draw_facts (P := P) (N := N) (ops := ops) with hd | ⟨l, two, hd, _⟩ <;> rw [hd] at h <;> cases h
  case block a b => simp only [compC] at h; injection h with h1 h2; subst h1; exact ⟨b, rfl, h2⟩
theorem loop_inv {cd : Code} {y : CC} (h : compC P N cd = .loop y) : ∃ b, cd = .loop b ∧ compC P N b = y := by
  cases cd <;> first | (simp only [compC] at h; cases h; done) | (simp only [compC, stuckC] at h; cases h; done) | skip
  case region id ops draw =>
    cases draw with
    | false => simp only [compC] at h; split at h <;> cases h
    | true =>
      simp only [compC] at h
      rcases draw_facts (P := P) (N := N) (ops := ops) with hd | ⟨l, two, hd, _⟩ <;> rw [hd] at h <;> cases h
  case loop b => simp only [compC] at h; injection h with h1; exact ⟨b, rfl, h1⟩
theorem cond_inv {cd : Code} {c : Opd} {x y : CC} (h : compC P N cd = .cond c x y) : (∃ c0 a b, cd = .cond c0 a b ∧ opd c0 = c ∧ compC P N a = x ∧ compC P N b = y) ∨ c = .k .any := by
  cases cd <;> first | (simp only [compC] at h; cases h; done) | (simp only [compC, stuckC] at h; cases h; exact .inr rfl) | skip
  case region id ops draw =>
    cases draw with
    | false => simp only [compC] at h; split at h <;> first | (cases h; done) | (cases h; exact .inr rfl)
    | true =>
      simp only [compC] at h
      rcases draw_facts (P := P) (N := N) (ops := ops) with hd | ⟨l, two, hd, _⟩ <;> rw [hd] at h <;> first | (cases h; done) | (cases h; exact .inr rfl)
  case cond c0 a b => simp only [compC] at h; injection h with h1 h2 h3; exact .inl ⟨c0, a, b, rfl, h1, h2, h3⟩
theorem Tri.seq {x y : CC} {ts0 ts1 ts2 : TS} {h0 h1 h2 : H} {f : Fl} (a : Tri P N k x ts0 h0 .norm ts1 h1) (b : Tri P N k y ts1 h1 f ts2 h2) : Tri P N k (.seq x y) ts0 h0 f ts2 h2 := by
  intro cd hcd σ ac w htr hhr hsz hds hup
  obtain ⟨c1, c2, rfl, e1, e2⟩ := seq_inv hcd
  refine wp_seq (wp_mono (a c1 e1 σ ac w htr hhr hsz hds hup).wp fun e a1 w1 hq => ?_)
  obtain ⟨σ1, q⟩ := hq
  have := q.fr; cases this
  exact wp_mono (b c2 e2 σ1 a1 w1 q.tr q.hr q.sz q.ds q.up).wp fun e2 a2 w2 hq2 => let ⟨σ2, q2⟩ := hq2; ⟨σ2, q.step q2⟩
theorem Tri.stop {x y : CC} {ts0 ts1 : TS} {h0 h1 : H} {f : Fl} (a : Tri P N k x ts0 h0 f ts1 h1) (hf : f ≠ .norm) : Tri P N k (.seq x y) ts0 h0 f ts1 h1 := by
  intro cd hcd σ ac w htr hhr hsz hds hup
  obtain ⟨c1, c2, rfl, e1, e2⟩ := seq_inv hcd
  refine wp_seq (wp_mono (a c1 e1 σ ac w htr hhr hsz hds hup).wp fun e a1 w1 hq => ?_)
  obtain ⟨σ1, q⟩ := hq
  exact q.fr.then hf ⟨σ1, q⟩
theorem Tri.cond {c : Opd} {x y : CC} {ts0 ts1 : TS} {h0 h1 : H} {f : Fl} {b : Bool} (hb : evA ts0 c = .bool b) (a : Tri P N k (match b with | true => x | false => y) ts0 h0 f ts1 h1) : Tri P N k (.cond c x y) ts0 h0 f ts1 h1 := by
  intro cd hcd σ ac w htr hhr hsz hds hup
  rcases cond_inv hcd with ⟨c0, c1, c2, rfl, rfl, e1, e2⟩ | rfl
  · refine wp_cond (cond_val htr hb) ?_
    cases b with
    | true => exact (a c1 e1 σ ac w htr hhr hsz hds hup).wp
    | false => exact (a c2 e2 σ ac w htr hhr hsz hds hup).wp
  · cases hb
theorem Tri.block {i : Nat} {x : CC} {ts0 ts1 : TS} {h0 h1 : H} {f f' : Fl} (a : Tri P N k x ts0 h0 f ts1 h1) (hf : match f with | .exit j => (match Nat.beq j i with | true => f' = .norm | false => f' = .exit j) | f => f' = f) : Tri P N k (.block i x) ts0 h0 f' ts1 h1 := by
  intro cd hcd σ ac w htr hhr hsz hds hup
  obtain ⟨c1, rfl, e1⟩ := block_inv hcd
  refine wp_block (wp_mono (a c1 e1 σ ac w htr hhr hsz hds hup).wp fun e a1 w1 hq => ?_)
  obtain ⟨σ1, q⟩ := hq
  have hfr := q.fr
  cases f with
  | norm => cases hf; cases hfr; exact ⟨σ1, q⟩
  | ret => cases hf; cases hfr; exact ⟨σ1, q⟩
  | pan v => cases hf; obtain ⟨v', k1, rfl⟩ := hfr; exact ⟨σ1, q⟩
  | exit j =>
    cases hfr
    simp only [] at hf
    cases hb : Nat.beq j i with
    | true =>
      rw [hb] at hf; simp only [] at hf; subst hf
      simp only [Exit.inBlock, Nat.eq_of_beq_eq_true hb, if_true]
      exact ⟨σ1, rfl, q.tr, q.hr, q.sz, q.ds, q.up, q.fix, q.frm⟩
    | false =>
      rw [hb] at hf; simp only [] at hf; subst hf
      have hne : j ≠ i := by rintro rfl; rw [Nat.beq_refl] at hb; cases hb
      simp only [Exit.inBlock, if_neg hne]
      exact ⟨σ1, q⟩
theorem Tri.loopNext {x : CC} {ts0 ts1 ts2 : TS} {h0 h1 h2 : H} {f : Fl} (a : Tri P N k x ts0 h0 .norm ts1 h1) (b : Tri P N k (.loop x) ts1 h1 f ts2 h2) : Tri P N k (.loop x) ts0 h0 f ts2 h2 := by
  intro cd hcd σ ac w htr hhr hsz hds hup
  obtain ⟨c1, rfl, e1⟩ := loop_inv hcd
  refine LoopWp.round (wp_mono (a c1 e1 σ ac w htr hhr hsz hds hup).wp fun e a1 w1 hq => ?_)
  obtain ⟨σ1, q⟩ := hq
  have := q.fr; cases this
  intro bb kk cs
  obtain ⟨e2, a2, w2, ⟨σ2, q2⟩, h3⟩ := b (.loop c1) hcd σ1 a1 w1 q.tr q.hr q.sz q.ds q.up bb kk cs
  exact ⟨e2, a2, w2, ⟨σ2, q.step q2⟩, h3⟩
theorem Tri.loopStop {x : CC} {ts0 ts1 : TS} {h0 h1 : H} {f : Fl} (a : Tri P N k x ts0 h0 f ts1 h1) (hf : f ≠ .norm) : Tri P N k (.loop x) ts0 h0 f ts1 h1 := by
  intro cd hcd σ ac w htr hhr hsz hds hup
  obtain ⟨c1, rfl, e1⟩ := loop_inv hcd
  refine LoopWp.round (wp_mono (a c1 e1 σ ac w htr hhr hsz hds hup).wp fun e a1 w1 hq => ?_)
  obtain ⟨σ1, q⟩ := hq
  exact q.fr.then hf ⟨σ1, q⟩
end
mutual
def mapV (ρ : Nat → Nat) : AV → AV
  | .ptr b o => .ptr (ρ b) o
  | .sl b o l c z => .sl (ρ b) o l c z
  | .map b => .map (ρ b)
  | .fn f a c => .fn f (mapL ρ a) (mapL ρ c)
  | .ifc t v => .ifc t (mapV ρ v)
  | .agg cs => .agg (mapL ρ cs)
  | .tup cs => .tup (mapL ρ cs)
  | .bool b => .bool b
  | .int k n => .int k n
  | .str s => .str s
  | .pnil => .pnil
  | .snil => .snil
  | .esl => .esl
  | .mnil => .mnil
  | .fnil => .fnil
  | .inil => .inil
  | .any => .any
def mapL (ρ : Nat → Nat) : List AV → List AV
  | [] => []
  | v :: r => mapV ρ v :: mapL ρ r
end
mutual
def ltV (n : Nat) : AV → Bool
  | .ptr b _ => Nat.blt b n
  | .sl b _ _ _ _ => Nat.blt b n
  | .map b => Nat.blt b n
  | .fn _ a c => ltL n a && ltL n c
  | .ifc _ v => ltV n v
  | .agg cs => ltL n cs
  | .tup cs => ltL n cs
  | _ => true
def ltL (n : Nat) : List AV → Bool
  | [] => true
  | v :: r => ltV n v && ltL n r
end
def renS (ρ : Nat → Nat) (n : Nat) (σ : Ren) : Ren := fun b => if b < n then σ (ρ b) else none
theorem mapL_len (ρ : Nat → Nat) : ∀ l : List AV, (mapL ρ l).length = l.length
  | [] => by rw [mapL]
  | v :: r => by rw [mapL]; simp [mapL_len ρ r]
theorem renS_lt {ρ : Nat → Nat} {n b : Nat} {σ : Ren} {L : Loc} (h : Nat.blt b n = true) (e : σ (ρ b) = some L) : renS ρ n σ b = some L := by
  have : b < n := by have h2 : Nat.ble (b + 1) n = true := h; rw [Nat.ble_eq] at h2; exact h2
  simp [renS, this, e]
mutual
theorem vr_ren {ρ : Nat → Nat} {n : Nat} {σ : Ren} : ∀ (v : AV) (v' : Value), VR σ (mapV ρ v) v' → ltV n v = true → VR (renS ρ n σ) v v'
  | .ptr b o, v', h, hl => by rw [mapV] at h; rw [ltV] at hl; cases h with | ptr h => exact .ptr (renS_lt hl h)
  | .sl b o l c z, v', h, hl => by rw [mapV] at h; rw [ltV] at hl; cases h with | sl h a1 a2 a3 a4 a5 => exact .sl (renS_lt hl h) a1 a2 a3 a4 a5
  | .map b, v', h, hl => by rw [mapV] at h; rw [ltV] at hl; cases h with | map h => exact .map (renS_lt hl h)
  | .fn f a c, v', h, hl => by
    rw [mapV] at h; rw [ltV] at hl
    simp only [Bool.and_eq_true] at hl
    cases h with
    | @fn _ _ _ fst' cap' h1 h2 h3 h4 =>
      have k1 := lr_ren a fst'.toList ⟨by simpa using h1, fun i v v' p q => h2 i v v' p (by simpa using q)⟩ hl.1
      have k2 := lr_ren c cap'.toList ⟨by simpa using h3, fun i v v' p q => h4 i v v' p (by simpa using q)⟩ hl.2
      exact .fn (by simpa using k1.1) (fun i v v' p q => k1.2 i v v' p (by simpa using q)) (by simpa using k2.1) (fun i v v' p q => k2.2 i v v' p (by simpa using q))
  | .ifc t v, v', h, hl => by rw [mapV] at h; rw [ltV] at hl; cases h with | ifc h => exact .ifc (vr_ren v _ h hl)
  | .agg cs, v', h, hl => by
    rw [mapV] at h; rw [ltV] at hl
    cases h with
    | @agg _ ds h1 h2 =>
      have k1 := lr_ren cs ds.toList ⟨by simpa using h1, fun i v v' p q => h2 i v v' p (by simpa using q)⟩ hl
      exact .agg (by simpa using k1.1) (fun i v v' p q => k1.2 i v v' p (by simpa using q))
  | .tup cs, v', h, hl => by
    rw [mapV] at h; rw [ltV] at hl
    cases h with
    | @tup _ ds h1 h2 =>
      have k1 := lr_ren cs ds.toList ⟨by simpa using h1, fun i v v' p q => h2 i v v' p (by simpa using q)⟩ hl
      exact .tup (by simpa using k1.1) (fun i v v' p q => k1.2 i v v' p (by simpa using q))
  | .bool b, v', h, hl => by rw [mapV] at h; cases h; exact .bool _
  | .int k m, v', h, hl => by rw [mapV] at h; cases h; exact .int _ _
  | .str s, v', h, hl => by rw [mapV] at h; cases h; exact .str _
  | .pnil, v', h, hl => by rw [mapV] at h; cases h; exact .pnil
  | .snil, v', h, hl => by rw [mapV] at h; cases h; exact .snil
  | .esl, v', h, hl => by rw [mapV] at h; cases h; exact .esl _ _
  | .mnil, v', h, hl => by rw [mapV] at h; cases h; exact .mnil
  | .fnil, v', h, hl => by rw [mapV] at h; cases h; exact .fnil
  | .inil, v', h, hl => by rw [mapV] at h; cases h; exact .inil
  | .any, v', h, hl => .any _
theorem lr_ren {ρ : Nat → Nat} {n : Nat} {σ : Ren} : ∀ (l : List AV) (l' : List Value), LR σ (mapL ρ l) l' → ltL n l = true → LR (renS ρ n σ) l l'
  | [], l', h, hl => by rw [mapL] at h; rw [h.nil_inv]; exact LR.nil _
  | v :: r, l', h, hl => by
    rw [mapL] at h; rw [ltL] at hl
    simp only [Bool.and_eq_true] at hl
    obtain ⟨v', r', rfl, h1, h2⟩ := h.cons_inv
    exact LR.cons (vr_ren v v' h1 hl.1) (lr_ren r r' h2 hl.2)
end
def RB (ρ : Nat → Nat) (n : Nat) : Bk → Bk → Prop
  | .cells o cs, .cells o1 cs1 => o = o1 ∧ cs1 = mapL ρ cs ∧ ltL n cs = true
  | .map es c, .map es1 c1 => c = c1 ∧ es1 = es.map (fun e => ⟨mapV ρ e.key, mapV ρ e.val, e.born⟩) ∧ es.all (fun e => ltV n e.key && ltV n e.val) = true
  | _, _ => False
structure RenOk (k : Nat) (ρ : Nat → Nat) (ts1 : TS) (h1 : H) (ts2 : TS) (h2 : H) : Prop where
  fix : ∀ b, b < k → ρ b = b
  kn : k ≤ h2.next
  slots : ∀ n v, ts2.get n = some v → ts1.get n = some (mapV ρ v) ∧ ltV h2.next v = true
  blk : ∀ b x, h2.get b = some x → b < h2.next ∧ ∃ x1, h1.get (ρ b) = some x1 ∧ RB ρ h2.next x x1
  inj : ∀ b b', b ≠ b' → (h2.get b).isSome = true → (h2.get b').isSome = true → ρ b ≠ ρ b'
theorem RB.br {ρ : Nat → Nat} {n : Nat} {σ : Ren} {x x1 : Bk} {L : Loc} {w : World} (r : RB ρ n x x1) (h : BR σ x1 L w) : BR (renS ρ n σ) x L w := by
  cases x <;> cases x1 <;> try exact r.elim
  · obtain ⟨rfl, rfl, r3⟩ := r
    obtain ⟨arr, t, fr, q1, q2, q3, q4⟩ := h
    rw [mapL_len] at q2 q3
    exact ⟨arr, t, fr, q1, q2, lr_ren _ _ q3 r3, q4⟩
  · obtain ⟨rfl, rfl, r3⟩ := r
    obtain ⟨es', q1, q2, q3⟩ := h
    refine ⟨es', q1, by simpa using q2, fun i e e' p q => ?_⟩
    have he : (List.all _ _) = true := r3
    rw [List.all_eq_true] at he
    have hm := he e (List.mem_of_getElem? p)
    simp only [Bool.and_eq_true] at hm
    obtain ⟨k1, k2, k3⟩ := q3 i ⟨mapV ρ e.key, mapV ρ e.val, e.born⟩ e' (by simp [p]) q
    exact ⟨vr_ren _ _ k1 hm.1, vr_ren _ _ k2 hm.2, k3⟩
theorem RB.own {ρ : Nat → Nat} {n : Nat} {h h1 : H} {b : Nat} (hb : ∀ x, h.get b = some x → ∃ x1, h1.get (ρ b) = some x1 ∧ RB ρ n x x1) (ho : Own h b) : Own h1 (ρ b) := by
  rcases ho with ⟨cs, e⟩ | ⟨es, c, e⟩
  · obtain ⟨x1, e1, r⟩ := hb _ e
    cases x1 with
    | cells o cs1 => obtain ⟨rfl, _, _⟩ := r; exact .inl ⟨_, e1⟩
    | map es c => exact r.elim
  · obtain ⟨x1, e1, r⟩ := hb _ e
    cases x1 with
    | cells o cs1 => exact r.elim
    | map es c => exact .inr ⟨_, _, e1⟩
theorem RenOk.hr {k : Nat} {ρ : Nat → Nat} {ts1 ts2 : TS} {h1 h2 : H} (r : RenOk k ρ ts1 h1 ts2 h2) {σ : Ren} {w : World} (hh : HR σ h1 w) : HR (renS ρ h2.next σ) h2 w := by
  have hs : ∀ b L, renS ρ h2.next σ b = some L → σ (ρ b) = some L := by
    intro b L e
    unfold renS at e
    split at e
    · exact e
    · cases e
  refine ⟨fun b L e => hh.bnd _ _ (hs b L e), fun b x L e1 e2 => ?_, fun b b' L L' hne ho hb' e1 e2 => ?_, fun b hb => ?_⟩
  · obtain ⟨_, x1, q1, q2⟩ := r.blk b x e1
    exact q2.br (hh.blk _ _ _ q1 (hs _ _ e2))
  · have hob : (h2.get b).isSome = true := by rcases ho with ⟨cs, e⟩ | ⟨es, c, e⟩ <;> simp [e]
    obtain ⟨x', hx'⟩ := Option.isSome_iff_exists.1 hb'
    obtain ⟨_, x1, q1, _⟩ := r.blk b' x' hx'
    exact hh.inj (ρ b) (ρ b') L L' (r.inj b b' hne hob hb') (RB.own (fun x e => (r.blk b x e).2) ho) (by simp [q1]) (hs _ _ e1) (hs _ _ e2)
  · obtain ⟨x, hx⟩ := Option.isSome_iff_exists.1 hb
    exact (r.blk b x hx).1
theorem RenOk.frm {k : Nat} {ρ : Nat → Nat} {ts1 ts2 : TS} {h0 h1 h2 : H} (r : RenOk k ρ ts1 h1 ts2 h2) {σ σ' : Ren} {w w' : World} (f : Frm σ h0 w σ' h1 w') : Frm σ h0 w (renS ρ h2.next σ') h2 w' := by
  have hs : ∀ b L, renS ρ h2.next σ' b = some L → σ' (ρ b) = some L := by
    intro b L e
    unfold renS at e
    split at e
    · exact e
    · cases e
  refine ⟨f.os, f.tape, f.output, f.size, f.keep, fun b L ho e => f.own (ρ b) L (RB.own (fun x e => (r.blk b x e).2) ho) (hs _ _ e), fun b L hb e => ?_⟩
  obtain ⟨x, hx⟩ := Option.isSome_iff_exists.1 hb
  obtain ⟨_, x1, q1, _⟩ := r.blk b x hx
  exact f.live (ρ b) L (by simp [q1]) (hs _ _ e)
theorem Tri.ren {P : Program} {N k : Nat} {c : CC} {ts0 ts1 ts2 : TS} {h0 h1 h2 : H} {f : Fl} {ρ : Nat → Nat} (t : Tri P N k c ts0 h0 f ts1 h1) (hf : match f with | .pan _ => False | _ => True) (r : RenOk k ρ ts1 h1 ts2 h2) : Tri P N k c ts0 h0 f ts2 h2 := by
  intro cd hcd σ a w htr hhr hsz hds hup
  refine wpL_mono (t cd hcd σ a w htr hhr hsz hds hup) fun e a' w' hq => ?_
  obtain ⟨σ', q⟩ := hq
  refine ⟨renS ρ h2.next σ', ?_, fun n v e => ?_, r.hr q.hr, q.sz, q.ds, fun b hb => ?_, fun b hb => ?_, r.frm q.frm⟩
  · have := q.fr
    cases f with
    | norm => exact this
    | exit n => exact this
    | ret => exact this
    | pan v => exact hf.elim
  · obtain ⟨e1, e2⟩ := r.slots n v e
    obtain ⟨v', p1, p2⟩ := q.tr _ _ e1
    exact ⟨v', p1, vr_ren _ _ p2 e2⟩
  · have : ¬ b < h2.next := by omega
    simp [renS, this]
  · have : b < h2.next := Nat.lt_of_lt_of_le hb r.kn
    simp only [renS, this, if_true, r.fix b hb]
    exact q.fix b hb
end Go.Ab
namespace Go.Ab
structure TriS (P : Program) (N k : Nat) (c : CC) (ts0 : TS) (h0 : H) (f : Fl) (ts1 : TS) (h1 : H) : Prop where
  run : Tri P N k c ts0 h0 f ts1 h1
def levT (P : Program) (N k : Nat) (cx : Cx) (m : Nat) : Nat → CC → TS → H → List An → Lg → VO (Fl × TS × H)
  | 0, _, _, _, _, _ => .no
  | n + 1, c, ts, h, ans, log =>
    match c with
    | .skip => match Nat.ble k h.next with
      | true => .ok (.norm, ts, h) ans log
      | false => .no
    | .reg ops => match Nat.ble k h.next with
      | true => regV cx (levV cx m).call ops ts h ans log
      | false => .no
    | .draw ops two => match Nat.ble k h.next with
      | true => drawV cx (levV cx m).call ops two ts h ans log
      | false => .no
    | .seq a b => match levT P N k cx m n a ts h ans log with
      | .ok (.norm, ts, h) ans log => levT P N k cx m n b ts h ans log
      | r => r
    | .cond c t e => match evA ts c with
      | .bool b => match askV b ans log with
        | .ok b ans log => levT P N k cx m n (match b with | true => t | false => e) ts h ans log
        | .ask b l => .ask b l
        | .no => .no
      | _ => .no
    | .block id body => match levT P N k cx m n body ts h ans log with
      | .ok (.exit i, ts, h) ans log => match Nat.beq i id with
        | true => .ok (.norm, ts, h) ans log
        | false => .ok (.exit i, ts, h) ans log
      | r => r
    | .loop body => match ans with
      | .l ks f l1 h1 :: r => .ok (f, ofL l1, h1) r (TriS P N k (.loop body) (ofL (pickTs ts ks)) h f (ofL l1) h1 :: log)
      | _ => match levT P N k cx m n body ts h ans log with
        | .ok (.norm, ts, h) ans log => levT P N k cx m n (.loop body) ts h ans log
        | r => r
    | .exit id => match Nat.ble k h.next with
      | true => .ok (.exit id, ts, h) ans log
      | false => .no
    | .ret => match Nat.ble k h.next with
      | true => .ok (.ret, ts, h) ans log
      | false => .no
theorem levT_ok {P : Program} {N k : Nat} {cx : Cx} (hmix : P.follows .mixedOrders = true) (hx : CxOk P cx) (m : Nat) : ∀ (n : Nat) (c : CC) (ts : TS) (h : H) (ans : List An) (log : Lg) (f : Fl) (ts' : TS) (h' : H) (ans' : List An) (log' : Lg),
    levT P N k cx m n c ts h ans log = .ok (f, ts', h') ans' log' → AllL log' → AllL log ∧ Tri P N k c ts h f ts' h' := by
  have ihc := (levV_ok cx m).2
  intro n
  induction n with
  | zero => intro c ts h ans log f ts' h' ans' log' e; cases e
  | succ n ih =>
    intro c ts h ans log f ts' h' ans' log' e hl
    cases c with
    | skip =>
      simp only [levT] at e
      split at e
      · next hk => cases e; exact ⟨hl, Tri.of_bd hmix hx (Nat.le_of_ble_eq_true hk) (fun tr ds hk => ⟨tr, hk, Ex.skip⟩)⟩
      · cases e
    | exit id =>
      simp only [levT] at e
      split at e
      · next hk => cases e; exact ⟨hl, Tri.of_bd hmix hx (Nat.le_of_ble_eq_true hk) (fun tr ds hk => ⟨tr, hk, Ex.exit⟩)⟩
      · cases e
    | ret =>
      simp only [levT] at e
      split at e
      · next hk => cases e; exact ⟨hl, Tri.of_bd hmix hx (Nat.le_of_ble_eq_true hk) (fun tr ds hk => ⟨tr, hk, Ex.ret⟩)⟩
      · cases e
    | reg ops =>
      simp only [levT] at e
      split at e
      · next hk =>
        obtain ⟨h1, rfl, h3⟩ := regV_ok ihc e hl
        exact ⟨h1, Tri.of_bd hmix hx (Nat.le_of_ble_eq_true hk) (fun tr ds hk => let ⟨tr', a, b⟩ := h3 tr ds hk; ⟨tr', a, Ex.reg b⟩)⟩
      · cases e
    | draw ops two =>
      simp only [levT] at e
      split at e
      · next hk =>
        obtain ⟨h1, h3⟩ := drawV_ok ihc e hl
        exact ⟨h1, Tri.of_bd hmix hx (Nat.le_of_ble_eq_true hk) h3⟩
      · cases e
    | seq a b =>
      simp only [levT] at e
      split at e
      · next ha =>
        obtain ⟨h1, h2⟩ := ih _ _ _ _ _ _ _ _ _ _ e hl
        obtain ⟨h3, h4⟩ := ih _ _ _ _ _ _ _ _ _ _ ha h1
        exact ⟨h3, h4.seq h2⟩
      · next hn =>
        obtain ⟨h3, h4⟩ := ih _ _ _ _ _ _ _ _ _ _ e hl
        exact ⟨h3, h4.stop (fun hf => by subst hf; exact hn _ _ _ _ e)⟩
    | cond c t e1 =>
      simp only [levT] at e
      split at e
      · next b hb =>
        split at e
        · next ha =>
          obtain ⟨h1, h2⟩ := ih _ _ _ _ _ _ _ _ _ _ e hl
          obtain ⟨h3, h4⟩ := askV_ok ha h1
          subst h4
          exact ⟨h3, Tri.cond hb (by cases b <;> exact h2)⟩
        · cases e
        · cases e
      · cases e
    | block id body =>
      simp only [levT] at e
      split at e
      · next ha =>
        split at e
        · next hq =>
          cases e
          obtain ⟨h3, h4⟩ := ih _ _ _ _ _ _ _ _ _ _ ha hl
          exact ⟨h3, h4.block (by simp only [hq])⟩
        · next hq =>
          cases e
          obtain ⟨h3, h4⟩ := ih _ _ _ _ _ _ _ _ _ _ ha hl
          exact ⟨h3, h4.block (by simp only [hq])⟩
      · next hn =>
        obtain ⟨h3, h4⟩ := ih _ _ _ _ _ _ _ _ _ _ e hl
        refine ⟨h3, h4.block ?_⟩
        cases f with
        | norm => rfl
        | ret => rfl
        | pan v => rfl
        | exit i => exact absurd e (hn _ _ _ _ _)
    | loop body =>
      simp only [levT] at e
      split at e
      · next ks f1 l1 h1 r =>
        cases e
        exact ⟨fun p hp => hl p (List.mem_cons_of_mem _ hp), (hl _ (List.mem_cons_self ..)).run.weaken (ofL_pick _) (Kn.refl _)⟩
      · split at e
        · next ha =>
          obtain ⟨h1, h2⟩ := ih _ _ _ _ _ _ _ _ _ _ e hl
          obtain ⟨h3, h4⟩ := ih _ _ _ _ _ _ _ _ _ _ ha h1
          exact ⟨h3, h4.loopNext h2⟩
        · next hn =>
          obtain ⟨h3, h4⟩ := ih _ _ _ _ _ _ _ _ _ _ e hl
          exact ⟨h3, h4.loopStop (fun hf => by subst hf; exact hn _ _ _ _ e)⟩
theorem Tri.of {P : Program} {N k : Nat} {cx : Cx} (hmix : P.follows .mixedOrders = true) (hx : CxOk P cx) (m n : Nat) {c : CC} {ts0 : TS} {h h1 : H} {ans : List An} {ks : List Nat} {f : Fl} {vs : List AV} {p : Prop}
    (e : viewB ks (levT P N k cx m n c ts0 h ans []) = some (f, some vs, h1, p)) (hp : p) : Tri P N k c ts0 h f (ofL (zipL ks vs)) h1 := by
  cases hr : levT P N k cx m n c ts0 h ans [] with
  | ok q an lg =>
    obtain ⟨f1, t1, h2⟩ := q
    rw [hr] at e
    simp only [viewB, Option.some.injEq, Prod.mk.injEq] at e
    obtain ⟨rfl, e2, rfl, rfl⟩ := e
    exact (levT_ok hmix hx m n _ _ _ _ _ _ _ _ _ _ hr (AndL.all hp)).2.weaken (Kn.refl _) (lookL_kn e2)
  | ask b l => rw [hr] at e; cases e
  | no => rw [hr] at e; cases e
def bkL : List (Nat × Bk) → Tr Bk
  | [] => .leaf
  | (b, x) :: r => (bkL r).set b (some x)
def hOf (n : Nat) (l : List (Nat × Bk)) : H := ⟨n, bkL l⟩
def bkO : List (Nat × Option Bk) → Tr Bk
  | [] => .leaf
  | (b, x) :: r => (bkO r).set b x
def hOfO (n : Nat) (l : List (Nat × Option Bk)) : H := ⟨n, bkO l⟩
theorem hOf_get {n : Nat} {l : List (Nat × Bk)} {b : Nat} {x : Bk} (h : (hOf n l).get b = some x) : (b, x) ∈ l := by
  induction l with
  | nil => cases h
  | cons p r ih =>
    obtain ⟨c, y⟩ := p
    change ((bkL r).set c (some y)).get b = some x at h
    rw [Tr.get_set] at h
    split at h
    · next e => cases h; subst e; exact List.mem_cons_self ..
    · exact List.mem_cons_of_mem _ (ih h)
theorem ofL_get {l : List (Nat × AV)} {n : Nat} {v : AV} (h : (ofL l).get n = some v) : (n, v) ∈ l := by
  induction l with
  | nil => cases h
  | cons p r ih =>
    obtain ⟨c, y⟩ := p
    change ((ofL r).set c (some y)).get n = some v at h
    rw [Tr.get_set] at h
    split at h
    · next e => cases h; subst e; exact List.mem_cons_self ..
    · exact List.mem_cons_of_mem _ (ih h)
def nthN : List Nat → Nat → Nat
  | [], n => n
  | a :: _, 0 => a
  | _ :: r, n + 1 => nthN r n
def rho (l : List Nat) : Nat → Nat := nthN l
def fixB (r : List Nat) : Nat → Bool
  | 0 => true
  | b + 1 => Nat.beq (nthN r b) b && fixB r b
theorem fixB_ok {r : List Nat} : ∀ {k : Nat}, fixB r k = true → ∀ b, b < k → rho r b = b := by
  intro k
  induction k with
  | zero => intro _ b hb; omega
  | succ k ih =>
    intro h b hb
    simp only [fixB, Bool.and_eq_true] at h
    by_cases e : b = k
    · subst e; exact Nat.eq_of_beq_eq_true h.1
    · exact ih h.2 b (by omega)
def apartN (a : Nat) : List Nat → Bool
  | [] => true
  | b :: r => !Nat.beq a b && apartN a r
def apartL : List Nat → Bool
  | [] => true
  | a :: r => apartN a r && apartL r
theorem apartN_ok {a : Nat} : ∀ {l : List Nat}, apartN a l = true → a ∉ l := by
  intro l
  induction l with
  | nil => intro _ h; cases h
  | cons b r ih =>
    intro h hm
    simp only [apartN, Bool.and_eq_true, Bool.not_eq_true'] at h
    rcases List.mem_cons.1 hm with rfl | hm
    · rw [Nat.beq_refl] at h; cases h.1
    · exact ih h.2 hm
theorem apartL_ok {f : Nat → Nat} : ∀ {l : List Nat}, apartL (l.map f) = true → ∀ a b, a ∈ l → b ∈ l → a ≠ b → f a ≠ f b := by
  intro l
  induction l with
  | nil => intro _ a b h; cases h
  | cons c r ih =>
    intro h a b ha hb hne
    simp only [List.map_cons, apartL, Bool.and_eq_true] at h
    have h1 := apartN_ok h.1
    rcases List.mem_cons.1 ha with e1 | ha2 <;> rcases List.mem_cons.1 hb with e2 | hb2
    · exact absurd (e1.trans e2.symm) hne
    · subst e1; intro e; exact h1 (by rw [e]; exact List.mem_map_of_mem hb2)
    · subst e2; intro e; exact h1 (by rw [← e]; exact List.mem_map_of_mem ha2)
    · exact ih h.2 a b ha2 hb2 hne
def RBs (r : List Nat) (n : Nat) (h1 : H) : List (Nat × Bk) → Prop
  | [] => True
  | p :: l => (Nat.blt p.1 n = true ∧ ∃ x1, h1.get (nthN r p.1) = some x1 ∧ RB (rho r) n p.2 x1) ∧ RBs r n h1 l
theorem RBs_ok {r : List Nat} {n : Nat} {h1 : H} : ∀ {l : List (Nat × Bk)}, RBs r n h1 l → ∀ b x, (b, x) ∈ l → b < n ∧ ∃ x1, h1.get (rho r b) = some x1 ∧ RB (rho r) n x x1 := by
  intro l
  induction l with
  | nil => intro _ b x h; cases h
  | cons p l ih =>
    obtain ⟨c, y⟩ := p
    intro h b x hm
    rcases List.mem_cons.1 hm with e | hm
    · cases e
      refine ⟨?_, h.1.2⟩
      have h2 : Nat.ble (c + 1) n = true := h.1.1
      rw [Nat.ble_eq] at h2; exact h2
    · exact ih h.2 b x hm
def ltAll (n : Nat) : List (Nat × AV) → Bool
  | [] => true
  | (_, v) :: r => ltV n v && ltAll n r
theorem ltAll_ok {n : Nat} : ∀ {l : List (Nat × AV)}, ltAll n l = true → ∀ m v, (m, v) ∈ l → ltV n v = true := by
  intro l
  induction l with
  | nil => intro _ m v h; cases h
  | cons p l ih =>
    obtain ⟨c, y⟩ := p
    intro h m v hm
    simp only [ltAll, Bool.and_eq_true] at h
    rcases List.mem_cons.1 hm with e | hm
    · cases e; exact h.1
    · exact ih h.2 m v hm
def SlotsAt (r : List Nat) (ts1 : TS) : List (Nat × AV) → Prop
  | [] => True
  | (n, v) :: l => ts1.get n = some (mapV (rho r) v) ∧ SlotsAt r ts1 l
theorem SlotsAt_ok {r : List Nat} {ts1 : TS} : ∀ {l : List (Nat × AV)}, SlotsAt r ts1 l → ∀ n v, (n, v) ∈ l → ts1.get n = some (mapV (rho r) v) := by
  intro l
  induction l with
  | nil => intro _ m v h; cases h
  | cons p l ih =>
    obtain ⟨c, y⟩ := p
    intro h m v hm
    rcases List.mem_cons.1 hm with e | hm
    · cases e; exact h.1
    · exact ih h.2 m v hm
theorem RenOk.of {k n2 : Nat} {r : List Nat} {ts1 : TS} {h1 : H} {l2 : List (Nat × AV)} {B2 : List (Nat × Bk)} (hfix : fixB r k = true) (hkn : Nat.ble k n2 = true) (hap : apartL ((B2.map (·.1)).map (rho r)) = true) (hlt : ltAll n2 l2 = true)
    (hs : SlotsAt r ts1 l2) (hb : RBs r n2 h1 B2) : RenOk k (rho r) ts1 h1 (ofL l2) (hOf n2 B2) := by
  refine ⟨fixB_ok hfix, Nat.le_of_ble_eq_true hkn, fun n v e => ⟨SlotsAt_ok hs n v (ofL_get e), ltAll_ok hlt n v (ofL_get e)⟩, fun b x e => RBs_ok hb b x (hOf_get e), fun b b' hne e e' => ?_⟩
  obtain ⟨x, e⟩ := Option.isSome_iff_exists.1 e
  obtain ⟨x', e'⟩ := Option.isSome_iff_exists.1 e'
  exact apartL_ok hap b b' (List.mem_map.2 ⟨_, hOf_get e, rfl⟩) (List.mem_map.2 ⟨_, hOf_get e', rfl⟩) hne
mutual
theorem mapV_free {ρ : Nat → Nat} : ∀ v : AV, ltV 0 v = true → mapV ρ v = v
  | .ptr b o, h => by rw [ltV] at h; cases h
  | .sl b o l c z, h => by rw [ltV] at h; cases h
  | .map b, h => by rw [ltV] at h; cases h
  | .fn f a c, h => by
    rw [ltV] at h; simp only [Bool.and_eq_true] at h
    rw [mapV, mapL_free a h.1, mapL_free c h.2]
  | .ifc t v, h => by rw [ltV] at h; rw [mapV, mapV_free v h]
  | .agg cs, h => by rw [ltV] at h; rw [mapV, mapL_free cs h]
  | .tup cs, h => by rw [ltV] at h; rw [mapV, mapL_free cs h]
  | .bool b, h => by rw [mapV]
  | .int k m, h => by rw [mapV]
  | .str s, h => by rw [mapV]
  | .pnil, h => by rw [mapV]
  | .snil, h => by rw [mapV]
  | .esl, h => by rw [mapV]
  | .mnil, h => by rw [mapV]
  | .fnil, h => by rw [mapV]
  | .inil, h => by rw [mapV]
  | .any, h => by rw [mapV]
theorem mapL_free {ρ : Nat → Nat} : ∀ l : List AV, ltL 0 l = true → mapL ρ l = l
  | [], h => by rw [mapL]
  | v :: r, h => by
    rw [ltL] at h; simp only [Bool.and_eq_true] at h
    rw [mapL, mapV_free v h.1, mapL_free r h.2]
end
mutual
theorem ltV_mono {n m : Nat} (hnm : n ≤ m) : ∀ v : AV, ltV n v = true → ltV m v = true
  | .ptr b o, h => by rw [ltV] at h ⊢; exact blt_mono hnm h
  | .sl b o l c z, h => by rw [ltV] at h ⊢; exact blt_mono hnm h
  | .map b, h => by rw [ltV] at h ⊢; exact blt_mono hnm h
  | .fn f a c, h => by
    rw [ltV] at h ⊢; simp only [Bool.and_eq_true] at h ⊢
    exact ⟨ltL_mono hnm a h.1, ltL_mono hnm c h.2⟩
  | .ifc t v, h => by rw [ltV] at h ⊢; exact ltV_mono hnm v h
  | .agg cs, h => by rw [ltV] at h ⊢; exact ltL_mono hnm cs h
  | .tup cs, h => by rw [ltV] at h ⊢; exact ltL_mono hnm cs h
  | .bool b, h => rfl
  | .int k m, h => rfl
  | .str s, h => rfl
  | .pnil, h => rfl
  | .snil, h => rfl
  | .esl, h => rfl
  | .mnil, h => rfl
  | .fnil, h => rfl
  | .inil, h => rfl
  | .any, h => rfl
theorem ltL_mono {n m : Nat} (hnm : n ≤ m) : ∀ l : List AV, ltL n l = true → ltL m l = true
  | [], h => by rw [ltL]
  | v :: r, h => by
    rw [ltL] at h ⊢; simp only [Bool.and_eq_true] at h ⊢
    exact ⟨ltV_mono hnm v h.1, ltL_mono hnm r h.2⟩
theorem blt_mono {n m b : Nat} (hnm : n ≤ m) (h : Nat.blt b n = true) : Nat.blt b m = true := by
  have h2 : Nat.ble (b + 1) n = true := h
  rw [Nat.ble_eq] at h2
  show Nat.ble (b + 1) m = true
  rw [Nat.ble_eq]; omega
end
theorem RB.free {ρ : Nat → Nat} {n : Nat} {o : Bool} {cs : List AV} (h : ltL 0 cs = true) : RB ρ n (.cells o cs) (.cells o cs) :=
  ⟨rfl, (mapL_free cs h).symm, ltL_mono (Nat.zero_le n) cs h⟩
abbrev iV (n : Int) : AV := .int .i64 n
abbrev kT (cs : List AV) : Bk := .cells true cs
abbrev kF (cs : List AV) : Bk := .cells false cs
def Con (P : Program) (k f : Nat) (args : List AV) (h : H) (v : AV) (h' : H) : Prop :=
  ∀ (σ : Ren) (w : World) (args' : List Value), HR σ h w → LR σ args args' → Up σ h.next → (callFunc f args'.toArray).run P w = .ok (.enter f args'.toArray) w ∧
    Calls P f args'.toArray w fun e w' => ∃ v' σ', e = .returned v' ∧ VR σ' v v' ∧ HR σ' h' w' ∧ Up σ' h'.next ∧ (∀ b, b < k → σ' b = σ b) ∧ Frm σ h w σ' h' w'
theorem Tri.con {P : Program} {k f : Nat} {fn : Func} {cf : CFn} {args : List AV} {h h' : H} {fl : Fl} {ts' : TS} {vs : List AV} (hf : P.funcs[f]? = some fn) (hc : comp P fn = some cf) (hl : Nat.ble args.length cf.ntmps = true)
    (t : Tri P cf.ntmps k cf.body (putArgs args 0 .leaf) h fl ts' h') (hfl : fl = .norm ∨ fl = .ret) (hr : resA ts' h' cf.results = some vs) : Con P k f args h (tupA vs) h' := by
  obtain ⟨c, r, h3, h4, h5, h6, h7, h8⟩ := comp_inv hc
  intro σ w args' hh hla hup
  refine ⟨callFunc_enter hf h3 h5, calls_of_wp_defers hf h3 ?_⟩
  have hn : args.length ≤ fn.ntmps := by rw [← h7]; exact Nat.le_of_ble_eq_true hl
  have hp := enter_pre (n := fn.ntmps) hh hla hn
  rw [h6, h7] at t
  have hds : ({ tmps := args'.toArray ++ Array.replicate (fn.ntmps - args'.toArray.size) undef, defers := [] } : Act).defers = [] := rfl
  refine wp_mono (t c rfl σ _ w hp.tr hh hp.sz hds hup).wp fun e a1 w1 hq => ?_
  obtain ⟨σ1, q⟩ := hq
  obtain ⟨v', m1, m2⟩ := results_ok q.hr q.tr (by rw [h8]; exact h4) hr
  have hlv : Leaves P fn a1.tmps (fun e w' => ∃ v' σ', e = .returned v' ∧ VR σ' (tupA vs) v' ∧ HR σ' h' w' ∧ Up σ' h'.next ∧ (∀ b, b < k → σ' b = σ b) ∧ Frm σ h w σ' h' w') a1.defers .returning w1 := by
    rw [q.ds]
    exact ⟨v', m1, v', σ1, rfl, m2, q.hr, q.up, q.fix, q.frm⟩
  have hfr := q.fr
  rcases hfl with rfl | rfl <;> cases hfr <;> exact hlv
end Go.Ab
namespace Go.Ab
section
variable {cx : Cx} {h h' : H}
theorem blt_of {a b : Nat} (h : a < b) : Nat.blt a b = true := by
  show Nat.ble (a + 1) b = true
  rw [Nat.ble_eq]; exact h
theorem ble_of {a b : Nat} (h : a ≤ b) : Nat.ble a b = true := by rw [Nat.ble_eq]; exact h
theorem g_idxSl {z b o n i : Nat} {c : Option Nat} {k : IntKind} (hi : i < n) : GivesA cx h (.idxSl z (.k (.sl b o n c z)) (.k (.int k (.ofNat i)))) (.ptr b (o + i * z)) h :=
  ⟨.inl (by simp only [opA, oIdxSl, evA, asNat, blt_of hi, Nat.beq_refl])⟩
theorem g_idxArr {n z b o i : Nat} {k : IntKind} (hi : i < n) : GivesA cx h (.idxArr n z (.k (.ptr b o)) (.k (.int k (.ofNat i)))) (.ptr b (o + i * z)) h :=
  ⟨.inl (by simp only [opA, oIdxArr, evA, asNat, blt_of hi])⟩
theorem g_load {s : Nat} {g : Bool} {b o : Nat} {cs : List AV} {v : AV} (hc : h.cells b = some cs) (hp : partA cs o s g = some v) : GivesA cx h (.load s g (.k (.ptr b o))) v h :=
  ⟨.inl (by simp only [opA, oLoad, evA, loadA, hc, hp, ofO])⟩
theorem g_store {s b o : Nat} {cs : List AV} {v : AV} (hc : h.get b = some (.cells true cs)) (hs : Nat.beq v.cells.length s = true) (hl : o + v.cells.length ≤ cs.length) (hk : cellsOk v.cells = true) (hh : h.put b (some (.cells true (splice cs o v.cells))) = h') :
    GivesA cx h (.store s (.k (.ptr b o)) (.k v)) undefA h' :=
  ⟨.inr (.inl ⟨by simp only [opA, oStore, evA, storeA, hc, hs, ble_of hl, hk, hh], rfl⟩)⟩
theorem wrap_nat {n : Nat} (h : n < 9223372036854775808) : IntKind.i64.wrap (Int.ofNat n) = Int.ofNat n := by
  have e : (Int.ofNat n) % 2 ^ 64 = Int.ofNat n := Int.emod_eq_of_lt (by simp) (by simp; omega)
  unfold IntKind.wrap
  simp only [IntKind.bits, IntKind.signed, e]
  rw [if_neg]
  simp; omega
theorem g_inc {c : EqC} {i : Nat} (hi : i < 4611686018427387904) : GivesA cx h (.bin .add c (.k (.int .i64 (.ofNat i))) (.k (.int .i64 1))) (.int .i64 (.ofNat (i + 1))) h :=
  ⟨.inl (by
    show ofO h (some (AV.int .i64 (IntKind.i64.wrap (Int.ofNat i + 1)))) = _
    rw [show Int.ofNat i + 1 = Int.ofNat (i + 1) from rfl, wrap_nat (by omega)]; rfl)⟩
theorem g_mkSl {z b m : Nat} {zero : List AV} {k k' : IntKind} (h1 : m * b ≤ maxRow) (h2 : m ≤ maxRow) : GivesA cx h (.mkSl z b zero (.k (.int k (.ofNat m))) (.k (.int k' (.ofNat m)))) (.sl h.next 0 m none z) (h.new (.cells true (repA m zero))) :=
  ⟨.inl (by simp only [opA, oMkSl, evA, asNat, Nat.beq_refl, ble_of h1, ble_of h2])⟩
end
end Go.Ab
namespace Go.Ab
theorem splice_len {T : List AV} {o : Nat} {vs : List AV} (h : o + vs.length ≤ T.length) : (splice T o vs).length = T.length := by
  simp [splice]; omega
theorem splice_get1 {T : List AV} {A : Nat} {v : AV} (h : A < T.length) (j : Nat) : (splice T A [v])[j]? = if j = A then some v else T[j]? := by
  unfold splice
  rw [List.append_assoc]
  by_cases hj : j < A
  · rw [List.getElem?_append_left (by simp; omega), List.getElem?_take_of_lt hj, if_neg (by omega)]
  · rw [List.getElem?_append_right (by simp; omega)]
    have hl : (T.take A).length = A := by simp; omega
    rw [hl]
    by_cases e : j = A
    · subst e; simp
    · rw [if_neg e]
      obtain ⟨d, rfl⟩ : ∃ d, j = A + 1 + d := ⟨j - A - 1, by omega⟩
      rw [show A + 1 + d - A = d + 1 by omega]
      simp
theorem ltL_app {n : Nat} : ∀ (a b : List AV), ltL n (a ++ b) = (ltL n a && ltL n b)
  | [], b => by simp [ltL]
  | v :: r, b => by simp only [List.cons_append, ltL, ltL_app r b, Bool.and_assoc]
theorem ltL_mem {n : Nat} : ∀ {l : List AV}, ltL n l = true ↔ ∀ v ∈ l, ltV n v = true
  | [] => by simp [ltL]
  | v :: r => by simp [ltL, ltL_mem (l := r)]
theorem ltL_splice {n : Nat} {T vs : List AV} {o : Nat} (h : ltL n T = true) (h2 : ltL n vs = true) : ltL n (splice T o vs) = true := by
  rw [ltL_mem] at h h2 ⊢
  intro v hv
  unfold splice at hv
  rcases List.mem_append.1 hv with hv | hv
  · rcases List.mem_append.1 hv with hv | hv
    · exact h v (List.mem_of_mem_take hv)
    · exact h2 v hv
  · exact h v (List.mem_of_mem_drop hv)
theorem ltL_rep {n m : Nat} {z : List AV} (h : ltL n z = true) : ltL n (repA m z) = true := by
  rw [ltL_mem] at h ⊢
  intro v hv
  simp only [repA, List.mem_flatten, List.mem_replicate] at hv
  obtain ⟨x, ⟨_, rfl⟩, h2⟩ := hv
  exact h v h2
theorem rep1_len (m : Nat) (v : AV) : (repA m [v]).length = m := by
  induction m with
  | zero => rfl
  | succ m ih => simp only [repA] at ih ⊢; rw [List.replicate_succ, List.flatten_cons, List.length_append, ih]; simp; omega
def cell2 (l : List (Int × Int)) : List AV := l.flatMap fun c => [.int .i64 c.1, .int .i64 c.2]
theorem cell2_free (n : Nat) : ∀ l, ltL n (cell2 l) = true
  | [] => by rw [cell2]; simp [ltL]
  | c :: r => by
    have := cell2_free n r
    rw [cell2] at this ⊢
    simp only [List.flatMap_cons, ltL_app, this, Bool.and_true]; rfl
theorem cell2_part {l : List (Int × Int)} {a v : Int} : ∀ {i : Nat}, l[i]? = some (a, v) → partA (cell2 l) (0 + i * 2) 2 true = some (.agg [.int .i64 a, .int .i64 v]) := by
  induction l with
  | nil => intro i h; simp at h
  | cons c r ih =>
    intro i h
    cases i with
    | zero =>
      simp at h; subst h
      simp only [cell2, List.flatMap_cons, partA]
      simp [Nat.ble]
    | succ i =>
      have := ih (i := i) (by simpa using h)
      have e : cell2 (c :: r) = .int .i64 c.1 :: .int .i64 c.2 :: cell2 r := by simp [cell2]
      rw [e]
      unfold partA at this ⊢
      simp only [List.length_cons] at this ⊢
      rw [show 0 + (i + 1) * 2 = (0 + i * 2) + 1 + 1 by omega]
      split at this
      · next hb =>
        have hb2 : Nat.ble (0 + i * 2 + 1 + 1 + 2) ((cell2 r).length + 1 + 1) = true := by
          rw [Nat.ble_eq] at hb ⊢; omega
        rw [hb2]
        simpa using this
      · cases this
theorem pigeons : ∀ (n : Nat) (s : List Int), s.Nodup → (∀ x ∈ s, 0 ≤ x ∧ x < (n : Int)) → s.length ≤ n
  | 0, s, _, hb => by
    cases s with
    | nil => simp
    | cons x r => have := hb x (by simp); omega
  | n + 1, s, hn, hb => by
    have h1 := pigeons n (s.erase (n : Int)) (hn.erase _) fun x hx => by
      have h2 := (hn.mem_erase_iff).1 hx
      have h3 := hb x h2.2
      have h4 := h2.1
      omega
    by_cases hm : (n : Int) ∈ s
    · rw [List.length_erase_of_mem hm] at h1; omega
    · rw [List.erase_of_not_mem hm] at h1; omega
end Go.Ab
namespace Go.Ab
def one0 (L : Loc) : Ren := fun b => match b with | 0 => some L | _ + 1 => none
theorem cell_inv {w : World} {a : Addr} {v : Value} (h : w.cell? a = some v) : ∃ c e fr, w.heap[a.block]? = some (.cells c e fr) ∧ a.spot = none ∧ c[a.off]? = some v := by
  unfold World.cell? at h
  split at h
  · next c e fr hc =>
    split at h
    · cases h
    · next hs => exact ⟨c, e, fr, hc, by simpa using hs, h⟩
  · cases h
theorem hr_row (N : Nat) {w : World} {ad : Addr} {cs : List AV} {vals : List Value} (h0 : 0 < vals.length) (hc : ∀ i v, vals[i]? = some v → w.cell? (ad.add i) = some v) (hl : ∀ σ, LR σ cs vals) :
    ∃ L : Loc, ad = ⟨L.blk, L.base, none⟩ ∧ N ≤ L.size ∧ HR (one0 L) (hOf 1 [(0, .cells false cs)]) w := by
  obtain ⟨blk, off, sp⟩ := ad
  obtain ⟨arr, e, fr, a1, a2, a3⟩ := cell_inv (hc 0 _ (List.getElem?_eq_getElem h0))
  have e0 : (⟨blk, off, sp⟩ : Addr).add 0 = ⟨blk, off, sp⟩ := rfl
  rw [e0] at a1 a2 a3
  simp only at a1 a2 a3
  subst a2
  have hget : ∀ i v, vals[i]? = some v → arr[off + i]? = some v := by
    intro i v hv
    obtain ⟨c, e', fr', b1, b2, b3⟩ := cell_inv (hc i v hv)
    rw [Addr.add_lit] at b1 b3
    simp only at b1 b3
    rw [a1] at b1; injection b1 with b1; injection b1 with b1; subst b1
    exact b3
  have hlen : off + vals.length ≤ arr.size := by
    have := hget (vals.length - 1) _ (List.getElem?_eq_getElem (by omega))
    have := (Array.getElem?_eq_some_iff.1 this).1
    omega
  have hcl : cs.length = vals.length := (hl (fun _ => none)).1
  refine ⟨⟨blk, off, max arr.size N⟩, rfl, Nat.le_max_right _ _, ⟨fun b L h => ?_, fun b x L h1 h2 => ?_, fun b b' L L' hne ho hb' h1 h2 => ?_, fun b hb => ?_⟩⟩
  · cases b with
    | zero =>
      cases h
      exact (Array.getElem?_eq_some_iff.1 a1).1
    | succ b => cases h
  · have hm := hOf_get h1
    simp at hm
    obtain ⟨rfl, rfl⟩ := hm
    cases h2
    refine ⟨arr, e, fr, a1, ⟨Nat.le_max_left _ _, by simp only; omega, fun h => by cases h⟩, ?_, fun h => by cases h⟩
    have : (arr.toList.drop off).take cs.length = vals := by
      apply List.ext_getElem?
      intro i
      rw [List.getElem?_take]
      by_cases hi : i < cs.length
      · rw [if_pos hi, List.getElem?_drop, Array.getElem?_toList]
        rw [List.getElem?_eq_getElem (by omega : i < vals.length)]
        exact hget i _ (List.getElem?_eq_getElem (by omega))
      · rw [if_neg hi, List.getElem?_eq_none (by omega)]
    simp only [this]
    exact hl _
  · cases b with
    | zero => cases b' with
      | zero => exact absurd rfl hne
      | succ b' => cases h2
    | succ b => cases h1
  · obtain ⟨x, hx⟩ := Option.isSome_iff_exists.1 hb
    have hm := hOf_get hx
    simp at hm
    show b < 1
    omega
theorem one0_up (L : Loc) (cs : List AV) : Up (one0 L) (hOf 1 [(0, .cells false cs)]).next := by
  intro b hb
  cases b with
  | zero => exact absurd hb (by show ¬ (1 ≤ 0); omega)
  | succ b => rfl
theorem Frm.below0 {σ σ' : Ren} {n : Nat} {l : List (Nat × Bk)} {h' : H} {w w' : World} (hn : ∀ b x, (b, x) ∈ l → ∃ cs, x = .cells false cs) (f : Frm σ (hOf n l) w σ' h' w') : RowKit.Below w.heap.size w w' := by
  refine ⟨f.os, f.tape, f.output, f.size, fun k hk => f.keep k hk fun b L ho hs => ?_⟩
  exfalso
  rcases ho with ⟨cs, e⟩ | ⟨es, c, e⟩
  · obtain ⟨_, e2⟩ := hn _ _ (hOf_get e); cases e2
  · obtain ⟨_, e2⟩ := hn _ _ (hOf_get e); cases e2
theorem cell2_lr (σ : Ren) : ∀ l : List (Int × Int), LR σ (cell2 l) (l.flatMap fun c => [.int .i64 c.1, .int .i64 c.2])
  | [] => LR.nil σ
  | c :: r => by
    have := cell2_lr σ r
    unfold cell2 at this ⊢
    simp only [List.flatMap_cons]
    exact LR.append (.cons (.int _ _) (.cons (.int _ _) (.nil _))) this
theorem flat2_get {l : List (Int × Int)} : ∀ {i : Nat} {v : Value}, (l.flatMap fun c => [Value.int .i64 c.1, .int .i64 c.2])[i]? = some v → ∃ p, l[i / 2]? = some p ∧ ((i % 2 = 0 ∧ v = .int .i64 p.1) ∨ (i % 2 = 1 ∧ v = .int .i64 p.2)) := by
  induction l with
  | nil => intro i v h; simp at h
  | cons c r ih =>
    intro i v h
    simp only [List.flatMap_cons] at h
    match i, h with
    | 0, h => simp at h; exact ⟨c, rfl, .inl ⟨rfl, h.symm⟩⟩
    | 1, h => simp at h; exact ⟨c, rfl, .inr ⟨rfl, h.symm⟩⟩
    | i + 2, h =>
      obtain ⟨p, h1, h2⟩ := ih (i := i) (v := v) (by simpa using h)
      refine ⟨p, ?_, ?_⟩
      · rw [show (i + 2) / 2 = i / 2 + 1 by omega]; simpa using h1
      · rw [show (i + 2) % 2 = i % 2 by omega]; exact h2
theorem flat2_len (l : List (Int × Int)) : (l.flatMap fun c => [Value.int .i64 c.1, .int .i64 c.2]).length = l.length * 2 := by
  induction l with
  | nil => rfl
  | cons c r ih => simp only [List.flatMap_cons, List.length_append, ih]; simp; omega
end Go.Ab
