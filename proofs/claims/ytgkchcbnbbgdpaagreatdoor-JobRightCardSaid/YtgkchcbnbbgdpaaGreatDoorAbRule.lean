/- Rules for runs with letters in them: no fuel in sight. -/
import Derived.Test.YtgkchcbnbbgdpaaGreatDoorAbMono
namespace Go.Ab

structure Ex (cx : Cx) (c : CC) (s : S) (f : Fl) (s' : S) : Prop where
  run : ∃ n, (lev cx n).exec c s .off = .ok f s' .off
structure Ca (cx : Cx) (f : Nat) (l : List AV) (h : H) (v : AV) (h' : H) : Prop where
  run : ∃ n, (lev cx n).call f l h = .ret v h'
structure Rg (cx : Cx) (ops : List CR) (s : S) (s' : S) : Prop where
  run : ∃ n, regA (lev cx n).call ops s .off = .ok .norm s' .off

section
variable {cx : Cx}

theorem ex_le {c : CC} {s s' : S} {f : Fl} {rc : Rc} {n m : Nat} (h : n ≤ m) (e : (lev cx n).exec c s .off = .ok f s' rc) : (lev cx m).exec c s .off = .ok f s' rc := by
  rw [(lev_le cx h).exec c s .off (by rw [e]; intro q; cases q)]; exact e
theorem ca_le {f : Nat} {l : List AV} {h h' : H} {v : AV} {n m : Nat} (hn : n ≤ m) (e : (lev cx n).call f l h = .ret v h') : (lev cx m).call f l h = .ret v h' := by
  rw [(lev_le cx hn).call f l h (by rw [e]; intro q; cases q)]; exact e
theorem rg_le {ops : List CR} {s s' : S} {f : Fl} {rc : Rc} {n m : Nat} (hn : n ≤ m) (e : regA (lev cx n).call ops s .off = .ok f s' rc) : regA (lev cx m).call ops s .off = .ok f s' rc := by
  rw [regA_mono (lev_le cx hn).call ops s .off (by rw [e]; intro q; cases q)]; exact e

theorem Ex.skip {s : S} : Ex cx .skip s .norm s := ⟨⟨1, rfl⟩⟩
theorem Ex.ret {s : S} : Ex cx .ret s .ret s := ⟨⟨1, rfl⟩⟩
theorem Ex.exit {s : S} {id : Nat} : Ex cx (.exit id) s (.exit id) s := ⟨⟨1, rfl⟩⟩
theorem Ex.reg {ops : List CR} {s s' : S} (h : Rg cx ops s s') : Ex cx (.reg ops) s .norm s' := let ⟨n, e⟩ := h.run; ⟨⟨n + 1, e⟩⟩
theorem Ex.draw {ops : List CR} {two : Option (Nat × Nat)} {s s' : S} {f : Fl} (n : Nat) (h : drawA (lev cx n).call ops two s .off = .ok f s' .off) : Ex cx (.draw ops two) s f s' := ⟨⟨n + 1, h⟩⟩
theorem Ex.seq {a b : CC} {s s1 s' : S} {f : Fl} (h1 : Ex cx a s .norm s1) (h2 : Ex cx b s1 f s') : Ex cx (.seq a b) s f s' := by
  obtain ⟨n, e1⟩ := h1.run
  obtain ⟨m, e2⟩ := h2.run
  refine ⟨⟨n + m + 1, ?_⟩⟩
  show execL cx (lev cx (n + m)) (.seq a b) s .off = _
  simp only [execL, ex_le (Nat.le_add_right n m) e1, ex_le (Nat.le_add_left m n) e2]
theorem Ex.stop {a b : CC} {s s' : S} {f : Fl} (h1 : Ex cx a s f s') (hf : f ≠ .norm) : Ex cx (.seq a b) s f s' := by
  obtain ⟨n, e1⟩ := h1.run
  refine ⟨⟨n + 1, ?_⟩⟩
  show execL cx (lev cx n) (.seq a b) s .off = _
  simp only [execL, e1]
  cases f <;> first | exact absurd rfl hf | rfl
theorem Ex.condT {c : Opd} {t e : CC} {s s' : S} {f : Fl} (hb : evA s.ts c = .bool true) (h : Ex cx t s f s') : Ex cx (.cond c t e) s f s' := by
  obtain ⟨n, e1⟩ := h.run
  refine ⟨⟨n + 1, ?_⟩⟩
  show execL cx (lev cx n) (.cond c t e) s .off = _
  simp only [execL, hb]; exact e1
theorem Ex.condF {c : Opd} {t e : CC} {s s' : S} {f : Fl} (hb : evA s.ts c = .bool false) (h : Ex cx e s f s') : Ex cx (.cond c t e) s f s' := by
  obtain ⟨n, e1⟩ := h.run
  refine ⟨⟨n + 1, ?_⟩⟩
  show execL cx (lev cx n) (.cond c t e) s .off = _
  simp only [execL, hb]; exact e1
theorem Ex.block {id : Nat} {body : CC} {s s' : S} (h : Ex cx body s .norm s') : Ex cx (.block id body) s .norm s' := by
  obtain ⟨n, e1⟩ := h.run
  refine ⟨⟨n + 1, ?_⟩⟩
  show execL cx (lev cx n) (.block id body) s .off = _
  simp only [execL, e1, isOn]
theorem Ex.blockRet {id : Nat} {body : CC} {s s' : S} (h : Ex cx body s .ret s') : Ex cx (.block id body) s .ret s' := by
  obtain ⟨n, e1⟩ := h.run
  refine ⟨⟨n + 1, ?_⟩⟩
  show execL cx (lev cx n) (.block id body) s .off = _
  simp only [execL, e1, isOn]
theorem Ex.blockExit {id : Nat} {body : CC} {s s' : S} (h : Ex cx body s (.exit id) s') : Ex cx (.block id body) s .norm s' := by
  obtain ⟨n, e1⟩ := h.run
  refine ⟨⟨n + 1, ?_⟩⟩
  show execL cx (lev cx n) (.block id body) s .off = _
  simp only [execL, e1, isOn, Nat.beq_refl]
theorem Ex.blockOut {id i : Nat} {body : CC} {s s' : S} (h : Ex cx body s (.exit i) s') (hi : Nat.beq i id = false) : Ex cx (.block id body) s (.exit i) s' := by
  obtain ⟨n, e1⟩ := h.run
  refine ⟨⟨n + 1, ?_⟩⟩
  show execL cx (lev cx n) (.block id body) s .off = _
  simp only [execL, e1, isOn, hi]
theorem Ex.loopNext {body : CC} {s s1 s' : S} {f : Fl} (h1 : Ex cx body s .norm s1) (h2 : Ex cx (.loop body) s1 f s') : Ex cx (.loop body) s f s' := by
  obtain ⟨n, e1⟩ := h1.run
  obtain ⟨m, e2⟩ := h2.run
  refine ⟨⟨n + m + 1, ?_⟩⟩
  show execL cx (lev cx (n + m)) (.loop body) s .off = _
  simp only [execL, isOn, ex_le (Nat.le_add_right n m) e1, ex_le (Nat.le_add_left m n) e2]
theorem Ex.loopStop {body : CC} {s s' : S} {f : Fl} (h1 : Ex cx body s f s') (hf : f ≠ .norm) : Ex cx (.loop body) s f s' := by
  obtain ⟨n, e1⟩ := h1.run
  refine ⟨⟨n + 1, ?_⟩⟩
  show execL cx (lev cx n) (.loop body) s .off = _
  simp only [execL, isOn, e1]
  cases f <;> first | exact absurd rfl hf | rfl

theorem Rg.nil {s : S} : Rg cx [] s s := ⟨⟨0, rfl⟩⟩
theorem Rg.un {o : CR} {rest : List CR} {s s' : S} (hg : guardOk s.ts o = true) (hw : wantedA s.ts o = false) (h : Rg cx rest ⟨putT s.ts o.dst undefA, s.ds, s.h⟩ s') : Rg cx (o :: rest) s s' := by
  obtain ⟨n, e⟩ := h.run
  exact ⟨⟨n, by simp only [regA, hg, hw]; exact e⟩⟩
theorem Rg.val {o : CR} {rest : List CR} {s s' : S} {v : AV} {h1 : H} (hg : guardOk s.ts o = true) (hw : wantedA s.ts o = true) (ho : opA s.ts s.h o.op = .val v h1) (h : Rg cx rest ⟨putT s.ts o.dst v, s.ds, h1⟩ s') : Rg cx (o :: rest) s s' := by
  obtain ⟨n, e⟩ := h.run
  exact ⟨⟨n, by simp only [regA, hg, hw, ho]; exact e⟩⟩
theorem Rg.skip {o : CR} {rest : List CR} {s s' : S} {h1 : H} (hg : guardOk s.ts o = true) (hw : wantedA s.ts o = true) (ho : opA s.ts s.h o.op = .skip h1) (h : Rg cx rest ⟨putT s.ts o.dst undefA, s.ds, h1⟩ s') : Rg cx (o :: rest) s s' := by
  obtain ⟨n, e⟩ := h.run
  exact ⟨⟨n, by simp only [regA, hg, hw, ho]; exact e⟩⟩
theorem Rg.call {o : CR} {rest : List CR} {s s' : S} {f : Nat} {l : List AV} {v : AV} {h1 h2 : H} (hg : guardOk s.ts o = true) (hw : wantedA s.ts o = true) (ho : opA s.ts s.h o.op = .call f l h1) (hc : Ca cx f l h1 v h2) (h : Rg cx rest ⟨putT s.ts o.dst v, s.ds, h2⟩ s') : Rg cx (o :: rest) s s' := by
  obtain ⟨n, e⟩ := h.run
  obtain ⟨m, e2⟩ := hc.run
  refine ⟨⟨n + m, ?_⟩⟩
  simp only [regA, hg, hw, ho, ca_le (Nat.le_add_left m n) e2]
  exact rg_le (Nat.le_add_right n m) e

theorem Ca.fn {f : Nat} {l : List AV} {h : H} {fn : CFn} {s : S} {fl : Fl} {vs : List AV} (he : cx.ext f = none) (hf : cx.fn f = some fn) (hl : Nat.ble l.length fn.ntmps = true) (hx : Ex cx fn.body (startA l h) fl s) (hfl : fl = .norm ∨ fl = .ret) (hd : s.ds = [])
    (hr : resA s.ts s.h fn.results = some vs) : Ca cx f l h (tupA vs) s.h := by
  obtain ⟨n, e⟩ := hx.run
  refine ⟨⟨n + 1, ?_⟩⟩
  show callL cx (lev cx n) f l h = _
  rcases hfl with rfl | rfl <;> simp only [callL, he, hf, hl, e, hd, leaveA, hr]
theorem Ca.ext {f : Nat} {l : List AV} {h h' : H} {v : AV} {e : List AV → H → Option (AV × H)} (he : cx.ext f = some e) (hv : e l h = some (v, h')) : Ca cx f l h v h' :=
  ⟨⟨1, by show callL cx lev0 f l h = _; simp only [callL, he, hv]⟩⟩

theorem Ca.calls {P : Program} (hmix : P.follows .mixedOrders = true) (hx : CxOk P cx) {f : Nat} {l : List AV} {h h' : H} {v : AV} (hc : Ca cx f l h v h') {σ : Ren} {w : World} {l' : List Value} (hh : HR σ h w) (hl : LR σ l l') (hf : Fresh σ h.next h'.next) :
    Calls P f l'.toArray w fun e w' => ∃ v' σ', e = .returned v' ∧ VR σ' v v' ∧ HR σ' h' w' ∧ Ext σ σ' h h' w w' :=
  let ⟨_, e⟩ := hc.run; calls_ok hmix hx e hh hl hf
end
end Go.Ab
