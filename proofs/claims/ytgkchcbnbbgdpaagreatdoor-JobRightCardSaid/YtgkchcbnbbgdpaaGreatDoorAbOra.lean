/- Runs with letters in them: each test is answered ahead, and what was assumed is written down. -/
import Derived.Test.YtgkchcbnbbgdpaaGreatDoorAbStep
namespace Go.Ab

abbrev Ans := List (Option Bool)
abbrev Lg := List Prop
def AllL (l : Lg) : Prop := ∀ p ∈ l, p

inductive OR (α : Type) where
  | ok (a : α) (ans : Ans) (log : Lg)
  | ask (b : Bool)
  | no

def askO (b : Bool) (ans : Ans) (log : Lg) : OR Bool :=
  match ans with
  | [] => .ask b
  | none :: r => .ok b r log
  | some x :: r => .ok x r ((b = x) :: log)

structure LO where
  exec : CC → S → Ans → Lg → OR (Fl × S)
  call : Nat → List AV → H → Ans → Lg → OR (AV × H)

/-- Is it done? -/
def wantO (ts : TS) (o : CR) (ans : Ans) (log : Lg) : OR Bool :=
  match o.guard with
  | none => .ok true ans log
  | some (d, want) => match ts.get d with
    | some (.bool b) => match askO b ans log with
      | .ok b ans log => .ok (b == want) ans log
      | .ask b => .ask b
      | .no => .no
    | some .any => .no
    | none => .no
    | _ => .ok false ans log

def doO (cl : Nat → List AV → H → Ans → Lg → OR (AV × H)) (o : CO) (ts : TS) (h : H) (ans : Ans) (log : Lg) : OR (AV × H) :=
  match o with
  | .pick c a b => match evA ts c with
    | .bool x => match askO x ans log with
      | .ok true ans log => .ok (evA ts a, h) ans log
      | .ok false ans log => .ok (evA ts b, h) ans log
      | .ask b => .ask b
      | .no => .no
    | _ => .no
  | o => match opA ts h o with
    | .val v h => .ok (v, h) ans log
    | .skip h => .ok (undefA, h) ans log
    | .call f args h => cl f args h ans log
    | _ => .no

def stepO (cl : Nat → List AV → H → Ans → Lg → OR (AV × H)) (o : CR) (ts : TS) (h : H) (ans : Ans) (log : Lg) : OR (AV × H) :=
  match wantO ts o ans log with
  | .ok true ans log => doO cl o.op ts h ans log
  | .ok false ans log => .ok (undefA, h) ans log
  | .ask b => .ask b
  | .no => .no

def regO (cl : Nat → List AV → H → Ans → Lg → OR (AV × H)) : List CR → S → Ans → Lg → OR (Fl × S)
  | [], s, ans, log => .ok (.norm, s) ans log
  | o :: rest, s, ans, log => match stepO cl o s.ts s.h ans log with
    | .ok (v, h) ans log => regO cl rest ⟨putT s.ts o.dst v, s.ds, h⟩ ans log
    | .ask b => .ask b
    | .no => .no

def traceO (cl : Nat → List AV → H → Ans → Lg → OR (AV × H)) : List CR → TS → H → Ans → Lg → OR (List (TS × H))
  | [], ts, h, ans, log => .ok [(ts, h)] ans log
  | o :: rest, ts, h, ans, log => match stepO cl o ts h ans log with
    | .ok (v, h') ans log => match traceO cl rest (putT ts o.dst v) h' ans log with
      | .ok l ans log => .ok ((ts, h) :: l) ans log
      | .ask b => .ask b
      | .no => .no
    | .ask b => .ask b
    | .no => .no

def okV : AV → Bool
  | .bool _ | .int _ _ | .str _ | .ptr _ _ | .pnil | .sl _ _ _ _ _ | .snil | .map _ | .mnil | .fnil | .inil => true
  | _ => false
def okVs : List AV → Bool
  | [] => true
  | v :: r => match okV v with
    | true => okVs r
    | false => false
def okA : AV → Bool
  | .agg l => okVs l
  | .tup l => okVs l
  | v => okV v

def holdsQ (o : CR) (ts : TS) (v : AV) (l : List (TS × H)) : List Nat → Option (List Prop)
  | [] => some []
  | q :: qs => match l[q]? with
    | some (_, h) => match opA ts h o.op with
      | .val v' _ => match holdsQ o ts v l qs with
        | some ps => some ((v = v') :: ps)
        | none => none
      | _ => none
    | none => none

def held1Q (l : List (TS × H)) (o : CR) (ts : TS) (h : H) : Option (List Prop) :=
  match isReads o, o.win, wantedA ts o with
  | true, _ :: _, true => match opA ts h o.op with
    | .val v _ => match okA v with
      | true => holdsQ o ts v l o.win
      | false => none
    | _ => none
  | _, _, _ => some []

def heldQ (all : List (TS × H)) : List CR → List (TS × H) → Option (List Prop)
  | o :: rest, (ts, h) :: l => match held1Q all o ts h, heldQ all rest l with
    | some a, some b => some (a ++ b)
    | _, _ => none
  | _, _ => some []

def drawO (cl : Nat → List AV → H → Ans → Lg → OR (AV × H)) (ops : List CR) (two : Option (Nat × Nat)) (s : S) (ans : Ans) (log : Lg) : OR (Fl × S) :=
  match traceO cl ops s.ts s.h ans log with
  | .ok l ans log => match heldQ l ops l with
    | some ps => match twoOk ops l two, l.getLast? with
      | true, some (ts, h) => .ok (.norm, ⟨ts, s.ds, h⟩) ans (ps ++ log)
      | _, _ => .no
    | none => .no
  | .ask b => .ask b
  | .no => .no

def execLO (L : LO) (c : CC) (s : S) (ans : Ans) (log : Lg) : OR (Fl × S) :=
  match c with
  | .skip => .ok (.norm, s) ans log
  | .reg ops => regO L.call ops s ans log
  | .draw ops two => drawO L.call ops two s ans log
  | .seq a b => match L.exec a s ans log with
    | .ok (.norm, s) ans log => L.exec b s ans log
    | r => r
  | .cond c t e => match evA s.ts c with
    | .bool b => match askO b ans log with
      | .ok b ans log => L.exec (match b with | true => t | false => e) s ans log
      | .ask b => .ask b
      | .no => .no
    | _ => .no
  | .block id body => match L.exec body s ans log with
    | .ok (.exit i, s) ans log => match Nat.beq i id with
      | true => .ok (.norm, s) ans log
      | false => .ok (.exit i, s) ans log
    | r => r
  | .loop body => match L.exec body s ans log with
    | .ok (.norm, s) ans log => L.exec (.loop body) s ans log
    | r => r
  | .exit id => .ok (.exit id, s) ans log
  | .ret => .ok (.ret, s) ans log

def callLO (cx : Cx) (L : LO) (f : Nat) (args : List AV) (h : H) (ans : Ans) (log : Lg) : OR (AV × H) :=
  match cx.ext f with
  | some e => match e args h with
    | some (v, h') => .ok (v, h') ans log
    | none => .no
  | none => match cx.fn f with
    | some fn => match Nat.ble args.length fn.ntmps, L.exec fn.body (startA args h) ans log with
      | true, .ok (.norm, s) ans log | true, .ok (.ret, s) ans log => match s.ds, resA s.ts s.h fn.results with
        | [], some l => .ok (tupA l, s.h) ans log
        | _, _ => .no
      | true, .ask b => .ask b
      | _, _ => .no
    | none => .no

def levO (cx : Cx) : Nat → LO
  | 0 => { exec := fun _ _ _ _ => .no, call := fun _ _ _ _ _ => .no }
  | n + 1 => { exec := execLO (levO cx n), call := callLO cx (levO cx n) }

/-! What it answers, the interpreter answers. -/

theorem askO_ok {b x : Bool} {ans ans' : Ans} {log log' : Lg} (h : askO b ans log = .ok x ans' log') (hl : AllL log') : AllL log ∧ b = x := by
  unfold askO at h
  split at h
  · cases h
  · cases h; exact ⟨hl, rfl⟩
  · cases h; exact ⟨fun p hp => hl p (List.mem_cons_of_mem _ hp), hl _ (List.mem_cons_self ..)⟩

def ClOra (cl : Nat → List AV → H → Cr) (co : Nat → List AV → H → Ans → Lg → OR (AV × H)) : Prop :=
  ∀ f args h ans log v h' ans' log', co f args h ans log = .ok (v, h') ans' log' → AllL log' → AllL log ∧ cl f args h = .ret v h'

theorem wantO_ok {ts : TS} {o : CR} {ans ans' : Ans} {log log' : Lg} {x : Bool} (h : wantO ts o ans log = .ok x ans' log') (hl : AllL log') : AllL log ∧ guardOk ts o = true ∧ wantedA ts o = x := by
  unfold wantO at h
  unfold guardOk wantedA
  split at h
  · next hg => cases h; simp only [hg]; exact ⟨hl, trivial, trivial⟩
  · next d want hg =>
    simp only [hg]
    split at h
    · next b hb =>
      simp only [hb]
      split at h
      · next ha => cases h; obtain ⟨h1, h2⟩ := askO_ok ha hl; subst h2; exact ⟨h1, trivial, rfl⟩
      · cases h
      · cases h
    · cases h
    · cases h
    · next v h1 h2 h3 =>
      cases h
      refine ⟨hl, ?_, ?_⟩
      · cases hq : ts.get d with
        | none => exact absurd hq h3
        | some v => cases v <;> first | rfl | exact absurd hq h2
      · cases hq : ts.get d with
        | none => rfl
        | some v => cases v <;> first | rfl | exact absurd hq (h1 _)

theorem doO_ok {cl : Nat → List AV → H → Cr} {co : Nat → List AV → H → Ans → Lg → OR (AV × H)} (hc : ClOra cl co) {o : CO} {ts : TS} {h h' : H} {v : AV} {ans ans' : Ans} {log log' : Lg} (e : doO co o ts h ans log = .ok (v, h') ans' log') (hl : AllL log') :
    AllL log ∧ (opA ts h o = .val v h' ∨ (opA ts h o = .skip h' ∧ v = undefA) ∨ ∃ f args h1, opA ts h o = .call f args h1 ∧ cl f args h1 = .ret v h') := by
  unfold doO at e
  split at e
  · next c a b =>
    split at e
    · next x hx =>
      split at e
      · next ha => cases e; obtain ⟨h1, h2⟩ := askO_ok ha hl; subst h2; exact ⟨h1, .inl (by simp only [opA, oPick, hx])⟩
      · next ha => cases e; obtain ⟨h1, h2⟩ := askO_ok ha hl; subst h2; exact ⟨h1, .inl (by simp only [opA, oPick, hx])⟩
      · cases e
      · cases e
    · cases e
  · split at e
    · next ho => cases e; exact ⟨hl, .inl ho⟩
    · next ho => cases e; exact ⟨hl, .inr (.inl ⟨ho, rfl⟩)⟩
    · next ho => obtain ⟨h1, h2⟩ := hc _ _ _ _ _ _ _ _ _ e hl; exact ⟨h1, .inr (.inr ⟨_, _, _, ho, h2⟩)⟩
    · cases e

theorem regO_ok {cl : Nat → List AV → H → Cr} {co : Nat → List AV → H → Ans → Lg → OR (AV × H)} (hc : ClOra cl co) : ∀ {ops : List CR} {s s' : S} {f : Fl} {ans ans' : Ans} {log log' : Lg}, regO co ops s ans log = .ok (f, s') ans' log' → AllL log' →
    AllL log ∧ regA cl ops s .off = .ok f s' .off := by
  intro ops
  induction ops with
  | nil => intro s s' f ans ans' log log' h hl; cases h; exact ⟨hl, rfl⟩
  | cons o rest ih =>
    intro s s' f ans ans' log log' h hl
    simp only [regO, stepO] at h
    cases hw : wantO s.ts o ans log with
    | ask b => simp only [hw] at h; cases h
    | no => simp only [hw] at h; cases h
    | ok x an lg =>
      simp only [hw] at h
      cases x with
      | false =>
        obtain ⟨h1, h2⟩ := ih h hl
        obtain ⟨h3, h4, h5⟩ := wantO_ok hw h1
        exact ⟨h3, by simp only [regA, h4, h5, h2]⟩
      | true =>
        simp only [] at h
        cases hd : doO co o.op s.ts s.h an lg with
        | ask b => simp only [hd] at h; cases h
        | no => simp only [hd] at h; cases h
        | ok p an lg2 =>
          obtain ⟨v, h1⟩ := p
          simp only [hd] at h
          obtain ⟨h6, h2⟩ := ih h hl
          obtain ⟨h7, h8⟩ := doO_ok hc hd h6
          obtain ⟨h3, h4, h5⟩ := wantO_ok hw h7
          refine ⟨h3, ?_⟩
          rcases h8 with h8 | ⟨h8, rfl⟩ | ⟨f1, args, h9, h8, h10⟩
          · simp only [regA, h4, h5, h8, h2]
          · simp only [regA, h4, h5, h8, h2]
          · simp only [regA, h4, h5, h8, h10, h2]

theorem traceO_ok {cl : Nat → List AV → H → Cr} {co : Nat → List AV → H → Ans → Lg → OR (AV × H)} (hc : ClOra cl co) : ∀ {ops : List CR} {ts : TS} {h : H} {l : List (TS × H)} {ans ans' : Ans} {log log' : Lg}, traceO co ops ts h ans log = .ok l ans' log' → AllL log' →
    AllL log ∧ traceD cl ops ts h = some l := by
  intro ops
  induction ops with
  | nil => intro ts h l ans ans' log log' e hl; cases e; exact ⟨hl, rfl⟩
  | cons o rest ih =>
    intro ts h l ans ans' log log' e hl
    simp only [traceO, stepO] at e
    cases hw : wantO ts o ans log with
    | ask b => simp only [hw] at e; cases e
    | no => simp only [hw] at e; cases e
    | ok x an lg =>
      simp only [hw] at e
      cases x with
      | false =>
        simp only [] at e
        cases ht : traceO co rest (putT ts o.dst undefA) h an lg with
        | ask b => simp only [ht] at e; cases e
        | no => simp only [ht] at e; cases e
        | ok l1 an lg2 =>
          simp only [ht] at e
          cases e
          obtain ⟨h1, h2⟩ := ih ht hl
          obtain ⟨h3, h4, h5⟩ := wantO_ok hw h1
          exact ⟨h3, by simp only [traceD, resD, h4, h5, h2]⟩
      | true =>
        simp only [] at e
        cases hd : doO co o.op ts h an lg with
        | ask b => simp only [hd] at e; cases e
        | no => simp only [hd] at e; cases e
        | ok p an lg2 =>
          obtain ⟨v, h1⟩ := p
          simp only [hd] at e
          cases ht : traceO co rest (putT ts o.dst v) h1 an lg2 with
          | ask b => simp only [ht] at e; cases e
          | no => simp only [ht] at e; cases e
          | ok l1 an lg2 =>
            simp only [ht] at e
            cases e
            obtain ⟨h6, h2⟩ := ih ht hl
            obtain ⟨h7, h8⟩ := doO_ok hc hd h6
            obtain ⟨h3, h4, h5⟩ := wantO_ok hw h7
            refine ⟨h3, ?_⟩
            rcases h8 with h8 | ⟨h8, rfl⟩ | ⟨f1, args, h9, h8, h10⟩
            · simp only [traceD, resD, h4, h5, h8, h2]
            · simp only [traceD, resD, h4, h5, h8, h2]
            · simp only [traceD, resD, h4, h5, h8, h10, h2]

theorem sameV_refl {v : AV} (h : okV v = true) : sameV v v = true := by
  cases v <;> first | (cases h; done) | skip
  all_goals simp only [sameV, Nat.beq_refl, Bool.and_self, beq_self_eq_true, decide_true]
  · next k n => cases k <;> rfl
  · next s => induction s with
    | nil => rfl
    | cons a r ih => simp only [listEq, Nat.beq_refl]; exact ih rfl
  · next a b c d e => cases d <;> simp [sameN]
theorem sameL_refl : ∀ {l : List AV}, okVs l = true → sameL l l = true
  | [], _ => rfl
  | v :: r, h => by
    simp only [okVs] at h
    split at h
    · next hv => simp only [sameL, sameV_refl hv, sameL_refl h, Bool.and_self]
    · cases h
theorem sameA_refl {v : AV} (h : okA v = true) : sameA v v = true := by
  cases v <;> first | exact sameL_refl h | (simp only [sameA]; exact sameV_refl h)

theorem holdsQ_ok {o : CR} {ts : TS} {v : AV} {l : List (TS × H)} (hv : okA v = true) : ∀ {qs : List Nat} {ps : List Prop}, holdsQ o ts v l qs = some ps → (∀ p ∈ ps, p) → holdsAt o ts v l qs = true := by
  intro qs
  induction qs with
  | nil => intro ps h hp; rfl
  | cons q qs ih =>
    intro ps h hp
    unfold holdsQ at h
    split at h
    · next ts1 h1 hq =>
      split at h
      · next v' h2 ho =>
        split at h
        · next ps1 hps =>
          cases h
          have e : v = v' := hp _ (List.mem_cons_self ..)
          subst e
          simp only [holdsAt, hq]; rw [ho]; simp only [sameA_refl hv]
          exact ih hps (fun p h => hp p (List.mem_cons_of_mem _ h))
        · cases h
      · cases h
    · cases h
theorem held1Q_ok {o : CR} {ts : TS} {h : H} {l : List (TS × H)} {ps : List Prop} (e : held1Q l o ts h = some ps) (hp : ∀ p ∈ ps, p) : held1 l o ts h = true := by
  unfold held1Q at e
  unfold held1
  split at e
  · next h1 h2 h3 =>
    split at e
    · next v h4 ho =>
      split at e
      · next hv => simp only [h1, h3, ho]; rw [h2]; rw [h2] at e; exact holdsQ_ok hv e hp
      · cases e
    · cases e
  · next hn =>
    split
    · next h1 h2 h3 => exact absurd h3 (hn _ _ h1 h2)
    · rfl
theorem heldQ_ok {all : List (TS × H)} : ∀ {ops : List CR} {l : List (TS × H)} {ps : List Prop}, heldQ all ops l = some ps → (∀ p ∈ ps, p) → heldD all ops l = true := by
  intro ops
  induction ops with
  | nil => intro l ps h hp; rfl
  | cons o rest ih =>
    intro l ps h hp
    cases l with
    | nil => rfl
    | cons p l =>
      obtain ⟨ts, h0⟩ := p
      unfold heldQ at h
      split at h
      · next a b ha hb =>
        cases h
        simp only [heldD, held1Q_ok ha (fun p h => hp p (List.mem_append_left _ h))]
        exact ih hb (fun p h => hp p (List.mem_append_right _ h))
      · cases h

theorem drawO_ok {cl : Nat → List AV → H → Cr} {co : Nat → List AV → H → Ans → Lg → OR (AV × H)} (hc : ClOra cl co) {ops : List CR} {two : Option (Nat × Nat)} {s s' : S} {f : Fl} {ans ans' : Ans} {log log' : Lg} (e : drawO co ops two s ans log = .ok (f, s') ans' log') (hl : AllL log') :
    AllL log ∧ drawA cl ops two s .off = .ok f s' .off := by
  unfold drawO at e
  split at e
  · next l an lg ht =>
    split at e
    · next ps ha =>
      split at e
      · next ts h h2 h3 =>
        cases e
        obtain ⟨h6, h7⟩ := traceO_ok hc ht (fun p h => hl p (List.mem_append_right _ h))
        exact ⟨h6, by simp only [drawA, h7, heldQ_ok ha (fun p h => hl p (List.mem_append_left _ h)), h2, h3]⟩
      · cases e
    · cases e
  · cases e
  · cases e

theorem levO_ok (cx : Cx) : ∀ n : Nat, (∀ c s ans log f s' ans' log', (levO cx n).exec c s ans log = .ok (f, s') ans' log' → AllL log' → AllL log ∧ (lev cx n).exec c s .off = .ok f s' .off) ∧ ClOra (lev cx n).call (levO cx n).call := by
  intro n
  induction n with
  | zero => exact ⟨fun _ _ _ _ _ _ _ _ h => (by cases h), fun _ _ _ _ _ _ _ _ _ h => (by cases h)⟩
  | succ n ih =>
    obtain ⟨ih, ihc⟩ := ih
    constructor
    · intro c s ans log f s' ans' log' h hl
      show AllL log ∧ execL cx (lev cx n) c s .off = _
      change execLO (levO cx n) c s ans log = _ at h
      cases c with
      | skip => cases h; exact ⟨hl, rfl⟩
      | reg ops => exact regO_ok ihc h hl
      | draw ops two => exact drawO_ok ihc h hl
      | seq a b =>
        simp only [execLO] at h
        split at h
        · next ha =>
          obtain ⟨h1, h2⟩ := ih _ _ _ _ _ _ _ _ h hl
          obtain ⟨h3, h4⟩ := ih _ _ _ _ _ _ _ _ ha h1
          exact ⟨h3, by simp only [execL, h4, h2]⟩
        · next hn =>
          obtain ⟨h3, h4⟩ := ih _ _ _ _ _ _ _ _ h hl
          refine ⟨h3, ?_⟩
          simp only [execL, h4]
          cases f with
          | norm => exact absurd h (hn _ _ _)
          | _ => rfl
      | cond c t e =>
        simp only [execLO] at h
        split at h
        · next b hb =>
          split at h
          · next ha =>
            obtain ⟨h1, h2⟩ := ih _ _ _ _ _ _ _ _ h hl
            obtain ⟨h3, h4⟩ := askO_ok ha h1
            subst h4
            exact ⟨h3, by simp only [execL, hb]; exact h2⟩
          · cases h
          · cases h
        · cases h
      | block id body =>
        simp only [execLO] at h
        split at h
        · next ha =>
          split at h
          · next hq => cases h; obtain ⟨h3, h4⟩ := ih _ _ _ _ _ _ _ _ ha hl; exact ⟨h3, by simp only [execL, isOn, h4, hq]⟩
          · next hq => cases h; obtain ⟨h3, h4⟩ := ih _ _ _ _ _ _ _ _ ha hl; exact ⟨h3, by simp only [execL, isOn, h4, hq]⟩
        · next hn =>
          obtain ⟨h3, h4⟩ := ih _ _ _ _ _ _ _ _ h hl
          refine ⟨h3, ?_⟩
          simp only [execL, isOn, h4]
          cases f with
          | exit i => exact absurd h (hn _ _ _ _)
          | _ => rfl
      | loop body =>
        simp only [execLO] at h
        split at h
        · next ha =>
          obtain ⟨h1, h2⟩ := ih _ _ _ _ _ _ _ _ h hl
          obtain ⟨h3, h4⟩ := ih _ _ _ _ _ _ _ _ ha h1
          exact ⟨h3, by simp only [execL, isOn, h4, h2]⟩
        · next hn =>
          obtain ⟨h3, h4⟩ := ih _ _ _ _ _ _ _ _ h hl
          refine ⟨h3, ?_⟩
          simp only [execL, isOn, h4]
          cases f with
          | norm => exact absurd h (hn _ _ _)
          | _ => rfl
      | exit id => cases h; exact ⟨hl, rfl⟩
      | ret => cases h; exact ⟨hl, rfl⟩
    · intro f args h ans log v h' ans' log' e hl
      show AllL log ∧ callL cx (lev cx n) f args h = _
      change callLO cx (levO cx n) f args h ans log = _ at e
      unfold callLO at e
      split at e
      · next e1 he =>
        split at e
        · next hv => cases e; exact ⟨hl, by simp only [callL, he, hv]⟩
        · cases e
      · next he =>
        split at e
        · next fn hf =>
          split at e
          · next hb hx =>
            split at e
            · next hd hr => cases e; obtain ⟨h3, h4⟩ := ih _ _ _ _ _ _ _ _ hx hl; exact ⟨h3, by simp only [callL, he, hf, hb, h4, hd, leaveA, hr]⟩
            · cases e
          · next hb hx =>
            split at e
            · next hd hr => cases e; obtain ⟨h3, h4⟩ := ih _ _ _ _ _ _ _ _ hx hl; exact ⟨h3, by simp only [callL, he, hf, hb, h4, hd, leaveA, hr]⟩
            · cases e
          · cases e
          · cases e
        · cases e

def AndL : List Prop → Prop
  | [] => True
  | p :: r => p ∧ AndL r
/-- What is looked at of an answer. -/
def view : OR (AV × H) → Option (AV × Nat × Prop)
  | .ok (v, h) _ l => some (v, h.next, AndL l)
  | _ => none
theorem AndL.all : ∀ {l : List Prop}, AndL l → AllL l
  | [], _ => fun _ h => by cases h
  | p :: r, h => fun q hq => by
    cases hq with
    | head => exact h.1
    | tail _ hq => exact AndL.all h.2 q hq

theorem Ca.ora {cx : Cx} {n : Nat} {f : Nat} {args : List AV} {h : H} {ans : Ans} {v : AV} {nx : Nat} {p : Prop} (e : view ((levO cx n).call f args h ans []) = some (v, nx, p)) (hl : p) : ∃ h', Ca cx f args h v h' ∧ h'.next = nx := by
  cases hr : (levO cx n).call f args h ans [] with
  | ok p an lg =>
    obtain ⟨v1, h1⟩ := p
    rw [hr] at e
    simp only [view, Option.some.injEq, Prod.mk.injEq] at e
    obtain ⟨rfl, rfl, rfl⟩ := e
    exact ⟨h1, ⟨⟨n, ((levO_ok cx n).2 _ _ _ _ _ _ _ _ _ hr (AndL.all hl)).2⟩⟩, rfl⟩
  | ask b => rw [hr] at e; cases e
  | no => rw [hr] at e; cases e
end Go.Ab
