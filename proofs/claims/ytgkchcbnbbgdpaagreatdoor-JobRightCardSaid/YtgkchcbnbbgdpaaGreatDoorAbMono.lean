/- More fuel changes nothing. -/
import Derived.Test.YtgkchcbnbbgdpaaGreatDoorAbLev
namespace Go.Ab

structure LvLe (L L' : Lv) : Prop where
  exec : ∀ c s rc, L.exec c s rc ≠ .no → L'.exec c s rc = L.exec c s rc
  call : ∀ f l h, L.call f l h ≠ .no → L'.call f l h = L.call f l h
  callD : ∀ f l h u, L.callD f l h u ≠ none → L'.callD f l h u = L.callD f l h u

theorem regA_mono {cl cl' : Nat → List AV → H → Cr} (hc : ∀ f l h, cl f l h ≠ .no → cl' f l h = cl f l h) : ∀ (ops : List CR) (s : S) (rc : Rc), regA cl ops s rc ≠ .no → regA cl' ops s rc = regA cl ops s rc
  | [], s, rc, h => rfl
  | o :: rest, s, rc, h => by
    simp only [regA] at h ⊢
    split
    · rfl
    · rename_i hg
      simp only [hg] at h
      split
      · rename_i hw; simp only [hw] at h; exact regA_mono hc rest _ _ h
      · rename_i hw
        simp only [hw] at h
        split
        · rename_i e; simp only [e] at h; exact regA_mono hc rest _ _ h
        · rename_i e; simp only [e] at h; exact regA_mono hc rest _ _ h
        · rename_i f l h1 e
          simp only [e] at h
          have hne : cl f l h1 ≠ .no := by
            intro q; rw [q] at h; exact h rfl
          rw [hc f l h1 hne]
          generalize cl f l h1 = z at h hne
          cases z with
          | ret v h2 => exact regA_mono hc rest _ _ h
          | pan v h2 => rfl
          | no => rfl
        · rename_i e; simp only [e] at h; exact regA_mono hc rest _ _ h
        · rename_i e
          simp only [e] at h
          split
          · exact regA_mono hc rest _ _ h
          · exact regA_mono hc rest _ _ h
          · rfl
        · rfl
        · rfl

theorem resD_mono {cl cl' : Nat → List AV → H → Cr} (hc : ∀ f l h, cl f l h ≠ .no → cl' f l h = cl f l h) {o : CR} {ts : TS} {h : H} (hn : resD cl o ts h ≠ none) : resD cl' o ts h = resD cl o ts h := by
  unfold resD at hn ⊢
  split
  · rfl
  · rename_i hg
    simp only [hg] at hn
    split
    · rfl
    · rename_i hw
      simp only [hw] at hn
      split
      · rfl
      · rfl
      · rename_i f l h1 e
        simp only [e] at hn
        have hne : cl f l h1 ≠ .no := by
          intro q; rw [q] at hn; exact hn rfl
        rw [hc f l h1 hne]
      · rfl

theorem traceD_mono {cl cl' : Nat → List AV → H → Cr} (hc : ∀ f l h, cl f l h ≠ .no → cl' f l h = cl f l h) : ∀ (ops : List CR) (ts : TS) (h : H), traceD cl ops ts h ≠ none → traceD cl' ops ts h = traceD cl ops ts h
  | [], ts, h, hn => rfl
  | o :: rest, ts, h, hn => by
    simp only [traceD] at hn ⊢
    have h1 : resD cl o ts h ≠ none := by
      intro q; rw [q] at hn; exact hn rfl
    rw [resD_mono hc h1]
    generalize resD cl o ts h = z at hn h1
    cases z with
    | none => rfl
    | some p =>
      simp only at hn ⊢
      have h2 : traceD cl rest (putT ts o.dst p.1) p.2 ≠ none := by
        intro q; rw [q] at hn; exact hn rfl
      rw [traceD_mono hc rest _ _ h2]

theorem drawA_mono {cl cl' : Nat → List AV → H → Cr} (hc : ∀ f l h, cl f l h ≠ .no → cl' f l h = cl f l h) {ops : List CR} {two : Option (Nat × Nat)} {s : S} {rc : Rc} (hn : drawA cl ops two s rc ≠ .no) : drawA cl' ops two s rc = drawA cl ops two s rc := by
  unfold drawA at hn ⊢
  have h2 : traceD cl ops s.ts s.h ≠ none := by
    intro q; rw [q] at hn; exact hn rfl
  rw [traceD_mono hc ops _ _ h2]

theorem leaveA_mono {cd cd' : Nat → List AV → H → Option AV → Option (H × Option AV)} (hc : ∀ f l h u, cd f l h u ≠ none → cd' f l h u = cd f l h u) (fn : CFn) : ∀ (ds : List (Nat × List AV)) (ts : TS) (h : H) (u : Option AV), leaveA cd fn ds ts h u ≠ .no → leaveA cd' fn ds ts h u = leaveA cd fn ds ts h u
  | [], ts, h, none, _ => rfl
  | [], ts, h, some v, _ => rfl
  | d :: ds, ts, h, u, hn => by
    simp only [leaveA] at hn ⊢
    have h1 : cd d.1 d.2 h u ≠ none := by
      intro q; rw [q] at hn; exact hn rfl
    rw [hc _ _ _ _ h1]
    generalize cd d.1 d.2 h u = z at hn h1
    cases z with
    | none => rfl
    | some p => exact leaveA_mono hc fn ds ts _ _ hn

theorem mkLv_mono (cx : Cx) {L L' : Lv} (hl : LvLe L L') : LvLe (mkLv cx L) (mkLv cx L') := by
  refine ⟨fun c s rc hn => ?_, fun f l h hn => ?_, fun f l h u hn => ?_⟩
  · show execL cx L' c s rc = execL cx L c s rc
    change execL cx L c s rc ≠ .no at hn
    cases c with
    | skip => rfl
    | reg ops => exact regA_mono hl.call ops s rc hn
    | draw ops two => exact drawA_mono hl.call hn
    | seq a b =>
      simp only [execL] at hn ⊢
      have h1 : L.exec a s rc ≠ .no := by
        intro q; rw [q] at hn; exact hn rfl
      rw [hl.exec a s rc h1]
      split
      · rename_i e; simp only [e] at hn; exact hl.exec _ _ _ hn
      · rfl
    | cond c t e =>
      simp only [execL] at hn ⊢
      split
      · rename_i e; simp only [e] at hn; exact hl.exec _ _ _ hn
      · rfl
    | block id body =>
      simp only [execL] at hn ⊢
      cases hr : isOn rc with
      | true => rfl
      | false =>
        rw [hr] at hn
        have h1 : L.exec body s rc ≠ .no := by
          intro q; rw [q] at hn; exact hn rfl
        rw [hl.exec body s rc h1]
    | loop body =>
      simp only [execL] at hn ⊢
      cases hr : isOn rc with
      | true => rfl
      | false =>
        rw [hr] at hn
        have h1 : L.exec body s rc ≠ .no := by
          intro q; rw [q] at hn; exact hn rfl
        rw [hl.exec body s rc h1]
        generalize L.exec body s rc = z at hn h1
        cases z with
        | no => rfl
        | ok f s1 rc1 =>
          cases f with
          | norm => exact hl.exec _ _ _ hn
          | exit n => rfl
          | ret => rfl
          | pan v => rfl
    | exit id => rfl
    | ret => rfl
  · show callL cx L' f l h = callL cx L f l h
    change callL cx L f l h ≠ .no at hn
    unfold callL at hn ⊢
    split
    · rfl
    · rename_i he
      simp only [he] at hn
      split
      · rename_i fn hfn
        simp only [hfn] at hn
        have h1 : L.exec fn.body (startA l h) .off ≠ .no := by
          intro q; rw [q] at hn
          cases hb : Nat.ble l.length fn.ntmps <;> (rw [hb] at hn; exact hn rfl)
        rw [hl.exec _ _ _ h1]
        cases hb : Nat.ble l.length fn.ntmps with
        | false => rfl
        | true =>
          rw [hb] at hn
          generalize L.exec fn.body (startA l h) .off = z at hn h1
          cases z with
          | no => rfl
          | ok fl s rc =>
            cases fl with
            | norm => exact leaveA_mono hl.callD _ _ _ _ _ hn
            | ret => exact leaveA_mono hl.callD _ _ _ _ _ hn
            | pan v => exact leaveA_mono hl.callD _ _ _ _ _ hn
            | exit n => rfl
      · rfl
  · show callDL cx L' f l h u = callDL cx L f l h u
    change callDL cx L f l h u ≠ none at hn
    unfold callDL at hn ⊢
    split
    · rename_i fn hfn
      simp only [hfn] at hn
      cases hb : Nat.ble l.length fn.ntmps with
      | false => rfl
      | true =>
        rw [hb] at hn
        cases hr : hasRec fn.body with
        | false =>
          rw [hr] at hn
          have h1 : L.exec fn.body (startA l h) .off ≠ .no := by
            intro q; rw [q] at hn; exact hn rfl
          simp only [hl.exec _ _ _ h1]
        | true =>
          rw [hr] at hn
          have h1 : L.exec fn.body (startA l h) (.on u) ≠ .no := by
            intro q; rw [q] at hn; exact hn rfl
          simp only [hl.exec _ _ _ h1]
    · rfl

theorem lev_mono1 (cx : Cx) : ∀ n, LvLe (lev cx n) (lev cx (n + 1))
  | 0 => ⟨fun _ _ _ h => absurd rfl h, fun _ _ _ h => absurd rfl h, fun _ _ _ _ h => absurd rfl h⟩
  | n + 1 => mkLv_mono cx (lev_mono1 cx n)

theorem LvLe.trans {a b c : Lv} (h : LvLe a b) (k : LvLe b c) : LvLe a c :=
  ⟨fun x s r hn => by rw [k.exec x s r (by rw [h.exec x s r hn]; exact hn), h.exec x s r hn],
   fun x s r hn => by rw [k.call x s r (by rw [h.call x s r hn]; exact hn), h.call x s r hn],
   fun x s r u hn => by rw [k.callD x s r u (by rw [h.callD x s r u hn]; exact hn), h.callD x s r u hn]⟩

theorem lev_mono (cx : Cx) (n : Nat) : ∀ k, LvLe (lev cx n) (lev cx (n + k))
  | 0 => ⟨fun _ _ _ _ => rfl, fun _ _ _ _ => rfl, fun _ _ _ _ _ => rfl⟩
  | k + 1 => (lev_mono cx n k).trans (lev_mono1 cx (n + k))

theorem lev_le (cx : Cx) {n m : Nat} (h : n ≤ m) : LvLe (lev cx n) (lev cx m) := by
  obtain ⟨k, rfl⟩ := Nat.le.dest h
  exact lev_mono cx n k
end Go.Ab
