/- JobRight's argument, opened. -/
import Derived.Test.YtgkchcbnbbgdpaaGreatDoorAbRight
import Derived.Test.YtgkchcbnbbgdpaaGreatDoorRows
import Derived.ProofKit
import Derived.OpenShut
import Derived.Carry
import Derived.Stop.Joined
namespace Go.Proofs.YtgkchcbnbbgdpaaGreatDoor
open Go.ChangeShapes Go.WideShapes Go.ChangeAt Go.RowKit
theorem Tryz.own : ownKnob Tryz.prog.godebug = none := by kernel_rfl
theorem Tryz.laidOut : laidOutB Tryz.prog = true := by kernel_rfl

/-- What is left behind a call that returns true and turns nothing that was there. -/
theorem post_of_below {H : Type} {enc : TypeId × Value → H} {P : Program} {f : Func} {s : ChangeSpec} {apart fresh handsOn again : Bool} {W W' : World} {args : Array Value} {v : Value} {ds gs : List (DataW H)} {before pa pv : List MemPlace}
    (hW : DataW.Whole enc P f.params.toList s.vars apart W args.toList ds gs before)
    (hres : ∀ (b : Nat) (sp : Nat → Bool) (hd : Bool), DataW.TrodAll enc P W' b sp hd f.resultTypes.toList (v.resultList f.resultTypes.size) (s.fn H (ds ++ gs)).results [])
    (hargs : ∀ sp : Nat → Bool, (∀ p ∈ before, sp p.block = true) → DataW.TrodAll enc P W' 0 sp true f.params.toList args.toList (s.fn H (ds ++ gs)).args pa)
    (hvars : ∀ sp : Nat → Bool, (∀ p ∈ before, sp p.block = true) → DataW.TrodVars enc P W' sp s.vars (s.fn H (ds ++ gs)).vars pv)
    (hps : before = pa ++ pv) (hb : Below W.heap.size W W')
    (hok : ∀ (j : Nat) (t : TypeId) (r : Value), f.resultTypes[j]? = some t → (v.resultList f.resultTypes.size)[j]? = some r → Value.okWide P W' .any 0 t r) :
    s.post enc P f apart fresh handsOn again W args v W' := by
  have hlt : ∀ p ∈ before, p.block < W.heap.size := fun p hp => by simpa using hW.lt p hp
  have old : ∀ p ∈ before, (fun b => decide (b < W.heap.size)) p.block = true := fun p hp => decide_eq_true (hlt p hp)
  refine ⟨ds, gs, before, [], pa, pv, hW, hres _ _ _, hargs _ old, hvars _ old, ?_, fun _ => ?_⟩
  · exact World.keptBut_mono (fun p hp => ⟨hp, by rw [hps, List.mem_append] at hp; exact Or.inr hp⟩) (hb.frame (· ∈ before))
  · obtain ⟨_, _, _, _, _, hz, hn⟩ := hW
    refine ⟨hok, _, _, ([] ++ pa) ++ pv, ⟨[] ++ pa, pv, trodAll_append (hargs _ (fun _ _ => rfl)) (hres _ _ _), hvars _ (fun _ _ => rfl), rfl, ?_, ?_⟩, ?_⟩
    · intro b off hp
      have hp' := hp
      rw [List.nil_append, ← hps] at hp'
      exact (hb.frozen (hlt _ hp')).trans (hz b off hp')
    · intro ha
      simpa [hps] using hn ha
    · intro p hp _
      rw [hps]
      simpa using hp

set_option maxRecDepth 100000 in
theorem right_open {H : Type} {enc : TypeId × Value → H} {W : World} {base b0 : Nat} {r : Reach} {spare : Nat → Bool} {held : Bool} {v : Value} {d : DataW H} {p : List MemPlace}
    (hv : Value.okWide Tryz.prog W r b0 37 v) (h : DataW.Trod enc Tryz.prog W base spare held 37 v d p) :
    ∃ (c0 c1 c2 c3 c4 c5 c6 c7 c8 c9 : Int) (b : Bool), v = .agg #[.int .i64 c0, .int .i64 c1, .int .i64 c2, .int .i64 c3, .int .i64 c4, .int .i64 c5, .int .i64 c6, .int .i64 c7, .int .i64 c8, .int .i64 c9, .bool b] := by
  obtain ⟨cs, rfl, hsz⟩ := okWide_struct Tryz.underlying37 hv
  have hC : Tryz.prog.cellsOf 37 = 11 := by kernel_rfl
  have h3 : Tryz.prog.cellsOf 3 = 1 := by kernel_rfl
  have h4 : Tryz.prog.cellsOf 4 = 1 := by kernel_rfl
  have h35 : Tryz.prog.cellsOf 35 = 1 := by kernel_rfl
  obtain ⟨fuel, hf⟩ := h
  obtain ⟨xs, n, _, _, hl, hlen, hE⟩ := DataW.trod_struct Tryz.underlying37 hf
  obtain ⟨l⟩ := cs
  change l.length = _ at hsz
  rw [hC] at hsz
  match l, hsz with
  | [v0, v1, v2, v3, v4, v5, v6, v7, v8, v9, v10], _ =>
    simp only [Value.cells] at hE
    match xs, hlen with
    | [y0, y1, y2, y3, y4, y5, y6, y7, y8, y9, y10], _ =>
      have e0 : DataW.trod enc Tryz.prog W base spare held n 3 [v0] = some y0 := by simpa [h3, h4, h35] using hE 0 _ rfl
      have e1 : DataW.trod enc Tryz.prog W base spare held n 3 [v1] = some y1 := by simpa [h3, h4, h35] using hE 1 _ rfl
      have e2 : DataW.trod enc Tryz.prog W base spare held n 35 [v2] = some y2 := by simpa [h3, h4, h35] using hE 2 _ rfl
      have e3 : DataW.trod enc Tryz.prog W base spare held n 3 [v3] = some y3 := by simpa [h3, h4, h35] using hE 3 _ rfl
      have e4 : DataW.trod enc Tryz.prog W base spare held n 3 [v4] = some y4 := by simpa [h3, h4, h35] using hE 4 _ rfl
      have e5 : DataW.trod enc Tryz.prog W base spare held n 3 [v5] = some y5 := by simpa [h3, h4, h35] using hE 5 _ rfl
      have e6 : DataW.trod enc Tryz.prog W base spare held n 3 [v6] = some y6 := by simpa [h3, h4, h35] using hE 6 _ rfl
      have e7 : DataW.trod enc Tryz.prog W base spare held n 3 [v7] = some y7 := by simpa [h3, h4, h35] using hE 7 _ rfl
      have e8 : DataW.trod enc Tryz.prog W base spare held n 3 [v8] = some y8 := by simpa [h3, h4, h35] using hE 8 _ rfl
      have e9 : DataW.trod enc Tryz.prog W base spare held n 3 [v9] = some y9 := by simpa [h3, h4, h35] using hE 9 _ rfl
      have e10 : DataW.trod enc Tryz.prog W base spare held n 4 [v10] = some y10 := by simpa [h3, h4, h35] using hE 10 _ rfl
      obtain ⟨a0, q0, -, -⟩ := DataW.trod_int Tryz.underlying3 e0
      obtain ⟨a1, q1, -, -⟩ := DataW.trod_int Tryz.underlying3 e1
      obtain ⟨a2, q2, -, -⟩ := DataW.trod_int Tryz.underlying35 e2
      obtain ⟨a3, q3, -, -⟩ := DataW.trod_int Tryz.underlying3 e3
      obtain ⟨a4, q4, -, -⟩ := DataW.trod_int Tryz.underlying3 e4
      obtain ⟨a5, q5, -, -⟩ := DataW.trod_int Tryz.underlying3 e5
      obtain ⟨a6, q6, -, -⟩ := DataW.trod_int Tryz.underlying3 e6
      obtain ⟨a7, q7, -, -⟩ := DataW.trod_int Tryz.underlying3 e7
      obtain ⟨a8, q8, -, -⟩ := DataW.trod_int Tryz.underlying3 e8
      obtain ⟨a9, q9, -, -⟩ := DataW.trod_int Tryz.underlying3 e9
      obtain ⟨a10, q10, -⟩ := DataW.trod_bool Tryz.underlying4 e10
      simp only [List.cons.injEq, and_true] at q0 q1 q2 q3 q4 q5 q6 q7 q8 q9 q10
      subst q0 q1 q2 q3 q4 q5 q6 q7 q8 q9 q10
      exact ⟨_, _, _, _, _, _, _, _, _, _, _, rfl⟩

end Go.Proofs.YtgkchcbnbbgdpaaGreatDoor
