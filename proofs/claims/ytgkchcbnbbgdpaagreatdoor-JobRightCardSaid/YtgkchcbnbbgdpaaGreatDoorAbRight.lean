/- JobRight's body: whatever the config, it returns true and turns nothing that was there. -/
import Derived.Test.YtgkchcbnbbgdpaaGreatDoorAbRP
import Derived.Test.YtgkchcbnbbgdpaaGreatDoorAbAlive
namespace Go.Ab
open Go.Proofs Go.RowKit

theorem extAlive_ok {args : List AV} {h0 : H} {v : AV} {h' : H} (he : extAlive args h0 = some (v, h')) :
    Grow h0 h' ∧ ∀ (σ : Ren) (w : World) (args' : List Value), HR σ h0 w → LR σ args args' → Fresh σ h0.next h'.next → CallRet Tryz.prog σ h0 w 14 args'.toArray v h' := by
  unfold extAlive at he
  split at he
  · cases he
    refine ⟨Grow.refl _, fun σ w args' hh hl hf => ?_⟩
    have e : args' = [] := by
      have := hl.1
      cases args' with
      | nil => rfl
      | cons a r => cases this
    subst e
    refine ⟨callFunc_enter Tryz.func14 (c := (Tryz.f14.body).get (by kernel_rfl)) (by kernel_rfl) (by kernel_rfl), ?_⟩
    refine (alive_calls w).mono ?_
    rintro e w' ⟨rfl, hb⟩
    obtain ⟨h1, h2⟩ := hh.below hb
    exact ⟨_, σ, rfl, VR.bool true, h1, h2⟩
  · cases he

theorem cxR_ok : CxOk Tryz.prog cxR := by
  refine ⟨fun f cf h => ?_, fun f e h args h0 v h' he => ?_, fun f e h args h0 v h' he => ?_⟩
  · change fnR f = some cf at h
    unfold fnR at h
    split at h
    · cases h; exact ⟨_, Tryz.func4, by kernel_rfl⟩
    · cases h; exact ⟨_, Tryz.func15, by kernel_rfl⟩
    · cases h; exact ⟨_, Tryz.func16, by kernel_rfl⟩
    · cases h; exact ⟨_, Tryz.func38, by kernel_rfl⟩
    · cases h
  · change exR f = some e at h
    unfold exR at h
    split at h
    · cases h; exact (extAlive_ok he).1
    · cases h
  · change exR f = some e at h
    unfold exR at h
    split at h
    · cases h; exact (extAlive_ok he).2
    · cases h

theorem VR.aggL {σ : Ren} {cs : List AV} {ds : List Value} (h : LR σ cs ds) : VR σ (.agg cs) (.agg ds.toArray) :=
  VR.agg (by simpa using h.1) (fun i v v' h1 h2 => h.2 i v v' h1 (by simpa using h2))

theorem right_calls (c0 c1 c2 c3 c4 c5 c6 c7 c8 c9 : Int) (b : Bool) (w : World) :
    Calls Tryz.prog 4 #[.agg #[.int .i64 c0, .int .i64 c1, .int .i64 c2, .int .i64 c3, .int .i64 c4, .int .i64 c5, .int .i64 c6, .int .i64 c7, .int .i64 c8, .int .i64 c9, .bool b]] w
      fun e w' => e = .returned (.bool true) ∧ Below w.heap.size w w' := by
  obtain ⟨h', hc⟩ := right_all c0 c1 c2 c3 c4 c5 c6 c7 c8 c9 b
  have hv : VR (fun _ => Option.none) (cfgA c0 c1 c2 c3 c4 c5 c6 c7 c8 c9 b) (.agg [.int .i64 c0, .int .i64 c1, .int .i64 c2, .int .i64 c3, .int .i64 c4, .int .i64 c5, .int .i64 c6, .int .i64 c7, .int .i64 c8, .int .i64 c9, .bool b].toArray) :=
    VR.aggL (.cons (.int _ _) (.cons (.int _ _) (.cons (.int _ _) (.cons (.int _ _) (.cons (.int _ _) (.cons (.int _ _) (.cons (.int _ _) (.cons (.int _ _) (.cons (.int _ _) (.cons (.int _ _) (.cons (.bool _) (.nil _))))))))))))
  refine (hc.calls mixedT cxR_ok (HR.none 0 w) (LR.cons hv (.nil _)) (fun _ _ _ => rfl)).mono ?_
  rintro e w' ⟨v', σ', rfl, hv, _, hx⟩
  cases hv
  exact ⟨rfl, hx.below⟩
end Go.Ab
