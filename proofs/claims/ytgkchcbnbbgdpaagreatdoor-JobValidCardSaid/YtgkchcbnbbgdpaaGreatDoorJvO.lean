/- A job that came in, opened: its numbers, its rows of cells, of reductions, of texts of instructions. -/
import Derived.Test.YtgkchcbnbbgdpaaGreatDoorJvI
import Derived.Test.YtgkchcbnbbgdpaaGreatDoorRows
import Derived.ProofKit
import Derived.OpenShut
import Derived.Carry
import Derived.Deep.Slices
namespace Go.Proofs.YtgkchcbnbbgdpaaGreatDoor.QJobValid
open Go.RowKit Go.ChangeShapes Go.WideShapes Go.Proofs.YtgkchcbnbbgdpaaGreatDoorW.PrintWords Go.Proofs.YtgkchcbnbbgdpaaGreatDoorW.PrintLast
set_option maxRecDepth 100000
section
variable {H : Type} {enc : TypeId × Value → H} {W : World} {base : Nat} {spare : Nat → Bool} {held : Bool}
theorem C_of_trod {α : Type} {d : Kd α} {t e : TypeId} {fuel : Nat} {cs : List Value} {x : DataW H × List MemPlace} (ht : Tryz.prog.underlying t = some (.slice e)) (hz : Tryz.prog.cellsOf e = d.sz)
    (hel : ∀ (n : Nat) (cs' : List Value) (y : DataW H × List MemPlace), DataW.trod enc Tryz.prog W base spare held n e cs' = some y → ∃ a : α, d.K W a cs')
    (h : DataW.trod enc Tryz.prog W base spare held fuel t cs = some x) : ∃ (A : Option Addr) (c : Nat) (l : List α), cs = [.slice A l.length c] ∧ l.length ≤ c ∧ Kd.C d W A l.length l := by
  rcases Go.Deep.open_slice ht h with ⟨rfl, _⟩ | ⟨a, len, cap, m, n, D, Pl, rfl, _, hlc, hcap, hm, _, hE⟩
  · exact ⟨none, 0, [], rfl, Nat.le_refl _, rfl, by simp, fun h => by simp at h⟩
  · have hmm : len ≤ m := by rw [hm]; split <;> omega
    have hx : ∀ i : Fin len, ∃ a' : α, ∃ cs', W.cells? base (a.add (i.1 * Tryz.prog.cellsOf e)) (Tryz.prog.cellsOf e) = some cs' ∧ d.K W a' cs' := fun i => by
      obtain ⟨cs', h1, h2⟩ := hE i.1 (Nat.lt_of_lt_of_le i.2 hmm)
      obtain ⟨a', h3⟩ := hel _ _ _ h2
      exact ⟨a', cs', h1, h3⟩
    have hlen : (List.ofFn (fun i : Fin len => Classical.choose (hx i))).length = len := List.length_ofFn
    refine ⟨some a, cap, List.ofFn (fun i : Fin len => Classical.choose (hx i)), by rw [hlen], by rw [hlen]; exact hlc, rfl, ?_, fun _ => ⟨a, rfl, fun j p hj => ?_⟩⟩
    · rw [hlen]; exact Nat.le_trans hlc hcap
    · have hj' : j < len := by
        have := (List.getElem?_eq_some_iff.1 hj).1
        rwa [hlen] at this
      have hp : p = Classical.choose (hx ⟨j, hj'⟩) := by
        have := (List.getElem?_eq_some_iff.1 hj).2
        rw [← this, List.getElem_ofFn]
      subst hp
      obtain ⟨cs', h1, h3⟩ := Classical.choose_spec (hx ⟨j, hj'⟩)
      obtain ⟨_, hl, hc⟩ := World.cells?_some h1
      refine ⟨cs', hl.trans hz, h3, fun i u hu => ?_⟩
      have hi : i < Tryz.prog.cellsOf e := by rw [← hl]; exact (List.getElem?_eq_some_iff.1 hu).1
      have := hc i hi
      rw [hu, hz] at this
      rw [← this]
      rw [Addr.add_add]
theorem cells58 : Tryz.prog.cellsOf 58 = 2 := by kernel_rfl
theorem cells61 : Tryz.prog.cellsOf 61 = 2 := by kernel_rfl
theorem cells66 : Tryz.prog.cellsOf 66 = 6 := by kernel_rfl
theorem cells62 : Tryz.prog.cellsOf 62 = 1 := by kernel_rfl
theorem cells3 : Tryz.prog.cellsOf 3 = 1 := by kernel_rfl
theorem cells2 : Tryz.prog.cellsOf 2 = 1 := by kernel_rfl
theorem cells59 : Tryz.prog.cellsOf 59 = 1 := by kernel_rfl
theorem cells63 : Tryz.prog.cellsOf 63 = 1 := by kernel_rfl
theorem cells64 : Tryz.prog.cellsOf 64 = 1 := by kernel_rfl
theorem cells24 : Tryz.prog.cellsOf 24 = 1 := by kernel_rfl
theorem cells22 : Tryz.prog.cellsOf 22 = 1 := by kernel_rfl
theorem cells23 : Tryz.prog.cellsOf 23 = 1 := by kernel_rfl
theorem cells26 : Tryz.prog.cellsOf 26 = 6 := by kernel_rfl
theorem cells27 : Tryz.prog.cellsOf 27 = 1 := by kernel_rfl
theorem cells29 : Tryz.prog.cellsOf 29 = 11 := by kernel_rfl
theorem el58 (n : Nat) (cs : List Value) (y : DataW H × List MemPlace) (h : DataW.trod enc Tryz.prog W base spare held n 58 cs = some y) : ∃ a : S58, k58.K W a cs := by
  obtain ⟨xs, m, _, _, hl, hlen, hE⟩ := DataW.trod_struct Tryz.underlying58 h
  rw [cells58] at hl
  match cs, hl with
  | [v0, v1], _ =>
    match xs, hlen with
    | [y0, y1], _ =>
      have e0 : DataW.trod enc Tryz.prog W base spare held m 3 [v0] = some y0 := by simpa [cells3] using hE 0 _ rfl
      have e1 : DataW.trod enc Tryz.prog W base spare held m 2 [v1] = some y1 := by simpa [cells2] using hE 1 _ rfl
      obtain ⟨a0, q0, -, -⟩ := DataW.trod_int Tryz.underlying3 e0
      obtain ⟨a1, q1, -, -⟩ := DataW.trod_int Tryz.underlying2 e1
      simp only [List.cons.injEq, and_true] at q0 q1
      subst q0 q1
      exact ⟨⟨a0, a1⟩, k58_mk W ⟨a0, a1⟩⟩
theorem el61 (n : Nat) (cs : List Value) (y : DataW H × List MemPlace) (h : DataW.trod enc Tryz.prog W base spare held n 61 cs = some y) : ∃ a : S61, k61.K W a cs := by
  obtain ⟨xs, m, _, _, hl, hlen, hE⟩ := DataW.trod_struct Tryz.underlying61 h
  rw [cells61] at hl
  match cs, hl with
  | [v0, v1], _ =>
    match xs, hlen with
    | [y0, y1], _ =>
      have e0 : DataW.trod enc Tryz.prog W base spare held m 59 [v0] = some y0 := by simpa [cells59] using hE 0 _ rfl
      have e1 : DataW.trod enc Tryz.prog W base spare held m 2 [v1] = some y1 := by simpa [cells2] using hE 1 _ rfl
      obtain ⟨a0, q0, -, -⟩ := DataW.trod_int Tryz.underlying59 e0
      obtain ⟨a1, q1, -, -⟩ := DataW.trod_int Tryz.underlying2 e1
      simp only [List.cons.injEq, and_true] at q0 q1
      subst q0 q1
      exact ⟨⟨a0, a1⟩, k61_mk W ⟨a0, a1⟩⟩
theorem el66 (n : Nat) (cs : List Value) (y : DataW H × List MemPlace) (h : DataW.trod enc Tryz.prog W base spare held n 66 cs = some y) : ∃ a : S66, k66.K W a cs := by
  obtain ⟨xs, m, _, _, hl, hlen, hE⟩ := DataW.trod_struct Tryz.underlying66 h
  rw [cells66] at hl
  match cs, hl with
  | [v0, v1, v2, v3, v4, v5], _ =>
    match xs, hlen with
    | [y0, y1, y2, y3, y4, y5], _ =>
      have e0 : DataW.trod enc Tryz.prog W base spare held m 63 [v0] = some y0 := by simpa [cells63] using hE 0 _ rfl
      have e1 : DataW.trod enc Tryz.prog W base spare held m 64 [v1] = some y1 := by simpa [cells64] using hE 1 _ rfl
      have e2 : DataW.trod enc Tryz.prog W base spare held m 3 [v2] = some y2 := by simpa [cells3] using hE 2 _ rfl
      have e3 : DataW.trod enc Tryz.prog W base spare held m 3 [v3] = some y3 := by simpa [cells3] using hE 3 _ rfl
      have e4 : DataW.trod enc Tryz.prog W base spare held m 3 [v4] = some y4 := by simpa [cells3] using hE 4 _ rfl
      have e5 : DataW.trod enc Tryz.prog W base spare held m 2 [v5] = some y5 := by simpa [cells2] using hE 5 _ rfl
      obtain ⟨a0, q0, -, -⟩ := DataW.trod_int Tryz.underlying63 e0
      obtain ⟨a1, q1, -, -⟩ := DataW.trod_int Tryz.underlying64 e1
      obtain ⟨a2, q2, -, -⟩ := DataW.trod_int Tryz.underlying3 e2
      obtain ⟨a3, q3, -, -⟩ := DataW.trod_int Tryz.underlying3 e3
      obtain ⟨a4, q4, -, -⟩ := DataW.trod_int Tryz.underlying3 e4
      obtain ⟨a5, q5, -, -⟩ := DataW.trod_int Tryz.underlying2 e5
      simp only [List.cons.injEq, and_true] at q0 q1 q2 q3 q4 q5
      subst q0 q1 q2 q3 q4 q5
      exact ⟨⟨a0, a1, a2, a3, a4, a5⟩, k66_mk W ⟨a0, a1, a2, a3, a4, a5⟩⟩
theorem el62 (n : Nat) (cs : List Value) (y : DataW H × List MemPlace) (h : DataW.trod enc Tryz.prog W base spare held n 62 cs = some y) : ∃ a : List S66, (Kd.slice 66 k66).K W a cs := by
  obtain ⟨A, c, l, h1, h2, h3⟩ := C_of_trod (d := k66) Tryz.underlying62 cells66 el66 h
  exact ⟨l, A, c, h1, h2, h3⟩
theorem job_open {r : Reach} {b0 : Nat} {v : Value} {d : DataW H} {p : List MemPlace} (hv : Value.okWide Tryz.prog W r b0 29 v) (h : DataW.Trod enc Tryz.prog W base spare held 29 v d p) :
    ∃ (a0 : Int) (A1 : Option Addr) (c1 : Nat) (l1 : List S58) (A2 : Option Addr) (c2 : Nat) (l2 : List S61) (a3 a4 a5 a6 a7 a8 a9 : Int) (A10 : Option Addr) (c10 : Nat) (l10 : List (List S66)),
      v = .agg #[.int .i64 a0, .slice A1 l1.length c1, .slice A2 l2.length c2, .int .i64 a3, .int .i64 a4, .int .i64 a5, .int .i64 a6, .int .i64 a7, .int .i64 a8, .int .i64 a9, .slice A10 l10.length c10] ∧
      Kd.C k58 W A1 l1.length l1 ∧ l1.length ≤ c1 ∧ Kd.C k61 W A2 l2.length l2 ∧ l2.length ≤ c2 ∧ Kd.C (Kd.slice 66 k66) W A10 l10.length l10 ∧ l10.length ≤ c10 ∧ (∀ n ∈ [a5, a6, a7, a8, a9], -9223372036854775808 ≤ n ∧ n ≤ 9223372036854775807) := by
  obtain ⟨cs, rfl, hsz⟩ := okWide_struct Tryz.underlying29 hv
  obtain ⟨fuel, hf⟩ := h
  obtain ⟨xs, n, _, _, hl, hlen, hE⟩ := DataW.trod_struct Tryz.underlying29 hf
  obtain ⟨l⟩ := cs
  change l.length = _ at hsz
  rw [cells29] at hsz
  match l, hsz with
  | [v0, v1, v2, v3, v4, v5, v6, v7, v8, v9, v10], _ =>
    simp only [Value.cells] at hE
    match xs, hlen with
    | [y0, y1, y2, y3, y4, y5], _ =>
      have e0 : DataW.trod enc Tryz.prog W base spare held n 3 [v0] = some y0 := by simpa [cells3] using hE 0 _ rfl
      have e1 : DataW.trod enc Tryz.prog W base spare held n 22 [v1] = some y1 := by simpa [cells22] using hE 1 _ rfl
      have e2 : DataW.trod enc Tryz.prog W base spare held n 23 [v2] = some y2 := by simpa [cells23] using hE 2 _ rfl
      have e3 : DataW.trod enc Tryz.prog W base spare held n 3 [v3] = some y3 := by simpa [cells3] using hE 3 _ rfl
      have e4 : DataW.trod enc Tryz.prog W base spare held n 26 [v4, v5, v6, v7, v8, v9] = some y4 := by simpa [cells26] using hE 4 _ rfl
      have e5 : DataW.trod enc Tryz.prog W base spare held n 27 [v10] = some y5 := by simpa [cells27] using hE 5 _ rfl
      obtain ⟨a0, q0, -, -⟩ := DataW.trod_int Tryz.underlying3 e0
      obtain ⟨a3, q3, -, -⟩ := DataW.trod_int Tryz.underlying3 e3
      obtain ⟨A1, c1, l1, q1, hl1, hc1⟩ := C_of_trod (d := k58) Tryz.underlying22 cells58 el58 e1
      obtain ⟨A2, c2, l2, q2, hl2, hc2⟩ := C_of_trod (d := k61) Tryz.underlying23 cells61 el61 e2
      obtain ⟨A10, c10, l10, q10, hl10, hc10⟩ := C_of_trod (d := Kd.slice 66 k66) Tryz.underlying27 cells62 el62 e5
      obtain ⟨zs, m, _, _, _, hlen4, hF⟩ := DataW.trod_struct Tryz.underlying26 e4
      match zs, hlen4 with
      | [z0, z1, z2, z3, z4, z5], _ =>
        have f0 : DataW.trod enc Tryz.prog W base spare held m 24 [v4] = some z0 := by simpa [cells24] using hF 0 _ rfl
        have f1 : DataW.trod enc Tryz.prog W base spare held m 2 [v5] = some z1 := by simpa [cells2] using hF 1 _ rfl
        have f2 : DataW.trod enc Tryz.prog W base spare held m 2 [v6] = some z2 := by simpa [cells2] using hF 2 _ rfl
        have f3 : DataW.trod enc Tryz.prog W base spare held m 2 [v7] = some z3 := by simpa [cells2] using hF 3 _ rfl
        have f4 : DataW.trod enc Tryz.prog W base spare held m 3 [v8] = some z4 := by simpa [cells3] using hF 4 _ rfl
        have f5 : DataW.trod enc Tryz.prog W base spare held m 3 [v9] = some z5 := by simpa [cells3] using hF 5 _ rfl
        obtain ⟨a4, q4, -, -⟩ := DataW.trod_int Tryz.underlying24 f0
        obtain ⟨a5, q5, -, r5⟩ := DataW.trod_int Tryz.underlying2 f1
        obtain ⟨a6, q6, -, r6⟩ := DataW.trod_int Tryz.underlying2 f2
        obtain ⟨a7, q7, -, r7⟩ := DataW.trod_int Tryz.underlying2 f3
        obtain ⟨a8, q8, -, r8⟩ := DataW.trod_int Tryz.underlying3 f4
        obtain ⟨a9, q9, -, r9⟩ := DataW.trod_int Tryz.underlying3 f5
        simp only [List.cons.injEq, and_true] at q0 q1 q2 q3 q4 q5 q6 q7 q8 q9 q10
        subst q0 q1 q2 q3 q4 q5 q6 q7 q8 q9 q10
        refine ⟨a0, A1, c1, l1, A2, c2, l2, a3, a4, a5, a6, a7, a8, a9, A10, c10, l10, rfl, hc1, hl1, hc2, hl2, hc10, hl10, fun n hn => ?_⟩
        have w : ∀ m : Int, (Lit.int .i64 m).wf = true → -9223372036854775808 ≤ m ∧ m ≤ 9223372036854775807 := fun m h => by simpa [Lit.wf, IntKind.min, IntKind.max, IntKind.signed, IntKind.bits] using h
        simp only [List.mem_cons, List.mem_nil_iff, or_false] at hn
        rcases hn with rfl | rfl | rfl | rfl | rfl
        · exact w _ r5
        · exact w _ r6
        · exact w _ r7
        · exact w _ r8
        · exact w _ r9
end
end Go.Proofs.YtgkchcbnbbgdpaaGreatDoor.QJobValid
