/- Joined out of: QJobCopiesx5. -/
import Derived.Test.YtgkchcbnbbgdpaaGreatDoorJcC
import Derived.Test.YtgkchcbnbbgdpaaGreatDoorJcE
set_option linter.unusedVariables false
set_option linter.unusedSimpArgs false
namespace Go.Proofs.YtgkchcbnbbgdpaaGreatDoor.QJobCopies
open Go.RowKit Go.Proofs.YtgkchcbnbbgdpaaGreatDoorW.PrintWords Go.Proofs.YtgkchcbnbbgdpaaGreatDoorW.PrintLast
attribute [local go_sem high] eqA58 eqA66
mutual
def outriderlaw17_Great.j0 : Nat → Bool → Int → List (S58) → List (S61) → Int → Int → Int → Int → Int → Int → Int → List (List (S66)) → Option (Bool)
 | 0, _, _, _, _, _, _, _, _, _, _, _, _ => none
 | k + 1, x19, x102000, x102001, x102002, x102003, x102004, x102005, x102006, x102007, x102008, x102009, x102010 => if x19 = true then (some true) else (outriderlaw17_Great.l0 k 0 x102000 x102001 x102002 x102003 x102004 x102005 x102006 x102007 x102008 x102009 x102010)
def outriderlaw17_Great.l0 : Nat → Int → Int → List (S58) → List (S61) → Int → Int → Int → Int → Int → Int → Int → List (List (S66)) → Option (Bool)
 | 0, _, _, _, _, _, _, _, _, _, _, _, _ => none
 | k + 1, x3, x102000, x102001, x102002, x102003, x102004, x102005, x102006, x102007, x102008, x102009, x102010 => if x3 < (x102010.length : Int) then (if 0 ≤ x3 then (if ((rd_L2 x102010 x3).length : Int) > 700 then (some true) else (outriderlaw17_Great.l0 k (wrap64 (x3 + 1)) x102000 x102001 x102002 x102003 x102004 x102005 x102006 x102007 x102008 x102009 x102010)) else (none)) else (some false)
end
def outriderlaw17_Great.f (k : Nat) (a0_0 : Int) (l0_1 : List (S58)) (l0_2 : List (S61)) (a0_3 : Int) (a0_4 : Int) (a0_5 : Int) (a0_6 : Int) (a0_7 : Int) (a0_8 : Int) (a0_9 : Int) (l0_10 : List (List (S66))) : Option (Bool) := if (l0_1.length : Int) > 200 then (outriderlaw17_Great.j0 k true a0_0 l0_1 l0_2 a0_3 a0_4 a0_5 a0_6 a0_7 a0_8 a0_9 l0_10) else (if (l0_2.length : Int) > 50 then (outriderlaw17_Great.j0 k true a0_0 l0_1 l0_2 a0_3 a0_4 a0_5 a0_6 a0_7 a0_8 a0_9 l0_10) else (outriderlaw17_Great.j0 k (decide ((l0_10.length : Int) > 50)) a0_0 l0_1 l0_2 a0_3 a0_4 a0_5 a0_6 a0_7 a0_8 a0_9 l0_10))
set_option maxHeartbeats 8000000 in
set_option maxRecDepth 100000 in
theorem outriderlaw17_Great.calls (k : Nat) (a0_0 : Int) (A0_1 : Option Addr) (c0_1 : Nat) (l0_1 : List (S58)) (A0_2 : Option Addr) (c0_2 : Nat) (l0_2 : List (S61)) (a0_3 : Int) (a0_4 : Int) (a0_5 : Int) (a0_6 : Int) (a0_7 : Int) (a0_8 : Int) (a0_9 : Int) (A0_10 : Option Addr) (c0_10 : Nat) (l0_10 : List (List (S66))) (r : Bool) (w : World) (hr0_1 : Kd.C k58 w A0_1 l0_1.length l0_1) (hc0_1 : l0_1.length ≤ c0_1) (hr0_2 : Kd.C k61 w A0_2 l0_2.length l0_2) (hc0_2 : l0_2.length ≤ c0_2) (hr0_10 : Kd.C (Kd.slice 66 k66) w A0_10 l0_10.length l0_10) (hc0_10 : l0_10.length ≤ c0_10) (h : outriderlaw17_Great.f k a0_0 l0_1 l0_2 a0_3 a0_4 a0_5 a0_6 a0_7 a0_8 a0_9 l0_10 = some r) :
  Calls Tryz.prog 11 #[.agg #[.int .i64 a0_0, .slice A0_1 l0_1.length c0_1, .slice A0_2 l0_2.length c0_2, .int .i64 a0_3, .int .i64 a0_4, .int .i64 a0_5, .int .i64 a0_6, .int .i64 a0_7, .int .i64 a0_8, .int .i64 a0_9, .slice A0_10 l0_10.length c0_10]] w fun e w' => e = .returned (.bool r) ∧ Below w.heap.size w w' := by
 have hu29 := Tryz.underlying29
 have HR0_1 := yc hr0_1
 have HC0_1 := yc hc0_1
 clear hr0_1 hc0_1
 have HR0_2 := yc hr0_2
 have HC0_2 := yc hc0_2
 clear hr0_2 hc0_2
 have HR0_10 := yc hr0_10
 have HC0_10 := yc hc0_10
 clear hr0_10 hc0_10
 have HB := yc (Below.refl w.heap.size w)
 have H : (if (l0_1.length : Int) > 200 then (outriderlaw17_Great.j0 k true a0_0 l0_1 l0_2 a0_3 a0_4 a0_5 a0_6 a0_7 a0_8 a0_9 l0_10) else (if (l0_2.length : Int) > 50 then (outriderlaw17_Great.j0 k true a0_0 l0_1 l0_2 a0_3 a0_4 a0_5 a0_6 a0_7 a0_8 a0_9 l0_10) else (outriderlaw17_Great.j0 k (decide ((l0_10.length : Int) > 50)) a0_0 l0_1 l0_2 a0_3 a0_4 a0_5 a0_6 a0_7 a0_8 a0_9 l0_10))) = some r := h
 clear h
 have HC2 := yc H
 clear H
 go_enter Tryz.func11, Tryz.ntmps11
 go_upto_region 1 with (first | ((with_reducible refine gate_dst (N := 1) rfl ?_); (try (refine gate_guard (by rfl) ?_; dsimp only)); refine box_event ?hg (N := 1) ?hd (cs := #[.int .i64 a0_0, .slice A0_1 l0_1.length c0_1, .slice A0_2 l0_2.length c0_2, .int .i64 a0_3, .int .i64 a0_4, .int .i64 a0_5, .int .i64 a0_6, .int .i64 a0_7, .int .i64 a0_8, .int .i64 a0_9, .slice A0_10 l0_10.length c0_10]) (t := 29) ?hr ?_; (case hd => rfl); (case hg => rfl); (case hr => first | (go_simp; done) | (go_simp; rfl)); intro gb101 hg w3 hbox hb; have n0_ := yc (below_step (by repeat (first | (with_reducible first | exact HB.out | apply yd | apply ye | apply yf) | exact HB.out)) hb); have n1_ := yc (hbox); have n2_ := yc ((by rw [hg]; exact (below_size (by repeat (first | (with_reducible first | exact HB.out | apply yd | apply ye | apply yf) | exact HB.out))) : w.heap.size ≤ gb101)); have n3_ := yc ((by rw [hg]; exact (below_size (by repeat (first | (with_reducible first | exact HB.out | apply yd | apply ye | apply yf) | exact HB.out))) : w.heap.size ≤ gb101)); clear HB; have HB := n0_; have BK101 := n1_; have GW101 := n2_; have GE101 := n3_; clear n0_ n1_ n2_ n3_; clear hb hbox hg))
 (try simp only [Act.put, List.setIfInBounds_toArray, List.set_cons_zero, List.set_cons_succ])
 go_cut [19] (fun v19 wc => ∃ (kq : Nat) (x19_1 : Bool), v19 = .bool x19_1 ∧ Aside0 (outriderlaw17_Great.j0 kq x19_1 a0_0 l0_1 l0_2 a0_3 a0_4 a0_5 a0_6 a0_7 a0_8 a0_9 l0_10 = some r) ∧ Aside0 (kq ≤ k) ∧ Aside0 (wc.heap[gb101]? = some (.cells #[.int .i64 a0_0, (.slice A0_1 l0_1.length c0_1), (.slice A0_2 l0_2.length c0_2), .int .i64 a0_3, .int .i64 a0_4, .int .i64 a0_5, .int .i64 a0_6, .int .i64 a0_7, .int .i64 a0_8, .int .i64 a0_9, (.slice A0_10 l0_10.length c0_10)] 29 (0, 0))) ∧ Aside0 (Below w.heap.size w wc))
 case first =>
  have H := HC2.out
  clear HC2
  by_cases c4 : (l0_1.length : Int) > 200
  ·rw [if_pos c4] at H
   have c4b0 : decide (200 < (l0_1.length : Int)) = true := decide_eq_true c4
   have c4b1 : decide (200 < l0_1.length) = true := decide_eq_true (by omega)
   clear c4
   (first | rw [c4b0] | (simp only [i64_w, i32_w]; rw [c4b0]) | skip)
   have H' := yc H
   clear H
   have hcz5_0 : w3.cell? ⟨gb101, 0, none⟩ = some (.int .i64 a0_0) := (ya BK101.out 0).trans rfl
   have hcz5_1 : w3.cell? ⟨gb101, 1, none⟩ = some (.slice A0_1 l0_1.length c0_1) := (ya BK101.out 1).trans rfl
   have hcz5_2 : w3.cell? ⟨gb101, 2, none⟩ = some (.slice A0_2 l0_2.length c0_2) := (ya BK101.out 2).trans rfl
   have hcz5_3 : w3.cell? ⟨gb101, 3, none⟩ = some (.int .i64 a0_3) := (ya BK101.out 3).trans rfl
   have hcz5_4 : w3.cell? ⟨gb101, 4, none⟩ = some (.int .i64 a0_4) := (ya BK101.out 4).trans rfl
   have hcz5_5 : w3.cell? ⟨gb101, 5, none⟩ = some (.int .i64 a0_5) := (ya BK101.out 5).trans rfl
   have hcz5_6 : w3.cell? ⟨gb101, 6, none⟩ = some (.int .i64 a0_6) := (ya BK101.out 6).trans rfl
   have hcz5_7 : w3.cell? ⟨gb101, 7, none⟩ = some (.int .i64 a0_7) := (ya BK101.out 7).trans rfl
   have hcz5_8 : w3.cell? ⟨gb101, 8, none⟩ = some (.int .i64 a0_8) := (ya BK101.out 8).trans rfl
   have hcz5_9 : w3.cell? ⟨gb101, 9, none⟩ = some (.int .i64 a0_9) := (ya BK101.out 9).trans rfl
   have hcz5_10 : w3.cell? ⟨gb101, 10, none⟩ = some (.slice A0_10 l0_10.length c0_10) := (ya BK101.out 10).trans rfl
   have hfz5_0 := yb BK101.out 0
   have hfz5_1 := yb BK101.out 1
   have hfz5_2 := yb BK101.out 2
   have hfz5_3 := yb BK101.out 3
   have hfz5_4 := yb BK101.out 4
   have hfz5_5 := yb BK101.out 5
   have hfz5_6 := yb BK101.out 6
   have hfz5_7 := yb BK101.out 7
   have hfz5_8 := yb BK101.out 8
   have hfz5_9 := yb BK101.out 9
   have hfz5_10 := yb BK101.out 10
   go_wp2
   go_meet
   case rel => exact ⟨_, (true), (by first | rfl | (simp; done) | (simp [*]; done)), H', ⟨by first | omega | exact Nat.le_refl _⟩, ⟨by (with_reducible repeat (first | refine yh ?_ _ | refine yj ?_ | refine yi ?_ _)); exact BK101.out⟩, ⟨by repeat (first | (with_reducible first | exact HB.out | apply yd | apply ye | apply yf | refine yg ?_ GE101.out) | exact HB.out)⟩⟩
  ·rw [if_neg c4] at H
   have c4b0 : decide (200 < (l0_1.length : Int)) = false := decide_eq_false c4
   have c4b1 : decide (200 < l0_1.length) = false := decide_eq_false (by omega)
   clear c4
   (first | rw [c4b0] | (simp only [i64_w, i32_w]; rw [c4b0]) | skip)
   by_cases c6 : (l0_2.length : Int) > 50
   ·rw [if_pos c6] at H
    have c6b0 : decide (50 < (l0_2.length : Int)) = true := decide_eq_true c6
    have c6b1 : decide (50 < l0_2.length) = true := decide_eq_true (by omega)
    clear c6
    have H' := yc H
    clear H
    have hcz7_0 : w3.cell? ⟨gb101, 0, none⟩ = some (.int .i64 a0_0) := (ya BK101.out 0).trans rfl
    have hcz7_1 : w3.cell? ⟨gb101, 1, none⟩ = some (.slice A0_1 l0_1.length c0_1) := (ya BK101.out 1).trans rfl
    have hcz7_2 : w3.cell? ⟨gb101, 2, none⟩ = some (.slice A0_2 l0_2.length c0_2) := (ya BK101.out 2).trans rfl
    have hcz7_3 : w3.cell? ⟨gb101, 3, none⟩ = some (.int .i64 a0_3) := (ya BK101.out 3).trans rfl
    have hcz7_4 : w3.cell? ⟨gb101, 4, none⟩ = some (.int .i64 a0_4) := (ya BK101.out 4).trans rfl
    have hcz7_5 : w3.cell? ⟨gb101, 5, none⟩ = some (.int .i64 a0_5) := (ya BK101.out 5).trans rfl
    have hcz7_6 : w3.cell? ⟨gb101, 6, none⟩ = some (.int .i64 a0_6) := (ya BK101.out 6).trans rfl
    have hcz7_7 : w3.cell? ⟨gb101, 7, none⟩ = some (.int .i64 a0_7) := (ya BK101.out 7).trans rfl
    have hcz7_8 : w3.cell? ⟨gb101, 8, none⟩ = some (.int .i64 a0_8) := (ya BK101.out 8).trans rfl
    have hcz7_9 : w3.cell? ⟨gb101, 9, none⟩ = some (.int .i64 a0_9) := (ya BK101.out 9).trans rfl
    have hcz7_10 : w3.cell? ⟨gb101, 10, none⟩ = some (.slice A0_10 l0_10.length c0_10) := (ya BK101.out 10).trans rfl
    have hfz7_0 := yb BK101.out 0
    have hfz7_1 := yb BK101.out 1
    have hfz7_2 := yb BK101.out 2
    have hfz7_3 := yb BK101.out 3
    have hfz7_4 := yb BK101.out 4
    have hfz7_5 := yb BK101.out 5
    have hfz7_6 := yb BK101.out 6
    have hfz7_7 := yb BK101.out 7
    have hfz7_8 := yb BK101.out 8
    have hfz7_9 := yb BK101.out 9
    have hfz7_10 := yb BK101.out 10
    go_wp2
    go_meet
    case rel => exact ⟨_, (true), (by first | rfl | (simp; done) | (simp [*]; done)), H', ⟨by first | omega | exact Nat.le_refl _⟩, ⟨by (with_reducible repeat (first | refine yh ?_ _ | refine yj ?_ | refine yi ?_ _)); exact BK101.out⟩, ⟨by repeat (first | (with_reducible first | exact HB.out | apply yd | apply ye | apply yf | refine yg ?_ GE101.out) | exact HB.out)⟩⟩
   ·rw [if_neg c6] at H
    have c6b0 : decide (50 < (l0_2.length : Int)) = false := decide_eq_false c6
    have c6b1 : decide (50 < l0_2.length) = false := decide_eq_false (by omega)
    clear c6
    have H' := yc H
    clear H
    have hcz8_0 : w3.cell? ⟨gb101, 0, none⟩ = some (.int .i64 a0_0) := (ya BK101.out 0).trans rfl
    have hcz8_1 : w3.cell? ⟨gb101, 1, none⟩ = some (.slice A0_1 l0_1.length c0_1) := (ya BK101.out 1).trans rfl
    have hcz8_2 : w3.cell? ⟨gb101, 2, none⟩ = some (.slice A0_2 l0_2.length c0_2) := (ya BK101.out 2).trans rfl
    have hcz8_3 : w3.cell? ⟨gb101, 3, none⟩ = some (.int .i64 a0_3) := (ya BK101.out 3).trans rfl
    have hcz8_4 : w3.cell? ⟨gb101, 4, none⟩ = some (.int .i64 a0_4) := (ya BK101.out 4).trans rfl
    have hcz8_5 : w3.cell? ⟨gb101, 5, none⟩ = some (.int .i64 a0_5) := (ya BK101.out 5).trans rfl
    have hcz8_6 : w3.cell? ⟨gb101, 6, none⟩ = some (.int .i64 a0_6) := (ya BK101.out 6).trans rfl
    have hcz8_7 : w3.cell? ⟨gb101, 7, none⟩ = some (.int .i64 a0_7) := (ya BK101.out 7).trans rfl
    have hcz8_8 : w3.cell? ⟨gb101, 8, none⟩ = some (.int .i64 a0_8) := (ya BK101.out 8).trans rfl
    have hcz8_9 : w3.cell? ⟨gb101, 9, none⟩ = some (.int .i64 a0_9) := (ya BK101.out 9).trans rfl
    have hcz8_10 : w3.cell? ⟨gb101, 10, none⟩ = some (.slice A0_10 l0_10.length c0_10) := (ya BK101.out 10).trans rfl
    have hfz8_0 := yb BK101.out 0
    have hfz8_1 := yb BK101.out 1
    have hfz8_2 := yb BK101.out 2
    have hfz8_3 := yb BK101.out 3
    have hfz8_4 := yb BK101.out 4
    have hfz8_5 := yb BK101.out 5
    have hfz8_6 := yb BK101.out 6
    have hfz8_7 := yb BK101.out 7
    have hfz8_8 := yb BK101.out 8
    have hfz8_9 := yb BK101.out 9
    have hfz8_10 := yb BK101.out 10
    go_wp2
    go_meet
    case rel => exact ⟨_, (decide ((l0_10.length : Int) > 50)), (by first | rfl | (simp; done) | (simp [*]; done)), H', ⟨by first | omega | exact Nat.le_refl _⟩, ⟨by (with_reducible repeat (first | refine yh ?_ _ | refine yj ?_ | refine yi ?_ _)); exact BK101.out⟩, ⟨by repeat (first | (with_reducible first | exact HB.out | apply yd | apply ye | apply yf | refine yg ?_ GE101.out) | exact HB.out)⟩⟩
 case rest =>
  clear HC2
  try clear c1; try clear p2; try clear c4; try clear c4b0; try clear c4b1; try clear c6; try clear c6b0; try clear c6b1; try clear hcz5_0; try clear hcz5_1; try clear hcz5_10; try clear hcz5_2; try clear hcz5_3; try clear hcz5_4; try clear hcz5_5; try clear hcz5_6; try clear hcz5_7; try clear hcz5_8; try clear hcz5_9; try clear hcz7_0; try clear hcz7_1; try clear hcz7_10; try clear hcz7_2; try clear hcz7_3; try clear hcz7_4; try clear hcz7_5; try clear hcz7_6; try clear hcz7_7; try clear hcz7_8; try clear hcz7_9; try clear hcz8_0; try clear hcz8_1; try clear hcz8_10; try clear hcz8_2; try clear hcz8_3; try clear hcz8_4; try clear hcz8_5; try clear hcz8_6; try clear hcz8_7; try clear hcz8_8; try clear hcz8_9; try clear hfz5_0; try clear hfz5_1; try clear hfz5_10; try clear hfz5_2; try clear hfz5_3; try clear hfz5_4; try clear hfz5_5; try clear hfz5_6; try clear hfz5_7; try clear hfz5_8; try clear hfz5_9; try clear hfz7_0; try clear hfz7_1; try clear hfz7_10; try clear hfz7_2; try clear hfz7_3; try clear hfz7_4; try clear hfz7_5; try clear hfz7_6; try clear hfz7_7; try clear hfz7_8; try clear hfz7_9; try clear hfz8_0; try clear hfz8_1; try clear hfz8_10; try clear hfz8_2; try clear hfz8_3; try clear hfz8_4; try clear hfz8_5; try clear hfz8_6; try clear hfz8_7; try clear hfz8_8; try clear hfz8_9
  obtain ⟨kq, x19_1, rfl, HA, HJ1, BK101, HB⟩ := hcut
  cases kq with
  | zero => exact absurd HA.out (by simp [outriderlaw17_Great.j0])
  | succ kj1 =>
   have H := HA.out
   clear HA
   simp only [outriderlaw17_Great.j0] at H
   by_cases c9 : x19_1 = true
   ·subst c9
    have H1 : (some true) = some r := by rw [if_pos rfl] at H; exact H
    clear H
    have H := H1
    clear H1
    obtain rfl := Option.some.inj H
    go_wp2
    go_ret
    exact ⟨by first | rfl | (simp [errW_none, errW_some] <;> rfl) | (simp [*, errW_none, errW_some] <;> rfl), by repeat (first | (with_reducible first | exact HB.out | apply yd | apply ye | apply yf | refine yg ?_ GE101.out) | exact HB.out)⟩
   ·replace c9 := Bool.eq_false_iff.mpr c9
    subst c9
    have H1 : (outriderlaw17_Great.l0 kj1 0 a0_0 l0_1 l0_2 a0_3 a0_4 a0_5 a0_6 a0_7 a0_8 a0_9 l0_10) = some r := by rw [if_neg (show ¬ (false = true) by decide)] at H; exact H
    clear H
    have H := H1
    clear H1
    have H' := yc H
    clear H
    go_wp2
    go_loopg [3] kj1 (fun kq v3 w' => ∃ (x3_2 : Int), v3 = .int .i64 x3_2 ∧ Aside0 (outriderlaw17_Great.l0 kq x3_2 a0_0 l0_1 l0_2 a0_3 a0_4 a0_5 a0_6 a0_7 a0_8 a0_9 l0_10 = some r) ∧ Aside0 (kq ≤ kj1) ∧ Aside0 (w'.heap[gb101]? = some (.cells #[.int .i64 a0_0, (.slice A0_1 l0_1.length c0_1), (.slice A0_2 l0_2.length c0_2), .int .i64 a0_3, .int .i64 a0_4, .int .i64 a0_5, .int .i64 a0_6, .int .i64 a0_7, .int .i64 a0_8, .int .i64 a0_9, (.slice A0_10 l0_10.length c0_10)] 29 (0, 0))) ∧ Aside0 (Below w.heap.size w w'))
    case atStart => exact ⟨(0), (by first | rfl | (simp; done) | (simp [*]; done)), H', ⟨Nat.le_refl _⟩, ⟨by (with_reducible repeat (first | refine yh ?_ _ | refine yj ?_ | refine yi ?_ _)); exact BK101.out⟩, ⟨by repeat (first | (with_reducible first | exact HB.out | apply yd | apply ye | apply yf | refine yg ?_ GE101.out) | exact HB.out)⟩⟩
    case round =>
     clear H'
     try clear c1; try clear p2; try clear c4; try clear c4b0; try clear c4b1; try clear c6; try clear c6b0; try clear c6b1; try clear c9; try clear hcz5_0; try clear hcz5_1; try clear hcz5_10; try clear hcz5_2; try clear hcz5_3; try clear hcz5_4; try clear hcz5_5; try clear hcz5_6; try clear hcz5_7; try clear hcz5_8; try clear hcz5_9; try clear hcz7_0; try clear hcz7_1; try clear hcz7_10; try clear hcz7_2; try clear hcz7_3; try clear hcz7_4; try clear hcz7_5; try clear hcz7_6; try clear hcz7_7; try clear hcz7_8; try clear hcz7_9; try clear hcz8_0; try clear hcz8_1; try clear hcz8_10; try clear hcz8_2; try clear hcz8_3; try clear hcz8_4; try clear hcz8_5; try clear hcz8_6; try clear hcz8_7; try clear hcz8_8; try clear hcz8_9; try clear hfz5_0; try clear hfz5_1; try clear hfz5_10; try clear hfz5_2; try clear hfz5_3; try clear hfz5_4; try clear hfz5_5; try clear hfz5_6; try clear hfz5_7; try clear hfz5_8; try clear hfz5_9; try clear hfz7_0; try clear hfz7_1; try clear hfz7_10; try clear hfz7_2; try clear hfz7_3; try clear hfz7_4; try clear hfz7_5; try clear hfz7_6; try clear hfz7_7; try clear hfz7_8; try clear hfz7_9; try clear hfz8_0; try clear hfz8_1; try clear hfz8_10; try clear hfz8_2; try clear hfz8_3; try clear hfz8_4; try clear hfz8_5; try clear hfz8_6; try clear hfz8_7; try clear hfz8_8; try clear hfz8_9; try clear p2
     obtain ⟨x3_2, rfl, HA, HK2, BK101, HB⟩ := hrel
     cases gk with
     | zero => exact absurd HA.out (by simp [outriderlaw17_Great.l0])
     | succ k2 =>
      have H := HA.out
      clear HA
      simp only [outriderlaw17_Great.l0] at H
      by_cases c10 : x3_2 < (l0_10.length : Int)
      ·rw [if_pos c10] at H
       have c10b0 : decide (x3_2 < (l0_10.length : Int)) = true := decide_eq_true c10
       clear c10
       by_cases c11 : 0 ≤ x3_2
       ·rw [if_pos c11] at H
        have c11b0 : decide (0 ≤ x3_2) = true := decide_eq_true c11
        clear c11
        by_cases c12 : ((rd_L2 l0_10 x3_2).length : Int) > 700
        ·rw [if_pos c12] at H
         have c12b0 : decide (700 < ((rd_L2 l0_10 x3_2).length : Int)) = true := decide_eq_true c12
         have c12b1 : decide (700 < (rd_L2 l0_10 x3_2).length) = true := decide_eq_true (by omega)
         clear c12
         obtain rfl := Option.some.inj H
         have hcz13_0 : wr.cell? ⟨gb101, 0, none⟩ = some (.int .i64 a0_0) := (ya BK101.out 0).trans rfl
         have hcz13_1 : wr.cell? ⟨gb101, 1, none⟩ = some (.slice A0_1 l0_1.length c0_1) := (ya BK101.out 1).trans rfl
         have hcz13_2 : wr.cell? ⟨gb101, 2, none⟩ = some (.slice A0_2 l0_2.length c0_2) := (ya BK101.out 2).trans rfl
         have hcz13_3 : wr.cell? ⟨gb101, 3, none⟩ = some (.int .i64 a0_3) := (ya BK101.out 3).trans rfl
         have hcz13_4 : wr.cell? ⟨gb101, 4, none⟩ = some (.int .i64 a0_4) := (ya BK101.out 4).trans rfl
         have hcz13_5 : wr.cell? ⟨gb101, 5, none⟩ = some (.int .i64 a0_5) := (ya BK101.out 5).trans rfl
         have hcz13_6 : wr.cell? ⟨gb101, 6, none⟩ = some (.int .i64 a0_6) := (ya BK101.out 6).trans rfl
         have hcz13_7 : wr.cell? ⟨gb101, 7, none⟩ = some (.int .i64 a0_7) := (ya BK101.out 7).trans rfl
         have hcz13_8 : wr.cell? ⟨gb101, 8, none⟩ = some (.int .i64 a0_8) := (ya BK101.out 8).trans rfl
         have hcz13_9 : wr.cell? ⟨gb101, 9, none⟩ = some (.int .i64 a0_9) := (ya BK101.out 9).trans rfl
         have hcz13_10 : wr.cell? ⟨gb101, 10, none⟩ = some (.slice A0_10 l0_10.length c0_10) := (ya BK101.out 10).trans rfl
         have hfz13_0 := yb BK101.out 0
         have hfz13_1 := yb BK101.out 1
         have hfz13_2 := yb BK101.out 2
         have hfz13_3 := yb BK101.out 3
         have hfz13_4 := yb BK101.out 4
         have hfz13_5 := yb BK101.out 5
         have hfz13_6 := yb BK101.out 6
         have hfz13_7 := yb BK101.out 7
         have hfz13_8 := yb BK101.out 8
         have hfz13_9 := yb BK101.out 9
         have hfz13_10 := yb BK101.out 10
         have p102 : 0 ≤ (x3_2 : Int) := of_decide_eq_true (by first | (with_reducible assumption) | assumption)
         have q102 : x3_2 < (l0_10.length : Int) := of_decide_eq_true (by first | (with_reducible assumption) | assumption)
         obtain ⟨ad102, A102_0, c102_0, e102, hx102_0, hl102_0, hi102_0⟩ := at_L2 HR0_10.out x3_2 p102 q102
         cases e102
         replace hx102_0 := (HB.out.cell (yk w _ hx102_0)).trans hx102_0
         have HR102_0 := yc hi102_0
         have HC102_0 := yc hl102_0
         clear hi102_0 hl102_0
         replace p102 := eq_true p102
         replace q102 := eq_true q102
         go_wp2
         go_ret
         exact ⟨by first | rfl | (simp [errW_none, errW_some] <;> rfl) | (simp [*, errW_none, errW_some] <;> rfl), by repeat (first | (with_reducible first | exact HB.out | apply yd | apply ye | apply yf | refine yg ?_ GE101.out) | exact HB.out)⟩
        ·rw [if_neg c12] at H
         have c12b0 : decide (700 < ((rd_L2 l0_10 x3_2).length : Int)) = false := decide_eq_false c12
         have c12b1 : decide (700 < (rd_L2 l0_10 x3_2).length) = false := decide_eq_false (by omega)
         clear c12
         have H' := yc H
         clear H
         have hcz14_0 : wr.cell? ⟨gb101, 0, none⟩ = some (.int .i64 a0_0) := (ya BK101.out 0).trans rfl
         have hcz14_1 : wr.cell? ⟨gb101, 1, none⟩ = some (.slice A0_1 l0_1.length c0_1) := (ya BK101.out 1).trans rfl
         have hcz14_2 : wr.cell? ⟨gb101, 2, none⟩ = some (.slice A0_2 l0_2.length c0_2) := (ya BK101.out 2).trans rfl
         have hcz14_3 : wr.cell? ⟨gb101, 3, none⟩ = some (.int .i64 a0_3) := (ya BK101.out 3).trans rfl
         have hcz14_4 : wr.cell? ⟨gb101, 4, none⟩ = some (.int .i64 a0_4) := (ya BK101.out 4).trans rfl
         have hcz14_5 : wr.cell? ⟨gb101, 5, none⟩ = some (.int .i64 a0_5) := (ya BK101.out 5).trans rfl
         have hcz14_6 : wr.cell? ⟨gb101, 6, none⟩ = some (.int .i64 a0_6) := (ya BK101.out 6).trans rfl
         have hcz14_7 : wr.cell? ⟨gb101, 7, none⟩ = some (.int .i64 a0_7) := (ya BK101.out 7).trans rfl
         have hcz14_8 : wr.cell? ⟨gb101, 8, none⟩ = some (.int .i64 a0_8) := (ya BK101.out 8).trans rfl
         have hcz14_9 : wr.cell? ⟨gb101, 9, none⟩ = some (.int .i64 a0_9) := (ya BK101.out 9).trans rfl
         have hcz14_10 : wr.cell? ⟨gb101, 10, none⟩ = some (.slice A0_10 l0_10.length c0_10) := (ya BK101.out 10).trans rfl
         have hfz14_0 := yb BK101.out 0
         have hfz14_1 := yb BK101.out 1
         have hfz14_2 := yb BK101.out 2
         have hfz14_3 := yb BK101.out 3
         have hfz14_4 := yb BK101.out 4
         have hfz14_5 := yb BK101.out 5
         have hfz14_6 := yb BK101.out 6
         have hfz14_7 := yb BK101.out 7
         have hfz14_8 := yb BK101.out 8
         have hfz14_9 := yb BK101.out 9
         have hfz14_10 := yb BK101.out 10
         have p102 : 0 ≤ (x3_2 : Int) := of_decide_eq_true (by first | (with_reducible assumption) | assumption)
         have q102 : x3_2 < (l0_10.length : Int) := of_decide_eq_true (by first | (with_reducible assumption) | assumption)
         obtain ⟨ad102, A102_0, c102_0, e102, hx102_0, hl102_0, hi102_0⟩ := at_L2 HR0_10.out x3_2 p102 q102
         cases e102
         replace hx102_0 := (HB.out.cell (yk w _ hx102_0)).trans hx102_0
         have HR102_0 := yc hi102_0
         have HC102_0 := yc hl102_0
         clear hi102_0 hl102_0
         replace p102 := eq_true p102
         replace q102 := eq_true q102
         go_wp2
         go_roundg k2
         case measure => have := HJ1.out; have := HK2.out; omega
         case rel => exact ⟨(wrap64 (x3_2 + 1)), (by first | rfl | (simp; done) | (simp [*]; done)), H', ⟨by have := HJ1.out; have := HK2.out; omega⟩, ⟨by (with_reducible repeat (first | refine yh ?_ _ | refine yj ?_ | refine yi ?_ _)); exact BK101.out⟩, ⟨by repeat (first | (with_reducible first | exact HB.out | apply yd | apply ye | apply yf | refine yg ?_ GE101.out) | exact HB.out)⟩⟩
       ·rw [if_neg c11] at H
        exact absurd H (by simp)
      ·rw [if_neg c10] at H
       have c10b0 : decide (x3_2 < (l0_10.length : Int)) = false := decide_eq_false c10
       clear c10
       obtain rfl := Option.some.inj H
       have hcz15_0 : wr.cell? ⟨gb101, 0, none⟩ = some (.int .i64 a0_0) := (ya BK101.out 0).trans rfl
       have hcz15_1 : wr.cell? ⟨gb101, 1, none⟩ = some (.slice A0_1 l0_1.length c0_1) := (ya BK101.out 1).trans rfl
       have hcz15_2 : wr.cell? ⟨gb101, 2, none⟩ = some (.slice A0_2 l0_2.length c0_2) := (ya BK101.out 2).trans rfl
       have hcz15_3 : wr.cell? ⟨gb101, 3, none⟩ = some (.int .i64 a0_3) := (ya BK101.out 3).trans rfl
       have hcz15_4 : wr.cell? ⟨gb101, 4, none⟩ = some (.int .i64 a0_4) := (ya BK101.out 4).trans rfl
       have hcz15_5 : wr.cell? ⟨gb101, 5, none⟩ = some (.int .i64 a0_5) := (ya BK101.out 5).trans rfl
       have hcz15_6 : wr.cell? ⟨gb101, 6, none⟩ = some (.int .i64 a0_6) := (ya BK101.out 6).trans rfl
       have hcz15_7 : wr.cell? ⟨gb101, 7, none⟩ = some (.int .i64 a0_7) := (ya BK101.out 7).trans rfl
       have hcz15_8 : wr.cell? ⟨gb101, 8, none⟩ = some (.int .i64 a0_8) := (ya BK101.out 8).trans rfl
       have hcz15_9 : wr.cell? ⟨gb101, 9, none⟩ = some (.int .i64 a0_9) := (ya BK101.out 9).trans rfl
       have hcz15_10 : wr.cell? ⟨gb101, 10, none⟩ = some (.slice A0_10 l0_10.length c0_10) := (ya BK101.out 10).trans rfl
       have hfz15_0 := yb BK101.out 0
       have hfz15_1 := yb BK101.out 1
       have hfz15_2 := yb BK101.out 2
       have hfz15_3 := yb BK101.out 3
       have hfz15_4 := yb BK101.out 4
       have hfz15_5 := yb BK101.out 5
       have hfz15_6 := yb BK101.out 6
       have hfz15_7 := yb BK101.out 7
       have hfz15_8 := yb BK101.out 8
       have hfz15_9 := yb BK101.out 9
       have hfz15_10 := yb BK101.out 10
       go_wp2
       go_ret
       exact ⟨by first | rfl | (simp [errW_none, errW_some] <;> rfl) | (simp [*, errW_none, errW_some] <;> rfl), by repeat (first | (with_reducible first | exact HB.out | apply yd | apply ye | apply yf | refine yg ?_ GE101.out) | exact HB.out)⟩
def outriderlaw17_alive.f  : Option (Bool) := some true
set_option maxHeartbeats 8000000 in
set_option maxRecDepth 100000 in
theorem outriderlaw17_alive.calls  (r : Bool) (w : World) (h : outriderlaw17_alive.f  = some r) :
  Calls Tryz.prog 14 #[] w fun e w' => e = .returned (.bool r) ∧ Below w.heap.size w w' := by
 obtain rfl := Option.some.inj (show some true = some r from h)
 exact Go.Ab.alive_calls w
def outriderref13_Same.l0 : Nat → List (S58) → List (S58) → Int → Option (Bool)
 | 0, _, _, _ => none
 | k + 1, x0, x1, x5 => if x5 < (x0.length : Int) then (if 0 ≤ x5 then (if x5 < (x1.length : Int) then (if (!(((rd_T58 x0 x5).f0) == ((rd_T58 x1 x5).f0)) || (!(((rd_T58 x0 x5).f1) == ((rd_T58 x1 x5).f1)))) = true then (some false) else (outriderref13_Same.l0 k x0 x1 (wrap64 (x5 + 1)))) else (none)) else (none)) else (some true)
def outriderref13_Same.f (k : Nat) (l0 : List (S58)) (l1 : List (S58)) : Option (Bool) := if (l0.length : Int) = (l1.length : Int) then (outriderref13_Same.l0 k l0 l1 0) else (some false)
set_option maxHeartbeats 8000000 in
set_option maxRecDepth 100000 in
theorem outriderref13_Same.calls (k : Nat) (A0 : Option Addr) (c0 : Nat) (l0 : List (S58)) (A1 : Option Addr) (c1 : Nat) (l1 : List (S58)) (r : Bool) (w : World) (hr0 : Kd.C k58 w A0 l0.length l0) (hc0 : l0.length ≤ c0) (hr1 : Kd.C k58 w A1 l1.length l1) (hc1 : l1.length ≤ c1) (h : outriderref13_Same.f k l0 l1 = some r) :
  Calls Tryz.prog 51 #[.slice A0 l0.length c0, .slice A1 l1.length c1] w fun e w' => e = .returned (.bool r) ∧ Drawn0 w w' := by
 have hu58 := Tryz.underlying58
 have HR0 := yc hr0
 have HC0 := yc hc0
 clear hr0 hc0
 have HR1 := yc hr1
 have HC1 := yc hc1
 clear hr1 hc1
 have H : (if (l0.length : Int) = (l1.length : Int) then (outriderref13_Same.l0 k l0 l1 0) else (some false)) = some r := h
 clear h
 by_cases c3 : (l0.length : Int) = (l1.length : Int)
 ·rw [if_pos c3] at H
  have c3b0 : ((l0.length : Int) == (l1.length : Int)) = true := beq_iff_eq.mpr c3
  have c3b1 : ((l0.length : Int) != (l1.length : Int)) = false := bne_eq_false_iff_eq.mpr c3
  have c3b2 : (l0.length == l1.length) = true := by first | simpa using c3 | (simp at c3 ⊢; omega)
  clear c3
  have H' := yc H
  clear H
  go_enter Tryz.func51, Tryz.ntmps51
  go_wp2
  repeat (go_quiet (fail); try go_wp2)
  go_loopg [5] k (fun kq v5 w' => ∃ (x5_1 : Int), v5 = .int .i64 x5_1 ∧ Aside0 (outriderref13_Same.l0 kq l0 l1 x5_1 = some r) ∧ Aside0 (kq ≤ k) ∧ Drawn0 w w')
  case atStart => exact ⟨(0), (by first | rfl | (simp; done) | (simp [*]; done)), H', ⟨Nat.le_refl _⟩, by repeat (first | exact Drawn0.refl _ | apply Drawn0.step)⟩
  case round =>
   clear H'
   try clear c1; try clear p2; try clear c3; try clear c3b0; try clear c3b1; try clear c3b2
   obtain ⟨x5_1, rfl, HA, HK1, ⟨m1, rfl⟩⟩ := hrel
   cases gk with
   | zero => exact absurd HA.out (by simp [outriderref13_Same.l0])
   | succ k1 =>
    have H := HA.out
    clear HA
    simp only [outriderref13_Same.l0] at H
    by_cases c4 : x5_1 < (l0.length : Int)
    ·rw [if_pos c4] at H
     have c4b0 : decide (x5_1 < (l0.length : Int)) = true := decide_eq_true c4
     clear c4
     by_cases c5 : 0 ≤ x5_1
     ·rw [if_pos c5] at H
      have c5b0 : decide (0 ≤ x5_1) = true := decide_eq_true c5
      clear c5
      by_cases c6 : x5_1 < (l1.length : Int)
      ·rw [if_pos c6] at H
       have c6b0 : decide (x5_1 < (l1.length : Int)) = true := decide_eq_true c6
       clear c6
       by_cases c7 : (!(((rd_T58 l0 x5_1).f0) == ((rd_T58 l1 x5_1).f0)) || (!(((rd_T58 l0 x5_1).f1) == ((rd_T58 l1 x5_1).f1)))) = true
       ·rw [if_pos c7] at H
        have c7b0 : (!(((rd_T58 l0 x5_1).f0) == ((rd_T58 l1 x5_1).f0)) || (!(((rd_T58 l0 x5_1).f1) == ((rd_T58 l1 x5_1).f1)))) = true := c7
        clear c7
        obtain rfl := Option.some.inj H
        have p104 : 0 ≤ (x5_1 : Int) := of_decide_eq_true (by first | (with_reducible assumption) | assumption)
        have q104 : x5_1 < (l0.length : Int) := of_decide_eq_true (by first | (with_reducible assumption) | assumption)
        obtain ⟨ad104, e104, hx104_0, hx104_1⟩ := at_T58 HR0.out x5_1 p104 q104
        cases e104
        replace p104 := eq_true p104
        replace q104 := eq_true q104
        have p105 : 0 ≤ (x5_1 : Int) := of_decide_eq_true (by first | (with_reducible assumption) | assumption)
        have q105 : x5_1 < (l1.length : Int) := of_decide_eq_true (by first | (with_reducible assumption) | assumption)
        obtain ⟨ad105, e105, hx105_0, hx105_1⟩ := at_T58 HR1.out x5_1 p105 q105
        cases e105
        replace p105 := eq_true p105
        replace q105 := eq_true q105
        go_wp2
        repeat (go_quiet (fail); try go_wp2)
        go_ret
        exact ⟨by first | rfl | (simp; done) | (simp [*]; done), by repeat (first | exact Drawn0.refl _ | apply Drawn0.step)⟩
       ·rw [if_neg c7] at H
        have c7b0 : (!(((rd_T58 l0 x5_1).f0) == ((rd_T58 l1 x5_1).f0)) || (!(((rd_T58 l0 x5_1).f1) == ((rd_T58 l1 x5_1).f1)))) = false := by simpa using c7
        clear c7
        have H' := yc H
        clear H
        have p104 : 0 ≤ (x5_1 : Int) := of_decide_eq_true (by first | (with_reducible assumption) | assumption)
        have q104 : x5_1 < (l0.length : Int) := of_decide_eq_true (by first | (with_reducible assumption) | assumption)
        obtain ⟨ad104, e104, hx104_0, hx104_1⟩ := at_T58 HR0.out x5_1 p104 q104
        cases e104
        replace p104 := eq_true p104
        replace q104 := eq_true q104
        have p105 : 0 ≤ (x5_1 : Int) := of_decide_eq_true (by first | (with_reducible assumption) | assumption)
        have q105 : x5_1 < (l1.length : Int) := of_decide_eq_true (by first | (with_reducible assumption) | assumption)
        obtain ⟨ad105, e105, hx105_0, hx105_1⟩ := at_T58 HR1.out x5_1 p105 q105
        cases e105
        replace p105 := eq_true p105
        replace q105 := eq_true q105
        go_wp2
        repeat (go_quiet (fail); try go_wp2)
        go_roundg k1
        case measure => have := HK1.out; omega
        case rel => exact ⟨(wrap64 (x5_1 + 1)), (by first | rfl | (simp; done) | (simp [*]; done)), H', ⟨by have := HK1.out; omega⟩, by repeat (first | exact Drawn0.refl _ | apply Drawn0.step)⟩
      ·rw [if_neg c6] at H
       exact absurd H (by simp)
     ·rw [if_neg c5] at H
      exact absurd H (by simp)
    ·rw [if_neg c4] at H
     have c4b0 : decide (x5_1 < (l0.length : Int)) = false := decide_eq_false c4
     clear c4
     obtain rfl := Option.some.inj H
     go_wp2
     repeat (go_quiet (fail); try go_wp2)
     go_ret
     exact ⟨by first | rfl | (simp; done) | (simp [*]; done), by repeat (first | exact Drawn0.refl _ | apply Drawn0.step)⟩
 ·rw [if_neg c3] at H
  have c3b0 : ((l0.length : Int) == (l1.length : Int)) = false := beq_eq_false_iff_ne.mpr c3
  have c3b1 : ((l0.length : Int) != (l1.length : Int)) = true := bne_iff_ne.mpr c3
  have c3b2 : (l0.length == l1.length) = false := by first | simpa using c3 | (simp at c3 ⊢; omega)
  obtain rfl := Option.some.inj H
  go_enter Tryz.func51, Tryz.ntmps51
  go_wp2
  repeat (go_quiet (fail); try go_wp2)
  go_ret
  exact ⟨by first | rfl | (simp; done) | (simp [*]; done), by repeat (first | exact Drawn0.refl _ | apply Drawn0.step)⟩
def outriderref08_Same.l0 : Nat → List (S66) → List (S66) → Int → Option (Bool)
 | 0, _, _, _ => none
 | k + 1, x0, x1, x5 => if x5 < (x0.length : Int) then (if 0 ≤ x5 then (if x5 < (x1.length : Int) then (if (!(((rd_T66 x0 x5).f0) == ((rd_T66 x1 x5).f0)) || (!(((rd_T66 x0 x5).f1) == ((rd_T66 x1 x5).f1)) || (!(((rd_T66 x0 x5).f2) == ((rd_T66 x1 x5).f2)) || (!(((rd_T66 x0 x5).f3) == ((rd_T66 x1 x5).f3)) || (!(((rd_T66 x0 x5).f4) == ((rd_T66 x1 x5).f4)) || (!(((rd_T66 x0 x5).f5) == ((rd_T66 x1 x5).f5)))))))) = true then (some false) else (outriderref08_Same.l0 k x0 x1 (wrap64 (x5 + 1)))) else (none)) else (none)) else (some true)
def outriderref08_Same.f (k : Nat) (l0 : List (S66)) (l1 : List (S66)) : Option (Bool) := if (l0.length : Int) = (l1.length : Int) then (outriderref08_Same.l0 k l0 l1 0) else (some false)
set_option maxHeartbeats 8000000 in
set_option maxRecDepth 100000 in
theorem outriderref08_Same.calls (k : Nat) (A0 : Option Addr) (c0 : Nat) (l0 : List (S66)) (A1 : Option Addr) (c1 : Nat) (l1 : List (S66)) (r : Bool) (w : World) (hr0 : Kd.C k66 w A0 l0.length l0) (hc0 : l0.length ≤ c0) (hr1 : Kd.C k66 w A1 l1.length l1) (hc1 : l1.length ≤ c1) (h : outriderref08_Same.f k l0 l1 = some r) :
  Calls Tryz.prog 52 #[.slice A0 l0.length c0, .slice A1 l1.length c1] w fun e w' => e = .returned (.bool r) ∧ Drawn0 w w' := by
 have hu66 := Tryz.underlying66
 have HR0 := yc hr0
 have HC0 := yc hc0
 clear hr0 hc0
 have HR1 := yc hr1
 have HC1 := yc hc1
 clear hr1 hc1
 have H : (if (l0.length : Int) = (l1.length : Int) then (outriderref08_Same.l0 k l0 l1 0) else (some false)) = some r := h
 clear h
 by_cases c3 : (l0.length : Int) = (l1.length : Int)
 ·rw [if_pos c3] at H
  have c3b0 : ((l0.length : Int) == (l1.length : Int)) = true := beq_iff_eq.mpr c3
  have c3b1 : ((l0.length : Int) != (l1.length : Int)) = false := bne_eq_false_iff_eq.mpr c3
  have c3b2 : (l0.length == l1.length) = true := by first | simpa using c3 | (simp at c3 ⊢; omega)
  clear c3
  have H' := yc H
  clear H
  go_enter Tryz.func52, Tryz.ntmps52
  go_wp2
  repeat (go_quiet (fail); try go_wp2)
  go_loopg [5] k (fun kq v5 w' => ∃ (x5_1 : Int), v5 = .int .i64 x5_1 ∧ Aside0 (outriderref08_Same.l0 kq l0 l1 x5_1 = some r) ∧ Aside0 (kq ≤ k) ∧ Drawn0 w w')
  case atStart => exact ⟨(0), (by first | rfl | (simp; done) | (simp [*]; done)), H', ⟨Nat.le_refl _⟩, by repeat (first | exact Drawn0.refl _ | apply Drawn0.step)⟩
  case round =>
   clear H'
   try clear c1; try clear p2; try clear c3; try clear c3b0; try clear c3b1; try clear c3b2
   obtain ⟨x5_1, rfl, HA, HK1, ⟨m1, rfl⟩⟩ := hrel
   cases gk with
   | zero => exact absurd HA.out (by simp [outriderref08_Same.l0])
   | succ k1 =>
    have H := HA.out
    clear HA
    simp only [outriderref08_Same.l0] at H
    by_cases c4 : x5_1 < (l0.length : Int)
    ·rw [if_pos c4] at H
     have c4b0 : decide (x5_1 < (l0.length : Int)) = true := decide_eq_true c4
     clear c4
     by_cases c5 : 0 ≤ x5_1
     ·rw [if_pos c5] at H
      have c5b0 : decide (0 ≤ x5_1) = true := decide_eq_true c5
      clear c5
      by_cases c6 : x5_1 < (l1.length : Int)
      ·rw [if_pos c6] at H
       have c6b0 : decide (x5_1 < (l1.length : Int)) = true := decide_eq_true c6
       clear c6
       by_cases c7 : (!(((rd_T66 l0 x5_1).f0) == ((rd_T66 l1 x5_1).f0)) || (!(((rd_T66 l0 x5_1).f1) == ((rd_T66 l1 x5_1).f1)) || (!(((rd_T66 l0 x5_1).f2) == ((rd_T66 l1 x5_1).f2)) || (!(((rd_T66 l0 x5_1).f3) == ((rd_T66 l1 x5_1).f3)) || (!(((rd_T66 l0 x5_1).f4) == ((rd_T66 l1 x5_1).f4)) || (!(((rd_T66 l0 x5_1).f5) == ((rd_T66 l1 x5_1).f5)))))))) = true
       ·rw [if_pos c7] at H
        have c7b0 : (!(((rd_T66 l0 x5_1).f0) == ((rd_T66 l1 x5_1).f0)) || (!(((rd_T66 l0 x5_1).f1) == ((rd_T66 l1 x5_1).f1)) || (!(((rd_T66 l0 x5_1).f2) == ((rd_T66 l1 x5_1).f2)) || (!(((rd_T66 l0 x5_1).f3) == ((rd_T66 l1 x5_1).f3)) || (!(((rd_T66 l0 x5_1).f4) == ((rd_T66 l1 x5_1).f4)) || (!(((rd_T66 l0 x5_1).f5) == ((rd_T66 l1 x5_1).f5)))))))) = true := c7
        clear c7
        obtain rfl := Option.some.inj H
        have p106 : 0 ≤ (x5_1 : Int) := of_decide_eq_true (by first | (with_reducible assumption) | assumption)
        have q106 : x5_1 < (l0.length : Int) := of_decide_eq_true (by first | (with_reducible assumption) | assumption)
        obtain ⟨ad106, e106, hx106_0, hx106_1, hx106_2, hx106_3, hx106_4, hx106_5⟩ := at_T66 HR0.out x5_1 p106 q106
        cases e106
        replace p106 := eq_true p106
        replace q106 := eq_true q106
        have p107 : 0 ≤ (x5_1 : Int) := of_decide_eq_true (by first | (with_reducible assumption) | assumption)
        have q107 : x5_1 < (l1.length : Int) := of_decide_eq_true (by first | (with_reducible assumption) | assumption)
        obtain ⟨ad107, e107, hx107_0, hx107_1, hx107_2, hx107_3, hx107_4, hx107_5⟩ := at_T66 HR1.out x5_1 p107 q107
        cases e107
        replace p107 := eq_true p107
        replace q107 := eq_true q107
        go_wp2
        repeat (go_quiet (fail); try go_wp2)
        go_ret
        exact ⟨by first | rfl | (simp; done) | (simp [*]; done), by repeat (first | exact Drawn0.refl _ | apply Drawn0.step)⟩
       ·rw [if_neg c7] at H
        have c7b0 : (!(((rd_T66 l0 x5_1).f0) == ((rd_T66 l1 x5_1).f0)) || (!(((rd_T66 l0 x5_1).f1) == ((rd_T66 l1 x5_1).f1)) || (!(((rd_T66 l0 x5_1).f2) == ((rd_T66 l1 x5_1).f2)) || (!(((rd_T66 l0 x5_1).f3) == ((rd_T66 l1 x5_1).f3)) || (!(((rd_T66 l0 x5_1).f4) == ((rd_T66 l1 x5_1).f4)) || (!(((rd_T66 l0 x5_1).f5) == ((rd_T66 l1 x5_1).f5)))))))) = false := by simpa using c7
        clear c7
        have H' := yc H
        clear H
        have p106 : 0 ≤ (x5_1 : Int) := of_decide_eq_true (by first | (with_reducible assumption) | assumption)
        have q106 : x5_1 < (l0.length : Int) := of_decide_eq_true (by first | (with_reducible assumption) | assumption)
        obtain ⟨ad106, e106, hx106_0, hx106_1, hx106_2, hx106_3, hx106_4, hx106_5⟩ := at_T66 HR0.out x5_1 p106 q106
        cases e106
        replace p106 := eq_true p106
        replace q106 := eq_true q106
        have p107 : 0 ≤ (x5_1 : Int) := of_decide_eq_true (by first | (with_reducible assumption) | assumption)
        have q107 : x5_1 < (l1.length : Int) := of_decide_eq_true (by first | (with_reducible assumption) | assumption)
        obtain ⟨ad107, e107, hx107_0, hx107_1, hx107_2, hx107_3, hx107_4, hx107_5⟩ := at_T66 HR1.out x5_1 p107 q107
        cases e107
        replace p107 := eq_true p107
        replace q107 := eq_true q107
        go_wp2
        repeat (go_quiet (fail); try go_wp2)
        go_roundg k1
        case measure => have := HK1.out; omega
        case rel => exact ⟨(wrap64 (x5_1 + 1)), (by first | rfl | (simp; done) | (simp [*]; done)), H', ⟨by have := HK1.out; omega⟩, by repeat (first | exact Drawn0.refl _ | apply Drawn0.step)⟩
      ·rw [if_neg c6] at H
       exact absurd H (by simp)
     ·rw [if_neg c5] at H
      exact absurd H (by simp)
    ·rw [if_neg c4] at H
     have c4b0 : decide (x5_1 < (l0.length : Int)) = false := decide_eq_false c4
     clear c4
     obtain rfl := Option.some.inj H
     go_wp2
     repeat (go_quiet (fail); try go_wp2)
     go_ret
     exact ⟨by first | rfl | (simp; done) | (simp [*]; done), by repeat (first | exact Drawn0.refl _ | apply Drawn0.step)⟩
 ·rw [if_neg c3] at H
  have c3b0 : ((l0.length : Int) == (l1.length : Int)) = false := beq_eq_false_iff_ne.mpr c3
  have c3b1 : ((l0.length : Int) != (l1.length : Int)) = true := bne_iff_ne.mpr c3
  have c3b2 : (l0.length == l1.length) = false := by first | simpa using c3 | (simp at c3 ⊢; omega)
  obtain rfl := Option.some.inj H
  go_enter Tryz.func52, Tryz.ntmps52
  go_wp2
  repeat (go_quiet (fail); try go_wp2)
  go_ret
  exact ⟨by first | rfl | (simp; done) | (simp [*]; done), by repeat (first | exact Drawn0.refl _ | apply Drawn0.step)⟩
end Go.Proofs.YtgkchcbnbbgdpaaGreatDoor.QJobCopies
