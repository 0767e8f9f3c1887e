/- Joined out of: QJobCopiesy1. -/
import Derived.Test.YtgkchcbnbbgdpaaGreatDoorJcL
import Derived.Test.YtgkchcbnbbgdpaaGreatDoorJcE
import Derived.Test.YtgkchcbnbbgdpaaGreatDoorJcF
import Derived.Test.YtgkchcbnbbgdpaaGreatDoorJcG
import Derived.Test.YtgkchcbnbbgdpaaGreatDoorJcH
import Derived.Test.YtgkchcbnbbgdpaaGreatDoorJcJ
import Derived.Test.YtgkchcbnbbgdpaaGreatDoorJcK
set_option linter.unusedVariables false
set_option linter.unusedSimpArgs false
namespace Go.Proofs.YtgkchcbnbbgdpaaGreatDoor.QJobCopies
open Go.RowKit Go.Proofs.YtgkchcbnbbgdpaaGreatDoorW.PrintWords Go.Proofs.YtgkchcbnbbgdpaaGreatDoorW.PrintLast

set_option maxHeartbeats 8000000 in
set_option maxRecDepth 100000 in
theorem outriderlaw17_JobCopies.calls (k : Nat) (a0_0 : Int) (A0_1 : Option Addr) (c0_1 : Nat) (l0_1 : List (S58)) (A0_2 : Option Addr) (c0_2 : Nat) (l0_2 : List (S61)) (a0_3 : Int) (a0_4 : Int) (a0_5 : Int) (a0_6 : Int) (a0_7 : Int) (a0_8 : Int) (a0_9 : Int) (A0_10 : Option Addr) (c0_10 : Nat) (l0_10 : List (List (S66))) (a1_0 : Int) (A1_1 : Option Addr) (c1_1 : Nat) (l1_1 : List (S58)) (A1_2 : Option Addr) (c1_2 : Nat) (l1_2 : List (S61)) (a1_3 : Int) (a1_4 : Int) (a1_5 : Int) (a1_6 : Int) (a1_7 : Int) (a1_8 : Int) (a1_9 : Int) (A1_10 : Option Addr) (c1_10 : Nat) (l1_10 : List (List (S66))) (w : World) (hr0_1 : Kd.C k58 w A0_1 l0_1.length l0_1) (hc0_1 : l0_1.length ≤ c0_1) (hr0_2 : Kd.C k61 w A0_2 l0_2.length l0_2) (hc0_2 : l0_2.length ≤ c0_2) (hr0_10 : Kd.C (Kd.slice 66 k66) w A0_10 l0_10.length l0_10) (hc0_10 : l0_10.length ≤ c0_10) (hr1_1 : Kd.C k58 w A1_1 l1_1.length l1_1) (hc1_1 : l1_1.length ≤ c1_1) (hr1_2 : Kd.C k61 w A1_2 l1_2.length l1_2) (hc1_2 : l1_2.length ≤ c1_2) (hr1_10 : Kd.C (Kd.slice 66 k66) w A1_10 l1_10.length l1_10) (hc1_10 : l1_10.length ≤ c1_10) (h : outriderlaw17_JobCopies.f k a0_0 l0_1 l0_2 a0_3 a0_4 a0_5 a0_6 a0_7 a0_8 a0_9 l0_10 a1_0 l1_1 l1_2 a1_3 a1_4 a1_5 a1_6 a1_7 a1_8 a1_9 l1_10 = some true) :
  Calls Tryz.prog 7 #[.agg #[.int .i64 a0_0, .slice A0_1 l0_1.length c0_1, .slice A0_2 l0_2.length c0_2, .int .i64 a0_3, .int .i64 a0_4, .int .i64 a0_5, .int .i64 a0_6, .int .i64 a0_7, .int .i64 a0_8, .int .i64 a0_9, .slice A0_10 l0_10.length c0_10], .agg #[.int .i64 a1_0, .slice A1_1 l1_1.length c1_1, .slice A1_2 l1_2.length c1_2, .int .i64 a1_3, .int .i64 a1_4, .int .i64 a1_5, .int .i64 a1_6, .int .i64 a1_7, .int .i64 a1_8, .int .i64 a1_9, .slice A1_10 l1_10.length c1_10]] w fun e w' => e = .returned (.bool true) ∧ Below w.heap.size w w' := by
 have hu29 := Tryz.underlying29
 have HR0_1 := yc hr0_1
 have HC0_1 := yc hc0_1
 clear hr0_1 hc0_1
 have HR0_2 := yc hr0_2
 have HC0_2 := yc hc0_2
 clear hr0_2 hc0_2
 have HR0_10 := yc hr0_10
 have HC0_10 := yc hc0_10
 clear hr0_10 hc0_10
 have HR1_1 := yc hr1_1
 have HC1_1 := yc hc1_1
 clear hr1_1 hc1_1
 have HR1_2 := yc hr1_2
 have HC1_2 := yc hc1_2
 clear hr1_2 hc1_2
 have HR1_10 := yc hr1_10
 have HC1_10 := yc hc1_10
 clear hr1_10 hc1_10
 have HB := yc (Below.refl w.heap.size w)
 have H : ((outriderlaw17_Great.f k a0_0 l0_1 l0_2 a0_3 a0_4 a0_5 a0_6 a0_7 a0_8 a0_9 l0_10).bind fun t169 => (if t169 = true then (outriderlaw17_JobCopies.j0 k true a0_0 l0_1 l0_2 a0_3 a0_4 a0_5 a0_6 a0_7 a0_8 a0_9 l0_10 a1_0 l1_1 l1_2 a1_3 a1_4 a1_5 a1_6 a1_7 a1_8 a1_9 l1_10) else ((outriderlaw17_Great.f k a1_0 l1_1 l1_2 a1_3 a1_4 a1_5 a1_6 a1_7 a1_8 a1_9 l1_10).bind fun t170 => (outriderlaw17_JobCopies.j0 k t170 a0_0 l0_1 l0_2 a0_3 a0_4 a0_5 a0_6 a0_7 a0_8 a0_9 l0_10 a1_0 l1_1 l1_2 a1_3 a1_4 a1_5 a1_6 a1_7 a1_8 a1_9 l1_10)))) = some true := h
 clear h
 have HC3 := yc H
 clear H
 go_enter Tryz.func7, Tryz.ntmps7
 go_upto_region 1 with (first | ((with_reducible refine gate_dst (N := 2) rfl ?_); refine box_event ?hg (N := 2) ?hd (cs := #[.int .i64 a0_0, .slice A0_1 l0_1.length c0_1, .slice A0_2 l0_2.length c0_2, .int .i64 a0_3, .int .i64 a0_4, .int .i64 a0_5, .int .i64 a0_6, .int .i64 a0_7, .int .i64 a0_8, .int .i64 a0_9, .slice A0_10 l0_10.length c0_10]) (t := 29) ?hr ?_; (case hd => rfl); (case hg => rfl); (case hr => first | (go_simp; done) | (go_simp; rfl)); intro gb167 hg w4 hbox hb; have n0_ := yc (below_step (by repeat (first | (with_reducible first | exact HB.out | apply yd | apply ye | apply yf) | exact HB.out)) hb); have n1_ := yc (hbox); have n2_ := yc ((by rw [hg]; exact (below_size (by repeat (first | (with_reducible first | exact HB.out | apply yd | apply ye | apply yf) | exact HB.out))) : w.heap.size ≤ gb167)); have n3_ := yc ((by rw [hg]; exact (below_size (by repeat (first | (with_reducible first | exact HB.out | apply yd | apply ye | apply yf) | exact HB.out))) : w.heap.size ≤ gb167)); clear HB; have HB := n0_; have BK167 := n1_; have GW167 := n2_; have GE167 := n3_; clear n0_ n1_ n2_ n3_; clear hb hbox hg) | ((with_reducible refine gate_dst (N := 3) rfl ?_); refine box_event ?hg (N := 3) ?hd (cs := #[.int .i64 a1_0, .slice A1_1 l1_1.length c1_1, .slice A1_2 l1_2.length c1_2, .int .i64 a1_3, .int .i64 a1_4, .int .i64 a1_5, .int .i64 a1_6, .int .i64 a1_7, .int .i64 a1_8, .int .i64 a1_9, .slice A1_10 l1_10.length c1_10]) (t := 29) ?hr ?_; (case hd => rfl); (case hg => rfl); (case hr => first | (go_simp; done) | (go_simp; rfl)); intro gb168 hg w5 hbox hb; have n0_ := yc (blk_below (g := gb167) (o := .cells #[.int .i64 a0_0, .slice A0_1 l0_1.length c0_1, .slice A0_2 l0_2.length c0_2, .int .i64 a0_3, .int .i64 a0_4, .int .i64 a0_5, .int .i64 a0_6, .int .i64 a0_7, .int .i64 a0_8, .int .i64 a0_9, .slice A0_10 l0_10.length c0_10] 29 (0, 0)) (by (with_reducible repeat (first | refine yh ?_ _ | refine yj ?_ | refine yi ?_ _)); exact BK167.out) hb); have n1_ := yc (below_step (by repeat (first | (with_reducible first | exact HB.out | apply yd | apply ye | apply yf | refine yg ?_ GE167.out) | exact HB.out)) hb); have n2_ := yc (hbox); have n3_ := yc ((by rw [hg]; exact (below_size (by repeat (first | (with_reducible first | exact HB.out | apply yd | apply ye | apply yf | refine yg ?_ GE167.out) | exact HB.out))) : w.heap.size ≤ gb168)); have n4_ := yc ((by rw [hg]; exact (below_size (by repeat (first | (with_reducible first | exact HB.out | apply yd | apply ye | apply yf | refine yg ?_ GE167.out) | exact HB.out))) : w.heap.size ≤ gb168)); have n5_ := yc ((by rw [hg]; exact Nat.ne_of_lt (blk_lt (g := gb167) (o := .cells #[.int .i64 a0_0, .slice A0_1 l0_1.length c0_1, .slice A0_2 l0_2.length c0_2, .int .i64 a0_3, .int .i64 a0_4, .int .i64 a0_5, .int .i64 a0_6, .int .i64 a0_7, .int .i64 a0_8, .int .i64 a0_9, .slice A0_10 l0_10.length c0_10] 29 (0, 0)) (by (with_reducible repeat (first | refine yh ?_ _ | refine yj ?_ | refine yi ?_ _)); exact BK167.out)) : gb167 ≠ gb168)); have n6_ := yc ((by rw [hg]; exact Nat.ne_of_gt (blk_lt (g := gb167) (o := .cells #[.int .i64 a0_0, .slice A0_1 l0_1.length c0_1, .slice A0_2 l0_2.length c0_2, .int .i64 a0_3, .int .i64 a0_4, .int .i64 a0_5, .int .i64 a0_6, .int .i64 a0_7, .int .i64 a0_8, .int .i64 a0_9, .slice A0_10 l0_10.length c0_10] 29 (0, 0)) (by (with_reducible repeat (first | refine yh ?_ _ | refine yj ?_ | refine yi ?_ _)); exact BK167.out)) : gb168 ≠ gb167)); clear BK167; clear HB; have BK167 := n0_; have HB := n1_; have BK168 := n2_; have GW168 := n3_; have GE168 := n4_; have NB167_168 := n5_; have NB168_167 := n6_; clear n0_ n1_ n2_ n3_ n4_ n5_ n6_; clear hb hbox hg))
 (try simp only [Act.put, List.setIfInBounds_toArray, List.set_cons_zero, List.set_cons_succ])
 go_cut [16] (fun v16 wc => ∃ (kq : Nat) (x16_2 : Bool), v16 = .bool x16_2 ∧ Aside0 (outriderlaw17_JobCopies.j0 kq x16_2 a0_0 l0_1 l0_2 a0_3 a0_4 a0_5 a0_6 a0_7 a0_8 a0_9 l0_10 a1_0 l1_1 l1_2 a1_3 a1_4 a1_5 a1_6 a1_7 a1_8 a1_9 l1_10 = some true) ∧ Aside0 (kq ≤ k) ∧ Aside0 (wc.heap[gb167]? = some (.cells #[.int .i64 a0_0, (.slice A0_1 l0_1.length c0_1), (.slice A0_2 l0_2.length c0_2), .int .i64 a0_3, .int .i64 a0_4, .int .i64 a0_5, .int .i64 a0_6, .int .i64 a0_7, .int .i64 a0_8, .int .i64 a0_9, (.slice A0_10 l0_10.length c0_10)] 29 (0, 0))) ∧ Aside0 (wc.heap[gb168]? = some (.cells #[.int .i64 a1_0, (.slice A1_1 l1_1.length c1_1), (.slice A1_2 l1_2.length c1_2), .int .i64 a1_3, .int .i64 a1_4, .int .i64 a1_5, .int .i64 a1_6, .int .i64 a1_7, .int .i64 a1_8, .int .i64 a1_9, (.slice A1_10 l1_10.length c1_10)] 29 (0, 0))) ∧ Aside0 (Below w.heap.size w wc))
 case first =>
  have H := HC3.out
  clear HC3
  replace H := Option.bind_eq_some_iff.mp H
  obtain ⟨t169, A60, H⟩ := H
  replace H : (if t169 = true then (outriderlaw17_JobCopies.j0 k true a0_0 l0_1 l0_2 a0_3 a0_4 a0_5 a0_6 a0_7 a0_8 a0_9 l0_10 a1_0 l1_1 l1_2 a1_3 a1_4 a1_5 a1_6 a1_7 a1_8 a1_9 l1_10) else ((outriderlaw17_Great.f k a1_0 l1_1 l1_2 a1_3 a1_4 a1_5 a1_6 a1_7 a1_8 a1_9 l1_10).bind fun t170 => (outriderlaw17_JobCopies.j0 k t170 a0_0 l0_1 l0_2 a0_3 a0_4 a0_5 a0_6 a0_7 a0_8 a0_9 l0_10 a1_0 l1_1 l1_2 a1_3 a1_4 a1_5 a1_6 a1_7 a1_8 a1_9 l1_10))) = some true := H
  have A6 := yc A60
  clear A60
  by_cases c7 : t169 = true
  ·subst c7
   have H1 : (outriderlaw17_JobCopies.j0 k true a0_0 l0_1 l0_2 a0_3 a0_4 a0_5 a0_6 a0_7 a0_8 a0_9 l0_10 a1_0 l1_1 l1_2 a1_3 a1_4 a1_5 a1_6 a1_7 a1_8 a1_9 l1_10) = some true := by rw [if_pos rfl] at H; exact H
   clear H
   have H := H1
   clear H1
   have H' := yc H
   clear H
   have hnb8 := NB167_168.out
   have hnc8 := NB168_167.out
   have hcz9_0 : w5.cell? ⟨gb167, 0, none⟩ = some (.int .i64 a0_0) := (ya BK167.out 0).trans rfl
   have hcz9_1 : w5.cell? ⟨gb167, 1, none⟩ = some (.slice A0_1 l0_1.length c0_1) := (ya BK167.out 1).trans rfl
   have hcz9_2 : w5.cell? ⟨gb167, 2, none⟩ = some (.slice A0_2 l0_2.length c0_2) := (ya BK167.out 2).trans rfl
   have hcz9_3 : w5.cell? ⟨gb167, 3, none⟩ = some (.int .i64 a0_3) := (ya BK167.out 3).trans rfl
   have hcz9_4 : w5.cell? ⟨gb167, 4, none⟩ = some (.int .i64 a0_4) := (ya BK167.out 4).trans rfl
   have hcz9_5 : w5.cell? ⟨gb167, 5, none⟩ = some (.int .i64 a0_5) := (ya BK167.out 5).trans rfl
   have hcz9_6 : w5.cell? ⟨gb167, 6, none⟩ = some (.int .i64 a0_6) := (ya BK167.out 6).trans rfl
   have hcz9_7 : w5.cell? ⟨gb167, 7, none⟩ = some (.int .i64 a0_7) := (ya BK167.out 7).trans rfl
   have hcz9_8 : w5.cell? ⟨gb167, 8, none⟩ = some (.int .i64 a0_8) := (ya BK167.out 8).trans rfl
   have hcz9_9 : w5.cell? ⟨gb167, 9, none⟩ = some (.int .i64 a0_9) := (ya BK167.out 9).trans rfl
   have hcz9_10 : w5.cell? ⟨gb167, 10, none⟩ = some (.slice A0_10 l0_10.length c0_10) := (ya BK167.out 10).trans rfl
   have hfz9_0 := yb BK167.out 0
   have hfz9_1 := yb BK167.out 1
   have hfz9_2 := yb BK167.out 2
   have hfz9_3 := yb BK167.out 3
   have hfz9_4 := yb BK167.out 4
   have hfz9_5 := yb BK167.out 5
   have hfz9_6 := yb BK167.out 6
   have hfz9_7 := yb BK167.out 7
   have hfz9_8 := yb BK167.out 8
   have hfz9_9 := yb BK167.out 9
   have hfz9_10 := yb BK167.out 10
   go_wp2_with (first | ((with_reducible refine gate_callee (f := 11) rfl ?_); refine goesL_ (some 12) rfl rfl Tryz.func11 (by kernel_rfl) rfl #[.agg #[.int .i64 a0_0, .slice A0_1 l0_1.length c0_1, .slice A0_2 l0_2.length c0_2, .int .i64 a0_3, .int .i64 a0_4, .int .i64 a0_5, .int .i64 a0_6, .int .i64 a0_7, .int .i64 a0_8, .int .i64 a0_9, .slice A0_10 l0_10.length c0_10]] rfl (by (try simp only [List.map_toArray, List.map_cons, List.map_nil]); first | done | rfl | (simp only [List.length_drop, List.length_take]; rfl)) ?_; (with_reducible refine (outriderlaw17_Great.calls k a0_0 _ _ l0_1 _ _ l0_2 a0_3 a0_4 a0_5 a0_6 a0_7 a0_8 a0_9 _ _ l0_10 true _ ?side1 ?side2 ?side3 ?side4 ?side5 ?side6 A6.out).mono ?_); (case side1 => repeat (first | exact (Kd.C_below HR0_1.out HB.out) | (with_reducible refine Kd.C_alloc ?_ _) | (with_reducible refine Kd.C_drewN ?_ _) | (with_reducible refine Kd.C_drew ?_))); (case side2 => exact HC0_1.out); (case side3 => repeat (first | exact (Kd.C_below HR0_2.out HB.out) | (with_reducible refine Kd.C_alloc ?_ _) | (with_reducible refine Kd.C_drewN ?_ _) | (with_reducible refine Kd.C_drew ?_))); (case side4 => exact HC0_2.out); (case side5 => repeat (first | exact (Kd.C_below HR0_10.out HB.out) | (with_reducible refine Kd.C_alloc ?_ _) | (with_reducible refine Kd.C_drewN ?_ _) | (with_reducible refine Kd.C_drew ?_))); (case side6 => exact HC0_10.out); rintro e w10 ⟨rfl, hb⟩; refine ⟨_, rfl, ?_⟩; have n0_ := yc (blk_below (g := gb167) (o := .cells #[.int .i64 a0_0, .slice A0_1 l0_1.length c0_1, .slice A0_2 l0_2.length c0_2, .int .i64 a0_3, .int .i64 a0_4, .int .i64 a0_5, .int .i64 a0_6, .int .i64 a0_7, .int .i64 a0_8, .int .i64 a0_9, .slice A0_10 l0_10.length c0_10] 29 (0, 0)) (by (with_reducible repeat (first | refine yh ?_ _ | refine yj ?_ | refine yi ?_ _)); exact BK167.out) hb); have n1_ := yc (blk_below (g := gb168) (o := .cells #[.int .i64 a1_0, .slice A1_1 l1_1.length c1_1, .slice A1_2 l1_2.length c1_2, .int .i64 a1_3, .int .i64 a1_4, .int .i64 a1_5, .int .i64 a1_6, .int .i64 a1_7, .int .i64 a1_8, .int .i64 a1_9, .slice A1_10 l1_10.length c1_10] 29 (0, 0)) (by (with_reducible repeat (first | refine yh ?_ _ | refine yj ?_ | refine yi ?_ _)); exact BK168.out) hb); have n2_ := yc (below_step (by repeat (first | (with_reducible first | exact HB.out | apply yd | apply ye | apply yf | refine yg ?_ GE167.out | refine yg ?_ GE168.out) | exact HB.out)) hb); clear BK167; clear BK168; clear HB; have BK167 := n0_; have BK168 := n1_; have HB := n2_; clear n0_ n1_ n2_; (try clear hb); (try clear hb2); (try clear hk); (try clear hi)))
   go_meet
   case rel => exact ⟨_, (true), (by first | rfl | (simp; done) | (simp [*]; done)), H', ⟨by first | omega | exact Nat.le_refl _⟩, ⟨by (with_reducible repeat (first | refine yh ?_ _ | refine yj ?_ | refine yi ?_ _)); exact BK167.out⟩, ⟨by (with_reducible repeat (first | refine yh ?_ _ | refine yj ?_ | refine yi ?_ _)); exact BK168.out⟩, ⟨by repeat (first | (with_reducible first | exact HB.out | apply yd | apply ye | apply yf | refine yg ?_ GE167.out | refine yg ?_ GE168.out) | exact HB.out)⟩⟩
  ·replace c7 := Bool.eq_false_iff.mpr c7
   subst c7
   have H1 : ((outriderlaw17_Great.f k a1_0 l1_1 l1_2 a1_3 a1_4 a1_5 a1_6 a1_7 a1_8 a1_9 l1_10).bind fun t170 => (outriderlaw17_JobCopies.j0 k t170 a0_0 l0_1 l0_2 a0_3 a0_4 a0_5 a0_6 a0_7 a0_8 a0_9 l0_10 a1_0 l1_1 l1_2 a1_3 a1_4 a1_5 a1_6 a1_7 a1_8 a1_9 l1_10)) = some true := by rw [if_neg (show ¬ (false = true) by decide)] at H; exact H
   clear H
   have H := H1
   clear H1
   replace H := Option.bind_eq_some_iff.mp H
   obtain ⟨t170, A110, H⟩ := H
   replace H : (outriderlaw17_JobCopies.j0 k t170 a0_0 l0_1 l0_2 a0_3 a0_4 a0_5 a0_6 a0_7 a0_8 a0_9 l0_10 a1_0 l1_1 l1_2 a1_3 a1_4 a1_5 a1_6 a1_7 a1_8 a1_9 l1_10) = some true := H
   have A11 := yc A110
   clear A110
   have H' := yc H
   clear H
   have hnb12 := NB167_168.out
   have hnc12 := NB168_167.out
   have hcz13_0 : w5.cell? ⟨gb167, 0, none⟩ = some (.int .i64 a0_0) := (ya BK167.out 0).trans rfl
   have hcz13_1 : w5.cell? ⟨gb167, 1, none⟩ = some (.slice A0_1 l0_1.length c0_1) := (ya BK167.out 1).trans rfl
   have hcz13_2 : w5.cell? ⟨gb167, 2, none⟩ = some (.slice A0_2 l0_2.length c0_2) := (ya BK167.out 2).trans rfl
   have hcz13_3 : w5.cell? ⟨gb167, 3, none⟩ = some (.int .i64 a0_3) := (ya BK167.out 3).trans rfl
   have hcz13_4 : w5.cell? ⟨gb167, 4, none⟩ = some (.int .i64 a0_4) := (ya BK167.out 4).trans rfl
   have hcz13_5 : w5.cell? ⟨gb167, 5, none⟩ = some (.int .i64 a0_5) := (ya BK167.out 5).trans rfl
   have hcz13_6 : w5.cell? ⟨gb167, 6, none⟩ = some (.int .i64 a0_6) := (ya BK167.out 6).trans rfl
   have hcz13_7 : w5.cell? ⟨gb167, 7, none⟩ = some (.int .i64 a0_7) := (ya BK167.out 7).trans rfl
   have hcz13_8 : w5.cell? ⟨gb167, 8, none⟩ = some (.int .i64 a0_8) := (ya BK167.out 8).trans rfl
   have hcz13_9 : w5.cell? ⟨gb167, 9, none⟩ = some (.int .i64 a0_9) := (ya BK167.out 9).trans rfl
   have hcz13_10 : w5.cell? ⟨gb167, 10, none⟩ = some (.slice A0_10 l0_10.length c0_10) := (ya BK167.out 10).trans rfl
   have hfz13_0 := yb BK167.out 0
   have hfz13_1 := yb BK167.out 1
   have hfz13_2 := yb BK167.out 2
   have hfz13_3 := yb BK167.out 3
   have hfz13_4 := yb BK167.out 4
   have hfz13_5 := yb BK167.out 5
   have hfz13_6 := yb BK167.out 6
   have hfz13_7 := yb BK167.out 7
   have hfz13_8 := yb BK167.out 8
   have hfz13_9 := yb BK167.out 9
   have hfz13_10 := yb BK167.out 10
   go_wp2_with (first | ((with_reducible refine gate_callee (f := 11) rfl ?_); refine goesL_ (some 12) rfl rfl Tryz.func11 (by kernel_rfl) rfl #[.agg #[.int .i64 a0_0, .slice A0_1 l0_1.length c0_1, .slice A0_2 l0_2.length c0_2, .int .i64 a0_3, .int .i64 a0_4, .int .i64 a0_5, .int .i64 a0_6, .int .i64 a0_7, .int .i64 a0_8, .int .i64 a0_9, .slice A0_10 l0_10.length c0_10]] rfl (by (try simp only [List.map_toArray, List.map_cons, List.map_nil]); first | done | rfl | (simp only [List.length_drop, List.length_take]; rfl)) ?_; (with_reducible refine (outriderlaw17_Great.calls k a0_0 _ _ l0_1 _ _ l0_2 a0_3 a0_4 a0_5 a0_6 a0_7 a0_8 a0_9 _ _ l0_10 false _ ?side1 ?side2 ?side3 ?side4 ?side5 ?side6 A6.out).mono ?_); (case side1 => repeat (first | exact (Kd.C_below HR0_1.out HB.out) | (with_reducible refine Kd.C_alloc ?_ _) | (with_reducible refine Kd.C_drewN ?_ _) | (with_reducible refine Kd.C_drew ?_))); (case side2 => exact HC0_1.out); (case side3 => repeat (first | exact (Kd.C_below HR0_2.out HB.out) | (with_reducible refine Kd.C_alloc ?_ _) | (with_reducible refine Kd.C_drewN ?_ _) | (with_reducible refine Kd.C_drew ?_))); (case side4 => exact HC0_2.out); (case side5 => repeat (first | exact (Kd.C_below HR0_10.out HB.out) | (with_reducible refine Kd.C_alloc ?_ _) | (with_reducible refine Kd.C_drewN ?_ _) | (with_reducible refine Kd.C_drew ?_))); (case side6 => exact HC0_10.out); rintro e w14 ⟨rfl, hb⟩; refine ⟨_, rfl, ?_⟩; have n0_ := yc (blk_below (g := gb167) (o := .cells #[.int .i64 a0_0, .slice A0_1 l0_1.length c0_1, .slice A0_2 l0_2.length c0_2, .int .i64 a0_3, .int .i64 a0_4, .int .i64 a0_5, .int .i64 a0_6, .int .i64 a0_7, .int .i64 a0_8, .int .i64 a0_9, .slice A0_10 l0_10.length c0_10] 29 (0, 0)) (by (with_reducible repeat (first | refine yh ?_ _ | refine yj ?_ | refine yi ?_ _)); exact BK167.out) hb); have n1_ := yc (blk_below (g := gb168) (o := .cells #[.int .i64 a1_0, .slice A1_1 l1_1.length c1_1, .slice A1_2 l1_2.length c1_2, .int .i64 a1_3, .int .i64 a1_4, .int .i64 a1_5, .int .i64 a1_6, .int .i64 a1_7, .int .i64 a1_8, .int .i64 a1_9, .slice A1_10 l1_10.length c1_10] 29 (0, 0)) (by (with_reducible repeat (first | refine yh ?_ _ | refine yj ?_ | refine yi ?_ _)); exact BK168.out) hb); have n2_ := yc (below_step (by repeat (first | (with_reducible first | exact HB.out | apply yd | apply ye | apply yf | refine yg ?_ GE167.out | refine yg ?_ GE168.out) | exact HB.out)) hb); clear BK167; clear BK168; clear HB; have BK167 := n0_; have BK168 := n1_; have HB := n2_; clear n0_ n1_ n2_; (try clear hb); (try clear hb2); (try clear hk); (try clear hi); have hcz15_0 : w14.cell? ⟨gb168, 0, none⟩ = some (.int .i64 a1_0) := (ya BK168.out 0).trans rfl; have hcz15_1 : w14.cell? ⟨gb168, 1, none⟩ = some (.slice A1_1 l1_1.length c1_1) := (ya BK168.out 1).trans rfl; have hcz15_2 : w14.cell? ⟨gb168, 2, none⟩ = some (.slice A1_2 l1_2.length c1_2) := (ya BK168.out 2).trans rfl; have hcz15_3 : w14.cell? ⟨gb168, 3, none⟩ = some (.int .i64 a1_3) := (ya BK168.out 3).trans rfl; have hcz15_4 : w14.cell? ⟨gb168, 4, none⟩ = some (.int .i64 a1_4) := (ya BK168.out 4).trans rfl; have hcz15_5 : w14.cell? ⟨gb168, 5, none⟩ = some (.int .i64 a1_5) := (ya BK168.out 5).trans rfl; have hcz15_6 : w14.cell? ⟨gb168, 6, none⟩ = some (.int .i64 a1_6) := (ya BK168.out 6).trans rfl; have hcz15_7 : w14.cell? ⟨gb168, 7, none⟩ = some (.int .i64 a1_7) := (ya BK168.out 7).trans rfl; have hcz15_8 : w14.cell? ⟨gb168, 8, none⟩ = some (.int .i64 a1_8) := (ya BK168.out 8).trans rfl; have hcz15_9 : w14.cell? ⟨gb168, 9, none⟩ = some (.int .i64 a1_9) := (ya BK168.out 9).trans rfl; have hcz15_10 : w14.cell? ⟨gb168, 10, none⟩ = some (.slice A1_10 l1_10.length c1_10) := (ya BK168.out 10).trans rfl; have hfz15_0 := yb BK168.out 0; have hfz15_1 := yb BK168.out 1; have hfz15_2 := yb BK168.out 2; have hfz15_3 := yb BK168.out 3; have hfz15_4 := yb BK168.out 4; have hfz15_5 := yb BK168.out 5; have hfz15_6 := yb BK168.out 6; have hfz15_7 := yb BK168.out 7; have hfz15_8 := yb BK168.out 8; have hfz15_9 := yb BK168.out 9; have hfz15_10 := yb BK168.out 10) | (go_at_call 11; (with_reducible refine (outriderlaw17_Great.calls k a1_0 _ _ l1_1 _ _ l1_2 a1_3 a1_4 a1_5 a1_6 a1_7 a1_8 a1_9 _ _ l1_10 t170 _ ?side1 ?side2 ?side3 ?side4 ?side5 ?side6 A11.out).mono ?_); (case side1 => repeat (first | exact (Kd.C_below HR1_1.out HB.out) | (with_reducible refine Kd.C_alloc ?_ _) | (with_reducible refine Kd.C_drewN ?_ _) | (with_reducible refine Kd.C_drew ?_))); (case side2 => exact HC1_1.out); (case side3 => repeat (first | exact (Kd.C_below HR1_2.out HB.out) | (with_reducible refine Kd.C_alloc ?_ _) | (with_reducible refine Kd.C_drewN ?_ _) | (with_reducible refine Kd.C_drew ?_))); (case side4 => exact HC1_2.out); (case side5 => repeat (first | exact (Kd.C_below HR1_10.out HB.out) | (with_reducible refine Kd.C_alloc ?_ _) | (with_reducible refine Kd.C_drewN ?_ _) | (with_reducible refine Kd.C_drew ?_))); (case side6 => exact HC1_10.out); rintro e w16 ⟨rfl, hb⟩; have n0_ := yc (blk_below (g := gb167) (o := .cells #[.int .i64 a0_0, .slice A0_1 l0_1.length c0_1, .slice A0_2 l0_2.length c0_2, .int .i64 a0_3, .int .i64 a0_4, .int .i64 a0_5, .int .i64 a0_6, .int .i64 a0_7, .int .i64 a0_8, .int .i64 a0_9, .slice A0_10 l0_10.length c0_10] 29 (0, 0)) (by (with_reducible repeat (first | refine yh ?_ _ | refine yj ?_ | refine yi ?_ _)); exact BK167.out) hb); have n1_ := yc (blk_below (g := gb168) (o := .cells #[.int .i64 a1_0, .slice A1_1 l1_1.length c1_1, .slice A1_2 l1_2.length c1_2, .int .i64 a1_3, .int .i64 a1_4, .int .i64 a1_5, .int .i64 a1_6, .int .i64 a1_7, .int .i64 a1_8, .int .i64 a1_9, .slice A1_10 l1_10.length c1_10] 29 (0, 0)) (by (with_reducible repeat (first | refine yh ?_ _ | refine yj ?_ | refine yi ?_ _)); exact BK168.out) hb); have n2_ := yc (below_step (by repeat (first | (with_reducible first | exact HB.out | apply yd | apply ye | apply yf | refine yg ?_ GE167.out | refine yg ?_ GE168.out) | exact HB.out)) hb); clear BK167; clear BK168; clear HB; have BK167 := n0_; have BK168 := n1_; have HB := n2_; clear n0_ n1_ n2_; (try clear hb); (try clear hb2); (try clear hk); (try clear hi)))
   go_meet
   case rel => exact ⟨_, (t170), (by first | rfl | (simp; done) | (simp [*]; done)), H', ⟨by first | omega | exact Nat.le_refl _⟩, ⟨by (with_reducible repeat (first | refine yh ?_ _ | refine yj ?_ | refine yi ?_ _)); exact BK167.out⟩, ⟨by (with_reducible repeat (first | refine yh ?_ _ | refine yj ?_ | refine yi ?_ _)); exact BK168.out⟩, ⟨by repeat (first | (with_reducible first | exact HB.out | apply yd | apply ye | apply yf | refine yg ?_ GE167.out | refine yg ?_ GE168.out) | exact HB.out)⟩⟩
 case rest =>
  clear HC3
  try clear c1; try clear p2; try clear c7; try clear c8; try clear c11; try clear c12; try clear hcz13_0; try clear hcz13_1; try clear hcz13_10; try clear hcz13_2; try clear hcz13_3; try clear hcz13_4; try clear hcz13_5; try clear hcz13_6; try clear hcz13_7; try clear hcz13_8; try clear hcz13_9; try clear hcz15_0; try clear hcz15_1; try clear hcz15_10; try clear hcz15_2; try clear hcz15_3; try clear hcz15_4; try clear hcz15_5; try clear hcz15_6; try clear hcz15_7; try clear hcz15_8; try clear hcz15_9; try clear hcz9_0; try clear hcz9_1; try clear hcz9_10; try clear hcz9_2; try clear hcz9_3; try clear hcz9_4; try clear hcz9_5; try clear hcz9_6; try clear hcz9_7; try clear hcz9_8; try clear hcz9_9; try clear hfz13_0; try clear hfz13_1; try clear hfz13_10; try clear hfz13_2; try clear hfz13_3; try clear hfz13_4; try clear hfz13_5; try clear hfz13_6; try clear hfz13_7; try clear hfz13_8; try clear hfz13_9; try clear hfz15_0; try clear hfz15_1; try clear hfz15_10; try clear hfz15_2; try clear hfz15_3; try clear hfz15_4; try clear hfz15_5; try clear hfz15_6; try clear hfz15_7; try clear hfz15_8; try clear hfz15_9; try clear hfz9_0; try clear hfz9_1; try clear hfz9_10; try clear hfz9_2; try clear hfz9_3; try clear hfz9_4; try clear hfz9_5; try clear hfz9_6; try clear hfz9_7; try clear hfz9_8; try clear hfz9_9
  obtain ⟨kq, x16_2, rfl, HA, HJ2, BK167, BK168, HB⟩ := hcut
  cases kq with
  | zero => exact absurd HA.out (by simp [outriderlaw17_JobCopies.j0])
  | succ kj2 =>
   have H := HA.out
   clear HA
   simp only [outriderlaw17_JobCopies.j0] at H
   by_cases c17 : x16_2 = true
   ·subst c17
    have H1 : (some true) = some true := rfl
    clear H
    have H := H1
    clear H1
    clear H
    go_wp2
    go_ret
    exact ⟨by first | rfl | (simp [errW_none, errW_some] <;> rfl) | (simp [*, errW_none, errW_some] <;> rfl), by repeat (first | (with_reducible first | exact HB.out | apply yd | apply ye | apply yf | refine yg ?_ GE167.out | refine yg ?_ GE168.out) | exact HB.out)⟩
   ·replace c17 := Bool.eq_false_iff.mpr c17
    subst c17
    have H1 : ((outriderref17_Copy.f kj2 a0_0 l0_1 l0_2 a0_3 a0_4 a0_5 a0_6 a0_7 a0_8 a0_9 l0_10).bind fun bt171 => ((job_Same.f kj2 a0_0 l0_1 l0_2 a0_3 a0_4 a0_5 a0_6 a0_7 a0_8 a0_9 l0_10 a1_0 l1_1 l1_2 a1_3 a1_4 a1_5 a1_6 a1_7 a1_8 a1_9 l1_10).bind fun t189 => ((outriderref17_Same.f kj2 a0_0 l0_1 l0_2 a0_3 a0_4 a0_5 a0_6 a0_7 a0_8 a0_9 l0_10 a1_0 l1_1 l1_2 a1_3 a1_4 a1_5 a1_6 a1_7 a1_8 a1_9 l1_10).bind fun t190 => (if (t189 != t190) = true then (outriderlaw17_JobCopies.j1 kj2 true a0_0 l0_1 l0_2 a0_3 a0_4 a0_5 a0_6 a0_7 a0_8 a0_9 l0_10 bt171.1 bt171.2.1 bt171.2.2.1 bt171.2.2.2.1 bt171.2.2.2.2.1 bt171.2.2.2.2.2.1 bt171.2.2.2.2.2.2.1 bt171.2.2.2.2.2.2.2.1 bt171.2.2.2.2.2.2.2.2.1 bt171.2.2.2.2.2.2.2.2.2.1 bt171.2.2.2.2.2.2.2.2.2.2) else ((job_Same.f kj2 a0_0 l0_1 l0_2 a0_3 a0_4 a0_5 a0_6 a0_7 a0_8 a0_9 l0_10 bt171.1 bt171.2.1 bt171.2.2.1 bt171.2.2.2.1 bt171.2.2.2.2.1 bt171.2.2.2.2.2.1 bt171.2.2.2.2.2.2.1 bt171.2.2.2.2.2.2.2.1 bt171.2.2.2.2.2.2.2.2.1 bt171.2.2.2.2.2.2.2.2.2.1 bt171.2.2.2.2.2.2.2.2.2.2).bind fun t191 => (outriderlaw17_JobCopies.j1 kj2 (!t191) a0_0 l0_1 l0_2 a0_3 a0_4 a0_5 a0_6 a0_7 a0_8 a0_9 l0_10 bt171.1 bt171.2.1 bt171.2.2.1 bt171.2.2.2.1 bt171.2.2.2.2.1 bt171.2.2.2.2.2.1 bt171.2.2.2.2.2.2.1 bt171.2.2.2.2.2.2.2.1 bt171.2.2.2.2.2.2.2.2.1 bt171.2.2.2.2.2.2.2.2.2.1 bt171.2.2.2.2.2.2.2.2.2.2)))))) = some true := by rw [if_neg (show ¬ (false = true) by decide)] at H; exact H
    clear H
    have H := H1
    clear H1
    replace H := Option.bind_eq_some_iff.mp H
    obtain ⟨⟨t171, t172, t175, t178, t179, t180, t181, t182, t183, t184, t185⟩, A180, H⟩ := H
    replace H : ((job_Same.f kj2 a0_0 l0_1 l0_2 a0_3 a0_4 a0_5 a0_6 a0_7 a0_8 a0_9 l0_10 a1_0 l1_1 l1_2 a1_3 a1_4 a1_5 a1_6 a1_7 a1_8 a1_9 l1_10).bind fun t189 => ((outriderref17_Same.f kj2 a0_0 l0_1 l0_2 a0_3 a0_4 a0_5 a0_6 a0_7 a0_8 a0_9 l0_10 a1_0 l1_1 l1_2 a1_3 a1_4 a1_5 a1_6 a1_7 a1_8 a1_9 l1_10).bind fun t190 => (if (t189 != t190) = true then (outriderlaw17_JobCopies.j1 kj2 true a0_0 l0_1 l0_2 a0_3 a0_4 a0_5 a0_6 a0_7 a0_8 a0_9 l0_10 t171 t172 t175 t178 t179 t180 t181 t182 t183 t184 t185) else ((job_Same.f kj2 a0_0 l0_1 l0_2 a0_3 a0_4 a0_5 a0_6 a0_7 a0_8 a0_9 l0_10 t171 t172 t175 t178 t179 t180 t181 t182 t183 t184 t185).bind fun t191 => (outriderlaw17_JobCopies.j1 kj2 (!t191) a0_0 l0_1 l0_2 a0_3 a0_4 a0_5 a0_6 a0_7 a0_8 a0_9 l0_10 t171 t172 t175 t178 t179 t180 t181 t182 t183 t184 t185))))) = some true := H
    have A18 := yc A180
    clear A180
    have HC19 := yc H
    clear H
    have hnb20 := NB167_168.out
    have hnc20 := NB168_167.out
    have hcz21_0 : wc.cell? ⟨gb167, 0, none⟩ = some (.int .i64 a0_0) := (ya BK167.out 0).trans rfl
    have hcz21_1 : wc.cell? ⟨gb167, 1, none⟩ = some (.slice A0_1 l0_1.length c0_1) := (ya BK167.out 1).trans rfl
    have hcz21_2 : wc.cell? ⟨gb167, 2, none⟩ = some (.slice A0_2 l0_2.length c0_2) := (ya BK167.out 2).trans rfl
    have hcz21_3 : wc.cell? ⟨gb167, 3, none⟩ = some (.int .i64 a0_3) := (ya BK167.out 3).trans rfl
    have hcz21_4 : wc.cell? ⟨gb167, 4, none⟩ = some (.int .i64 a0_4) := (ya BK167.out 4).trans rfl
    have hcz21_5 : wc.cell? ⟨gb167, 5, none⟩ = some (.int .i64 a0_5) := (ya BK167.out 5).trans rfl
    have hcz21_6 : wc.cell? ⟨gb167, 6, none⟩ = some (.int .i64 a0_6) := (ya BK167.out 6).trans rfl
    have hcz21_7 : wc.cell? ⟨gb167, 7, none⟩ = some (.int .i64 a0_7) := (ya BK167.out 7).trans rfl
    have hcz21_8 : wc.cell? ⟨gb167, 8, none⟩ = some (.int .i64 a0_8) := (ya BK167.out 8).trans rfl
    have hcz21_9 : wc.cell? ⟨gb167, 9, none⟩ = some (.int .i64 a0_9) := (ya BK167.out 9).trans rfl
    have hcz21_10 : wc.cell? ⟨gb167, 10, none⟩ = some (.slice A0_10 l0_10.length c0_10) := (ya BK167.out 10).trans rfl
    have hfz21_0 := yb BK167.out 0
    have hfz21_1 := yb BK167.out 1
    have hfz21_2 := yb BK167.out 2
    have hfz21_3 := yb BK167.out 3
    have hfz21_4 := yb BK167.out 4
    have hfz21_5 := yb BK167.out 5
    have hfz21_6 := yb BK167.out 6
    have hfz21_7 := yb BK167.out 7
    have hfz21_8 := yb BK167.out 8
    have hfz21_9 := yb BK167.out 9
    have hfz21_10 := yb BK167.out 10
    go_upto_region 4 with (first | ((with_reducible refine gate_callee (f := 24) rfl ?_); refine goesL_ (some 18) rfl rfl Tryz.func24 (by kernel_rfl) rfl #[.agg #[.int .i64 a0_0, .slice A0_1 l0_1.length c0_1, .slice A0_2 l0_2.length c0_2, .int .i64 a0_3, .int .i64 a0_4, .int .i64 a0_5, .int .i64 a0_6, .int .i64 a0_7, .int .i64 a0_8, .int .i64 a0_9, .slice A0_10 l0_10.length c0_10]] rfl (by (try simp only [List.map_toArray, List.map_cons, List.map_nil]); first | done | rfl | (simp only [List.length_drop, List.length_take]; rfl)) ?_; (with_reducible refine (outriderref17_Copy.calls kj2 a0_0 _ _ l0_1 _ _ l0_2 a0_3 a0_4 a0_5 a0_6 a0_7 a0_8 a0_9 _ _ l0_10 t171 t172 t175 t178 t179 t180 t181 t182 t183 t184 t185 _ ?side1 ?side2 ?side3 ?side4 ?side5 ?side6 A18.out).mono ?_); (case side1 => repeat (first | exact (Kd.C_below HR0_1.out HB.out) | (with_reducible refine Kd.C_alloc ?_ _) | (with_reducible refine Kd.C_drewN ?_ _) | (with_reducible refine Kd.C_drew ?_))); (case side2 => exact HC0_1.out); (case side3 => repeat (first | exact (Kd.C_below HR0_2.out HB.out) | (with_reducible refine Kd.C_alloc ?_ _) | (with_reducible refine Kd.C_drewN ?_ _) | (with_reducible refine Kd.C_drew ?_))); (case side4 => exact HC0_2.out); (case side5 => repeat (first | exact (Kd.C_below HR0_10.out HB.out) | (with_reducible refine Kd.C_alloc ?_ _) | (with_reducible refine Kd.C_drewN ?_ _) | (with_reducible refine Kd.C_drew ?_))); (case side6 => exact HC0_10.out); rintro e w22 ⟨v173, v176, v186, rfl, ho0, ho1, ho2, hb⟩; refine ⟨_, rfl, ?_⟩; have n0_ := yc (Kd.R_lower ho0 (below_size (by repeat (first | (with_reducible first | exact HB.out | apply yd | apply ye | apply yf | refine yg ?_ GE167.out | refine yg ?_ GE168.out) | exact HB.out)))); have n1_ := yc (Kd.R_lower ho1 (below_size (by repeat (first | (with_reducible first | exact HB.out | apply yd | apply ye | apply yf | refine yg ?_ GE167.out | refine yg ?_ GE168.out) | exact HB.out)))); have n2_ := yc (Kd.S_lower ho2 (below_size (by repeat (first | (with_reducible first | exact HB.out | apply yd | apply ye | apply yf | refine yg ?_ GE167.out | refine yg ?_ GE168.out) | exact HB.out)))); have n3_ := yc (blk_below (g := gb167) (o := .cells #[.int .i64 a0_0, .slice A0_1 l0_1.length c0_1, .slice A0_2 l0_2.length c0_2, .int .i64 a0_3, .int .i64 a0_4, .int .i64 a0_5, .int .i64 a0_6, .int .i64 a0_7, .int .i64 a0_8, .int .i64 a0_9, .slice A0_10 l0_10.length c0_10] 29 (0, 0)) (by (with_reducible repeat (first | refine yh ?_ _ | refine yj ?_ | refine yi ?_ _)); exact BK167.out) hb); have n4_ := yc (blk_below (g := gb168) (o := .cells #[.int .i64 a1_0, .slice A1_1 l1_1.length c1_1, .slice A1_2 l1_2.length c1_2, .int .i64 a1_3, .int .i64 a1_4, .int .i64 a1_5, .int .i64 a1_6, .int .i64 a1_7, .int .i64 a1_8, .int .i64 a1_9, .slice A1_10 l1_10.length c1_10] 29 (0, 0)) (by (with_reducible repeat (first | refine yh ?_ _ | refine yj ?_ | refine yi ?_ _)); exact BK168.out) hb); have n5_ := yc (below_step (by repeat (first | (with_reducible first | exact HB.out | apply yd | apply ye | apply yf | refine yg ?_ GE167.out | refine yg ?_ GE168.out) | exact HB.out)) hb); clear BK167; clear BK168; clear HB; have HO174 := n0_; have HO177 := n1_; have HO187 := n2_; have BK167 := n3_; have BK168 := n4_; have HB := n5_; clear n0_ n1_ n2_ n3_ n4_ n5_; (try clear hb); (try clear hb2); (try clear hk); (try clear hi); (try clear ho0); (try clear ho1); (try clear ho2)) | ((with_reducible refine gate_dst (N := 5) rfl ?_); refine box_event ?hg (N := 5) ?hd (cs := #[.int .i64 0, .slice none 0 0, .slice none 0 0, .int .i64 0, .int .i64 0, .int .i64 0, .int .i64 0, .int .i64 0, .int .i64 0, .int .i64 0, .slice none 0 0]) (t := 29) ?hr ?_; (case hd => rfl); (case hg => rfl); (case hr => first | (go_simp; done) | (go_simp; rfl)); intro gb188 hg w23 hbox hb; have n0_ := yc (Kd.R_below (by (with_reducible repeat (first | apply Kd.R_alloc | apply Kd.R_drewN | apply Kd.R_drew)); exact HO174.out) hb); have n1_ := yc (Kd.R_below (by (with_reducible repeat (first | apply Kd.R_alloc | apply Kd.R_drewN | apply Kd.R_drew)); exact HO177.out) hb); have n2_ := yc (Kd.S_below (by (with_reducible repeat (first | apply Kd.S_alloc | apply Kd.S_drewN | apply Kd.S_drew)); exact HO187.out) hb); have n3_ := yc (blk_below (g := gb167) (o := .cells #[.int .i64 a0_0, .slice A0_1 l0_1.length c0_1, .slice A0_2 l0_2.length c0_2, .int .i64 a0_3, .int .i64 a0_4, .int .i64 a0_5, .int .i64 a0_6, .int .i64 a0_7, .int .i64 a0_8, .int .i64 a0_9, .slice A0_10 l0_10.length c0_10] 29 (0, 0)) (by (with_reducible repeat (first | refine yh ?_ _ | refine yj ?_ | refine yi ?_ _)); exact BK167.out) hb); have n4_ := yc (blk_below (g := gb168) (o := .cells #[.int .i64 a1_0, .slice A1_1 l1_1.length c1_1, .slice A1_2 l1_2.length c1_2, .int .i64 a1_3, .int .i64 a1_4, .int .i64 a1_5, .int .i64 a1_6, .int .i64 a1_7, .int .i64 a1_8, .int .i64 a1_9, .slice A1_10 l1_10.length c1_10] 29 (0, 0)) (by (with_reducible repeat (first | refine yh ?_ _ | refine yj ?_ | refine yi ?_ _)); exact BK168.out) hb); have n5_ := yc (below_step (by repeat (first | (with_reducible first | exact HB.out | apply yd | apply ye | apply yf | refine yg ?_ GE167.out | refine yg ?_ GE168.out) | exact HB.out)) hb); have n6_ := yc (hbox); have n7_ := yc ((by rw [hg]; exact (below_size (by repeat (first | (with_reducible first | exact HB.out | apply yd | apply ye | apply yf | refine yg ?_ GE167.out | refine yg ?_ GE168.out) | exact HB.out))) : w.heap.size ≤ gb188)); have n8_ := yc ((by rw [hg]; exact (below_size (by repeat (first | (with_reducible first | exact HB.out | apply yd | apply ye | apply yf | refine yg ?_ GE167.out | refine yg ?_ GE168.out) | exact HB.out))) : w.heap.size ≤ gb188)); have n9_ := yc ((by rw [hg]; exact Nat.ne_of_lt (blk_lt (g := gb167) (o := .cells #[.int .i64 a0_0, .slice A0_1 l0_1.length c0_1, .slice A0_2 l0_2.length c0_2, .int .i64 a0_3, .int .i64 a0_4, .int .i64 a0_5, .int .i64 a0_6, .int .i64 a0_7, .int .i64 a0_8, .int .i64 a0_9, .slice A0_10 l0_10.length c0_10] 29 (0, 0)) (by (with_reducible repeat (first | refine yh ?_ _ | refine yj ?_ | refine yi ?_ _)); exact BK167.out)) : gb167 ≠ gb188)); have n10_ := yc ((by rw [hg]; exact Nat.ne_of_gt (blk_lt (g := gb167) (o := .cells #[.int .i64 a0_0, .slice A0_1 l0_1.length c0_1, .slice A0_2 l0_2.length c0_2, .int .i64 a0_3, .int .i64 a0_4, .int .i64 a0_5, .int .i64 a0_6, .int .i64 a0_7, .int .i64 a0_8, .int .i64 a0_9, .slice A0_10 l0_10.length c0_10] 29 (0, 0)) (by (with_reducible repeat (first | refine yh ?_ _ | refine yj ?_ | refine yi ?_ _)); exact BK167.out)) : gb188 ≠ gb167)); have n11_ := yc ((by rw [hg]; exact Nat.ne_of_lt (blk_lt (g := gb168) (o := .cells #[.int .i64 a1_0, .slice A1_1 l1_1.length c1_1, .slice A1_2 l1_2.length c1_2, .int .i64 a1_3, .int .i64 a1_4, .int .i64 a1_5, .int .i64 a1_6, .int .i64 a1_7, .int .i64 a1_8, .int .i64 a1_9, .slice A1_10 l1_10.length c1_10] 29 (0, 0)) (by (with_reducible repeat (first | refine yh ?_ _ | refine yj ?_ | refine yi ?_ _)); exact BK168.out)) : gb168 ≠ gb188)); have n12_ := yc ((by rw [hg]; exact Nat.ne_of_gt (blk_lt (g := gb168) (o := .cells #[.int .i64 a1_0, .slice A1_1 l1_1.length c1_1, .slice A1_2 l1_2.length c1_2, .int .i64 a1_3, .int .i64 a1_4, .int .i64 a1_5, .int .i64 a1_6, .int .i64 a1_7, .int .i64 a1_8, .int .i64 a1_9, .slice A1_10 l1_10.length c1_10] 29 (0, 0)) (by (with_reducible repeat (first | refine yh ?_ _ | refine yj ?_ | refine yi ?_ _)); exact BK168.out)) : gb188 ≠ gb168)); clear HO174; clear HO177; clear HO187; clear BK167; clear BK168; clear HB; have HO174 := n0_; have HO177 := n1_; have HO187 := n2_; have BK167 := n3_; have BK168 := n4_; have HB := n5_; have BK188 := n6_; have GW188 := n7_; have GE188 := n8_; have NB167_188 := n9_; have NB188_167 := n10_; have NB168_188 := n11_; have NB188_168 := n12_; clear n0_ n1_ n2_ n3_ n4_ n5_ n6_ n7_ n8_ n9_ n10_ n11_ n12_; clear hb hbox hg; have hnb24 := NB188_167.out; have hnc24 := NB167_188.out; have hnb25 := NB188_168.out; have hnc25 := NB168_188.out; have hcz26_0 : w23.cell? ⟨gb188, 0, none⟩ = some (.int .i64 0) := (ya BK188.out 0).trans rfl; have hcz26_1 : w23.cell? ⟨gb188, 1, none⟩ = some (.slice none 0 0) := (ya BK188.out 1).trans rfl; have hcz26_2 : w23.cell? ⟨gb188, 2, none⟩ = some (.slice none 0 0) := (ya BK188.out 2).trans rfl; have hcz26_3 : w23.cell? ⟨gb188, 3, none⟩ = some (.int .i64 0) := (ya BK188.out 3).trans rfl; have hcz26_4 : w23.cell? ⟨gb188, 4, none⟩ = some (.int .i64 0) := (ya BK188.out 4).trans rfl; have hcz26_5 : w23.cell? ⟨gb188, 5, none⟩ = some (.int .i64 0) := (ya BK188.out 5).trans rfl; have hcz26_6 : w23.cell? ⟨gb188, 6, none⟩ = some (.int .i64 0) := (ya BK188.out 6).trans rfl; have hcz26_7 : w23.cell? ⟨gb188, 7, none⟩ = some (.int .i64 0) := (ya BK188.out 7).trans rfl; have hcz26_8 : w23.cell? ⟨gb188, 8, none⟩ = some (.int .i64 0) := (ya BK188.out 8).trans rfl; have hcz26_9 : w23.cell? ⟨gb188, 9, none⟩ = some (.int .i64 0) := (ya BK188.out 9).trans rfl; have hcz26_10 : w23.cell? ⟨gb188, 10, none⟩ = some (.slice none 0 0) := (ya BK188.out 10).trans rfl; have hfz26_0 := yb BK188.out 0; have hfz26_1 := yb BK188.out 1; have hfz26_2 := yb BK188.out 2; have hfz26_3 := yb BK188.out 3; have hfz26_4 := yb BK188.out 4; have hfz26_5 := yb BK188.out 5; have hfz26_6 := yb BK188.out 6; have hfz26_7 := yb BK188.out 7; have hfz26_8 := yb BK188.out 8; have hfz26_9 := yb BK188.out 9; have hfz26_10 := yb BK188.out 10; obtain ⟨Ao27, co27, eo27⟩ := Kd.R_slice HO174.out; subst eo27; obtain ⟨Ao28, co28, eo28⟩ := Kd.R_slice HO177.out; subst eo28; obtain ⟨Ao29, co29, eo29⟩ := Kd.S_slice HO187.out; subst eo29))
    (try simp only [Act.put, List.setIfInBounds_toArray, List.set_cons_zero, List.set_cons_succ])
    go_cut [31] (fun v31 wc => ∃ (kq : Nat) (x31_18 : Bool), v31 = .bool x31_18 ∧ Aside0 (outriderlaw17_JobCopies.j1 kq x31_18 a0_0 l0_1 l0_2 a0_3 a0_4 a0_5 a0_6 a0_7 a0_8 a0_9 l0_10 t171 t172 t175 t178 t179 t180 t181 t182 t183 t184 t185 = some true) ∧ Aside0 (kq ≤ kj2) ∧ Aside0 (Kd.R k58 58 wc w.heap.size (fun _ => True) (.slice Ao27 t172.length co27) t172) ∧ Aside0 (Kd.R k61 61 wc w.heap.size (fun _ => True) (.slice Ao28 t175.length co28) t175) ∧ Aside0 (Kd.S (Kd.slice 66 k66) 62 wc w.heap.size (fun _ => True) (.slice Ao29 t185.length co29) t185) ∧ Aside0 (wc.heap[gb167]? = some (.cells #[.int .i64 a0_0, (.slice A0_1 l0_1.length c0_1), (.slice A0_2 l0_2.length c0_2), .int .i64 a0_3, .int .i64 a0_4, .int .i64 a0_5, .int .i64 a0_6, .int .i64 a0_7, .int .i64 a0_8, .int .i64 a0_9, (.slice A0_10 l0_10.length c0_10)] 29 (0, 0))) ∧ Aside0 (wc.heap[gb168]? = some (.cells #[.int .i64 a1_0, (.slice A1_1 l1_1.length c1_1), (.slice A1_2 l1_2.length c1_2), .int .i64 a1_3, .int .i64 a1_4, .int .i64 a1_5, .int .i64 a1_6, .int .i64 a1_7, .int .i64 a1_8, .int .i64 a1_9, (.slice A1_10 l1_10.length c1_10)] 29 (0, 0))) ∧ Aside0 (wc.heap[gb188]? = some (.cells #[.int .i64 t171, (.slice Ao27 t172.length co27), (.slice Ao28 t175.length co28), .int .i64 t178, .int .i64 t179, .int .i64 t180, .int .i64 t181, .int .i64 t182, .int .i64 t183, .int .i64 t184, (.slice Ao29 t185.length co29)] 29 (0, 0))) ∧ Aside0 (Below w.heap.size w wc))
    case first =>
     have H := HC19.out
     clear HC19
     replace H := Option.bind_eq_some_iff.mp H
     obtain ⟨t189, A300, H⟩ := H
     replace H : ((outriderref17_Same.f kj2 a0_0 l0_1 l0_2 a0_3 a0_4 a0_5 a0_6 a0_7 a0_8 a0_9 l0_10 a1_0 l1_1 l1_2 a1_3 a1_4 a1_5 a1_6 a1_7 a1_8 a1_9 l1_10).bind fun t190 => (if (t189 != t190) = true then (outriderlaw17_JobCopies.j1 kj2 true a0_0 l0_1 l0_2 a0_3 a0_4 a0_5 a0_6 a0_7 a0_8 a0_9 l0_10 t171 t172 t175 t178 t179 t180 t181 t182 t183 t184 t185) else ((job_Same.f kj2 a0_0 l0_1 l0_2 a0_3 a0_4 a0_5 a0_6 a0_7 a0_8 a0_9 l0_10 t171 t172 t175 t178 t179 t180 t181 t182 t183 t184 t185).bind fun t191 => (outriderlaw17_JobCopies.j1 kj2 (!t191) a0_0 l0_1 l0_2 a0_3 a0_4 a0_5 a0_6 a0_7 a0_8 a0_9 l0_10 t171 t172 t175 t178 t179 t180 t181 t182 t183 t184 t185)))) = some true := H
     have A30 := yc A300
     clear A300
     replace H := Option.bind_eq_some_iff.mp H
     obtain ⟨t190, A310, H⟩ := H
     replace H : (if (t189 != t190) = true then (outriderlaw17_JobCopies.j1 kj2 true a0_0 l0_1 l0_2 a0_3 a0_4 a0_5 a0_6 a0_7 a0_8 a0_9 l0_10 t171 t172 t175 t178 t179 t180 t181 t182 t183 t184 t185) else ((job_Same.f kj2 a0_0 l0_1 l0_2 a0_3 a0_4 a0_5 a0_6 a0_7 a0_8 a0_9 l0_10 t171 t172 t175 t178 t179 t180 t181 t182 t183 t184 t185).bind fun t191 => (outriderlaw17_JobCopies.j1 kj2 (!t191) a0_0 l0_1 l0_2 a0_3 a0_4 a0_5 a0_6 a0_7 a0_8 a0_9 l0_10 t171 t172 t175 t178 t179 t180 t181 t182 t183 t184 t185))) = some true := H
     have A31 := yc A310
     clear A310
     by_cases c32 : (t189 != t190) = true
     ·rw [if_pos c32] at H
      have c32b0 : (t189 != t190) = true := c32
      (try (have c32b1 : decide (t189 = t190) = false := by simpa using c32))
      (try (have c32b2 : (t189 == t190) = false := by simpa using c32))
      (try (have c32b3 : ¬ (t189 = t190) := by simpa using c32))
      clear c32
      (first | rw [c32b0] | (simp only [i64_w, i32_w]; rw [c32b0]) | skip)
      have H' := yc H
      clear H
      try go_wp2
      have n0_ : Aside0 (Kd.R k58 58 (((((((((((w23.setCell ⟨gb188, 0, none⟩ (.int .i64 t171)).setCell ⟨gb188, 1, none⟩ (.slice Ao27 t172.length co27)).setCell ⟨gb188, 2, none⟩ (.slice Ao28 t175.length co28)).setCell ⟨gb188, 3, none⟩ (.int .i64 t178)).setCell ⟨gb188, 4, none⟩ (.int .i64 t179)).setCell ⟨gb188, 5, none⟩ (.int .i64 t180)).setCell ⟨gb188, 6, none⟩ (.int .i64 t181)).setCell ⟨gb188, 7, none⟩ (.int .i64 t182)).setCell ⟨gb188, 8, none⟩ (.int .i64 t183)).setCell ⟨gb188, 9, none⟩ (.int .i64 t184)).setCell ⟨gb188, 10, none⟩ (.slice Ao29 t185.length co29)) w.heap.size (fun _ => True) (.slice Ao27 t172.length co27) t172) := ⟨by (with_reducible repeat (first | apply Kd.R_alloc | apply Kd.R_drewN | apply Kd.R_drew)); exact Kd.R_mono (Kd.R_far (p := ⟨gb188, 10, none⟩) (Kd.R_far (p := ⟨gb188, 9, none⟩) (Kd.R_far (p := ⟨gb188, 8, none⟩) (Kd.R_far (p := ⟨gb188, 7, none⟩) (Kd.R_far (p := ⟨gb188, 6, none⟩) (Kd.R_far (p := ⟨gb188, 5, none⟩) (Kd.R_far (p := ⟨gb188, 4, none⟩) (Kd.R_far (p := ⟨gb188, 3, none⟩) (Kd.R_far (p := ⟨gb188, 2, none⟩) (Kd.R_far (p := ⟨gb188, 1, none⟩) (Kd.R_far (p := ⟨gb188, 0, none⟩) (Kd.R_types HO174.out BK188.out (by decide)) (fun _ hk => hk.2) (.int .i64 t171)) (fun _ hk => hk.2) (.slice Ao27 t172.length co27)) (fun _ hk => hk.2) (.slice Ao28 t175.length co28)) (fun _ hk => hk.2) (.int .i64 t178)) (fun _ hk => hk.2) (.int .i64 t179)) (fun _ hk => hk.2) (.int .i64 t180)) (fun _ hk => hk.2) (.int .i64 t181)) (fun _ hk => hk.2) (.int .i64 t182)) (fun _ hk => hk.2) (.int .i64 t183)) (fun _ hk => hk.2) (.int .i64 t184)) (fun _ hk => hk.2) (.slice Ao29 t185.length co29)) (fun _ hk => trivial)⟩
      have n1_ : Aside0 (Kd.R k61 61 (((((((((((w23.setCell ⟨gb188, 0, none⟩ (.int .i64 t171)).setCell ⟨gb188, 1, none⟩ (.slice Ao27 t172.length co27)).setCell ⟨gb188, 2, none⟩ (.slice Ao28 t175.length co28)).setCell ⟨gb188, 3, none⟩ (.int .i64 t178)).setCell ⟨gb188, 4, none⟩ (.int .i64 t179)).setCell ⟨gb188, 5, none⟩ (.int .i64 t180)).setCell ⟨gb188, 6, none⟩ (.int .i64 t181)).setCell ⟨gb188, 7, none⟩ (.int .i64 t182)).setCell ⟨gb188, 8, none⟩ (.int .i64 t183)).setCell ⟨gb188, 9, none⟩ (.int .i64 t184)).setCell ⟨gb188, 10, none⟩ (.slice Ao29 t185.length co29)) w.heap.size (fun _ => True) (.slice Ao28 t175.length co28) t175) := ⟨by (with_reducible repeat (first | apply Kd.R_alloc | apply Kd.R_drewN | apply Kd.R_drew)); exact Kd.R_mono (Kd.R_far (p := ⟨gb188, 10, none⟩) (Kd.R_far (p := ⟨gb188, 9, none⟩) (Kd.R_far (p := ⟨gb188, 8, none⟩) (Kd.R_far (p := ⟨gb188, 7, none⟩) (Kd.R_far (p := ⟨gb188, 6, none⟩) (Kd.R_far (p := ⟨gb188, 5, none⟩) (Kd.R_far (p := ⟨gb188, 4, none⟩) (Kd.R_far (p := ⟨gb188, 3, none⟩) (Kd.R_far (p := ⟨gb188, 2, none⟩) (Kd.R_far (p := ⟨gb188, 1, none⟩) (Kd.R_far (p := ⟨gb188, 0, none⟩) (Kd.R_types HO177.out BK188.out (by decide)) (fun _ hk => hk.2) (.int .i64 t171)) (fun _ hk => hk.2) (.slice Ao27 t172.length co27)) (fun _ hk => hk.2) (.slice Ao28 t175.length co28)) (fun _ hk => hk.2) (.int .i64 t178)) (fun _ hk => hk.2) (.int .i64 t179)) (fun _ hk => hk.2) (.int .i64 t180)) (fun _ hk => hk.2) (.int .i64 t181)) (fun _ hk => hk.2) (.int .i64 t182)) (fun _ hk => hk.2) (.int .i64 t183)) (fun _ hk => hk.2) (.int .i64 t184)) (fun _ hk => hk.2) (.slice Ao29 t185.length co29)) (fun _ hk => trivial)⟩
      have n2_ : Aside0 (Kd.S (Kd.slice 66 k66) 62 (((((((((((w23.setCell ⟨gb188, 0, none⟩ (.int .i64 t171)).setCell ⟨gb188, 1, none⟩ (.slice Ao27 t172.length co27)).setCell ⟨gb188, 2, none⟩ (.slice Ao28 t175.length co28)).setCell ⟨gb188, 3, none⟩ (.int .i64 t178)).setCell ⟨gb188, 4, none⟩ (.int .i64 t179)).setCell ⟨gb188, 5, none⟩ (.int .i64 t180)).setCell ⟨gb188, 6, none⟩ (.int .i64 t181)).setCell ⟨gb188, 7, none⟩ (.int .i64 t182)).setCell ⟨gb188, 8, none⟩ (.int .i64 t183)).setCell ⟨gb188, 9, none⟩ (.int .i64 t184)).setCell ⟨gb188, 10, none⟩ (.slice Ao29 t185.length co29)) w.heap.size (fun _ => True) (.slice Ao29 t185.length co29) t185) := ⟨by (with_reducible repeat (first | apply Kd.S_alloc | apply Kd.S_drewN | apply Kd.S_drew)); exact Kd.S_mono (Kd.S_far (p := ⟨gb188, 10, none⟩) (Kd.S_far (p := ⟨gb188, 9, none⟩) (Kd.S_far (p := ⟨gb188, 8, none⟩) (Kd.S_far (p := ⟨gb188, 7, none⟩) (Kd.S_far (p := ⟨gb188, 6, none⟩) (Kd.S_far (p := ⟨gb188, 5, none⟩) (Kd.S_far (p := ⟨gb188, 4, none⟩) (Kd.S_far (p := ⟨gb188, 3, none⟩) (Kd.S_far (p := ⟨gb188, 2, none⟩) (Kd.S_far (p := ⟨gb188, 1, none⟩) (Kd.S_far (p := ⟨gb188, 0, none⟩) (Kd.S_types HO187.out BK188.out (by decide)) (fun _ hk => hk.2) (.int .i64 t171)) (fun _ hk => hk.2) (.slice Ao27 t172.length co27)) (fun _ hk => hk.2) (.slice Ao28 t175.length co28)) (fun _ hk => hk.2) (.int .i64 t178)) (fun _ hk => hk.2) (.int .i64 t179)) (fun _ hk => hk.2) (.int .i64 t180)) (fun _ hk => hk.2) (.int .i64 t181)) (fun _ hk => hk.2) (.int .i64 t182)) (fun _ hk => hk.2) (.int .i64 t183)) (fun _ hk => hk.2) (.int .i64 t184)) (fun _ hk => hk.2) (.slice Ao29 t185.length co29)) (fun _ hk => trivial)⟩
      have n3_ : Aside0 ((((((((((((w23.setCell ⟨gb188, 0, none⟩ (.int .i64 t171)).setCell ⟨gb188, 1, none⟩ (.slice Ao27 t172.length co27)).setCell ⟨gb188, 2, none⟩ (.slice Ao28 t175.length co28)).setCell ⟨gb188, 3, none⟩ (.int .i64 t178)).setCell ⟨gb188, 4, none⟩ (.int .i64 t179)).setCell ⟨gb188, 5, none⟩ (.int .i64 t180)).setCell ⟨gb188, 6, none⟩ (.int .i64 t181)).setCell ⟨gb188, 7, none⟩ (.int .i64 t182)).setCell ⟨gb188, 8, none⟩ (.int .i64 t183)).setCell ⟨gb188, 9, none⟩ (.int .i64 t184)).setCell ⟨gb188, 10, none⟩ (.slice Ao29 t185.length co29)).heap[gb167]? = some (.cells #[.int .i64 a0_0, .slice A0_1 l0_1.length c0_1, .slice A0_2 l0_2.length c0_2, .int .i64 a0_3, .int .i64 a0_4, .int .i64 a0_5, .int .i64 a0_6, .int .i64 a0_7, .int .i64 a0_8, .int .i64 a0_9, .slice A0_10 l0_10.length c0_10] 29 (0, 0))) := ⟨by (with_reducible repeat (first | refine yh ?_ _ | refine yj ?_ | refine yi ?_ _)); refine blk_far ?_ NB167_188.out _; (with_reducible repeat (first | refine yh ?_ _ | refine yj ?_ | refine yi ?_ _)); refine blk_far ?_ NB167_188.out _; (with_reducible repeat (first | refine yh ?_ _ | refine yj ?_ | refine yi ?_ _)); refine blk_far ?_ NB167_188.out _; (with_reducible repeat (first | refine yh ?_ _ | refine yj ?_ | refine yi ?_ _)); refine blk_far ?_ NB167_188.out _; (with_reducible repeat (first | refine yh ?_ _ | refine yj ?_ | refine yi ?_ _)); refine blk_far ?_ NB167_188.out _; (with_reducible repeat (first | refine yh ?_ _ | refine yj ?_ | refine yi ?_ _)); refine blk_far ?_ NB167_188.out _; (with_reducible repeat (first | refine yh ?_ _ | refine yj ?_ | refine yi ?_ _)); refine blk_far ?_ NB167_188.out _; (with_reducible repeat (first | refine yh ?_ _ | refine yj ?_ | refine yi ?_ _)); refine blk_far ?_ NB167_188.out _; (with_reducible repeat (first | refine yh ?_ _ | refine yj ?_ | refine yi ?_ _)); refine blk_far ?_ NB167_188.out _; (with_reducible repeat (first | refine yh ?_ _ | refine yj ?_ | refine yi ?_ _)); refine blk_far ?_ NB167_188.out _; (with_reducible repeat (first | refine yh ?_ _ | refine yj ?_ | refine yi ?_ _)); refine blk_far ?_ NB167_188.out _; (with_reducible repeat (first | refine yh ?_ _ | refine yj ?_ | refine yi ?_ _)); exact BK167.out⟩
      have n4_ : Aside0 ((((((((((((w23.setCell ⟨gb188, 0, none⟩ (.int .i64 t171)).setCell ⟨gb188, 1, none⟩ (.slice Ao27 t172.length co27)).setCell ⟨gb188, 2, none⟩ (.slice Ao28 t175.length co28)).setCell ⟨gb188, 3, none⟩ (.int .i64 t178)).setCell ⟨gb188, 4, none⟩ (.int .i64 t179)).setCell ⟨gb188, 5, none⟩ (.int .i64 t180)).setCell ⟨gb188, 6, none⟩ (.int .i64 t181)).setCell ⟨gb188, 7, none⟩ (.int .i64 t182)).setCell ⟨gb188, 8, none⟩ (.int .i64 t183)).setCell ⟨gb188, 9, none⟩ (.int .i64 t184)).setCell ⟨gb188, 10, none⟩ (.slice Ao29 t185.length co29)).heap[gb168]? = some (.cells #[.int .i64 a1_0, .slice A1_1 l1_1.length c1_1, .slice A1_2 l1_2.length c1_2, .int .i64 a1_3, .int .i64 a1_4, .int .i64 a1_5, .int .i64 a1_6, .int .i64 a1_7, .int .i64 a1_8, .int .i64 a1_9, .slice A1_10 l1_10.length c1_10] 29 (0, 0))) := ⟨by (with_reducible repeat (first | refine yh ?_ _ | refine yj ?_ | refine yi ?_ _)); refine blk_far ?_ NB168_188.out _; (with_reducible repeat (first | refine yh ?_ _ | refine yj ?_ | refine yi ?_ _)); refine blk_far ?_ NB168_188.out _; (with_reducible repeat (first | refine yh ?_ _ | refine yj ?_ | refine yi ?_ _)); refine blk_far ?_ NB168_188.out _; (with_reducible repeat (first | refine yh ?_ _ | refine yj ?_ | refine yi ?_ _)); refine blk_far ?_ NB168_188.out _; (with_reducible repeat (first | refine yh ?_ _ | refine yj ?_ | refine yi ?_ _)); refine blk_far ?_ NB168_188.out _; (with_reducible repeat (first | refine yh ?_ _ | refine yj ?_ | refine yi ?_ _)); refine blk_far ?_ NB168_188.out _; (with_reducible repeat (first | refine yh ?_ _ | refine yj ?_ | refine yi ?_ _)); refine blk_far ?_ NB168_188.out _; (with_reducible repeat (first | refine yh ?_ _ | refine yj ?_ | refine yi ?_ _)); refine blk_far ?_ NB168_188.out _; (with_reducible repeat (first | refine yh ?_ _ | refine yj ?_ | refine yi ?_ _)); refine blk_far ?_ NB168_188.out _; (with_reducible repeat (first | refine yh ?_ _ | refine yj ?_ | refine yi ?_ _)); refine blk_far ?_ NB168_188.out _; (with_reducible repeat (first | refine yh ?_ _ | refine yj ?_ | refine yi ?_ _)); refine blk_far ?_ NB168_188.out _; (with_reducible repeat (first | refine yh ?_ _ | refine yj ?_ | refine yi ?_ _)); exact BK168.out⟩
      have n5_ : Aside0 ((((((((((((w23.setCell ⟨gb188, 0, none⟩ (.int .i64 t171)).setCell ⟨gb188, 1, none⟩ (.slice Ao27 t172.length co27)).setCell ⟨gb188, 2, none⟩ (.slice Ao28 t175.length co28)).setCell ⟨gb188, 3, none⟩ (.int .i64 t178)).setCell ⟨gb188, 4, none⟩ (.int .i64 t179)).setCell ⟨gb188, 5, none⟩ (.int .i64 t180)).setCell ⟨gb188, 6, none⟩ (.int .i64 t181)).setCell ⟨gb188, 7, none⟩ (.int .i64 t182)).setCell ⟨gb188, 8, none⟩ (.int .i64 t183)).setCell ⟨gb188, 9, none⟩ (.int .i64 t184)).setCell ⟨gb188, 10, none⟩ (.slice Ao29 t185.length co29)).heap[gb188]? = some (.cells #[.int .i64 t171, .slice Ao27 t172.length co27, .slice Ao28 t175.length co28, .int .i64 t178, .int .i64 t179, .int .i64 t180, .int .i64 t181, .int .i64 t182, .int .i64 t183, .int .i64 t184, .slice Ao29 t185.length co29] 29 (0, 0))) := ⟨by (with_reducible repeat (first | refine yh ?_ _ | refine yj ?_ | refine yi ?_ _)); refine blk_put (cs := #[.int .i64 t171, .slice Ao27 t172.length co27, .slice Ao28 t175.length co28, .int .i64 t178, .int .i64 t179, .int .i64 t180, .int .i64 t181, .int .i64 t182, .int .i64 t183, .int .i64 t184, .slice none 0 0]) ?_ 10 _ rfl; (with_reducible repeat (first | refine yh ?_ _ | refine yj ?_ | refine yi ?_ _)); refine blk_put (cs := #[.int .i64 t171, .slice Ao27 t172.length co27, .slice Ao28 t175.length co28, .int .i64 t178, .int .i64 t179, .int .i64 t180, .int .i64 t181, .int .i64 t182, .int .i64 t183, .int .i64 0, .slice none 0 0]) ?_ 9 _ rfl; (with_reducible repeat (first | refine yh ?_ _ | refine yj ?_ | refine yi ?_ _)); refine blk_put (cs := #[.int .i64 t171, .slice Ao27 t172.length co27, .slice Ao28 t175.length co28, .int .i64 t178, .int .i64 t179, .int .i64 t180, .int .i64 t181, .int .i64 t182, .int .i64 0, .int .i64 0, .slice none 0 0]) ?_ 8 _ rfl; (with_reducible repeat (first | refine yh ?_ _ | refine yj ?_ | refine yi ?_ _)); refine blk_put (cs := #[.int .i64 t171, .slice Ao27 t172.length co27, .slice Ao28 t175.length co28, .int .i64 t178, .int .i64 t179, .int .i64 t180, .int .i64 t181, .int .i64 0, .int .i64 0, .int .i64 0, .slice none 0 0]) ?_ 7 _ rfl; (with_reducible repeat (first | refine yh ?_ _ | refine yj ?_ | refine yi ?_ _)); refine blk_put (cs := #[.int .i64 t171, .slice Ao27 t172.length co27, .slice Ao28 t175.length co28, .int .i64 t178, .int .i64 t179, .int .i64 t180, .int .i64 0, .int .i64 0, .int .i64 0, .int .i64 0, .slice none 0 0]) ?_ 6 _ rfl; (with_reducible repeat (first | refine yh ?_ _ | refine yj ?_ | refine yi ?_ _)); refine blk_put (cs := #[.int .i64 t171, .slice Ao27 t172.length co27, .slice Ao28 t175.length co28, .int .i64 t178, .int .i64 t179, .int .i64 0, .int .i64 0, .int .i64 0, .int .i64 0, .int .i64 0, .slice none 0 0]) ?_ 5 _ rfl; (with_reducible repeat (first | refine yh ?_ _ | refine yj ?_ | refine yi ?_ _)); refine blk_put (cs := #[.int .i64 t171, .slice Ao27 t172.length co27, .slice Ao28 t175.length co28, .int .i64 t178, .int .i64 0, .int .i64 0, .int .i64 0, .int .i64 0, .int .i64 0, .int .i64 0, .slice none 0 0]) ?_ 4 _ rfl; (with_reducible repeat (first | refine yh ?_ _ | refine yj ?_ | refine yi ?_ _)); refine blk_put (cs := #[.int .i64 t171, .slice Ao27 t172.length co27, .slice Ao28 t175.length co28, .int .i64 0, .int .i64 0, .int .i64 0, .int .i64 0, .int .i64 0, .int .i64 0, .int .i64 0, .slice none 0 0]) ?_ 3 _ rfl; (with_reducible repeat (first | refine yh ?_ _ | refine yj ?_ | refine yi ?_ _)); refine blk_put (cs := #[.int .i64 t171, .slice Ao27 t172.length co27, .slice none 0 0, .int .i64 0, .int .i64 0, .int .i64 0, .int .i64 0, .int .i64 0, .int .i64 0, .int .i64 0, .slice none 0 0]) ?_ 2 _ rfl; (with_reducible repeat (first | refine yh ?_ _ | refine yj ?_ | refine yi ?_ _)); refine blk_put (cs := #[.int .i64 t171, .slice none 0 0, .slice none 0 0, .int .i64 0, .int .i64 0, .int .i64 0, .int .i64 0, .int .i64 0, .int .i64 0, .int .i64 0, .slice none 0 0]) ?_ 1 _ rfl; (with_reducible repeat (first | refine yh ?_ _ | refine yj ?_ | refine yi ?_ _)); refine blk_put (cs := #[.int .i64 0, .slice none 0 0, .slice none 0 0, .int .i64 0, .int .i64 0, .int .i64 0, .int .i64 0, .int .i64 0, .int .i64 0, .int .i64 0, .slice none 0 0]) ?_ 0 _ rfl; (with_reducible repeat (first | refine yh ?_ _ | refine yj ?_ | refine yi ?_ _)); exact BK188.out⟩
      have n6_ : Aside0 (Below w.heap.size w (((((((((((w23.setCell ⟨gb188, 0, none⟩ (.int .i64 t171)).setCell ⟨gb188, 1, none⟩ (.slice Ao27 t172.length co27)).setCell ⟨gb188, 2, none⟩ (.slice Ao28 t175.length co28)).setCell ⟨gb188, 3, none⟩ (.int .i64 t178)).setCell ⟨gb188, 4, none⟩ (.int .i64 t179)).setCell ⟨gb188, 5, none⟩ (.int .i64 t180)).setCell ⟨gb188, 6, none⟩ (.int .i64 t181)).setCell ⟨gb188, 7, none⟩ (.int .i64 t182)).setCell ⟨gb188, 8, none⟩ (.int .i64 t183)).setCell ⟨gb188, 9, none⟩ (.int .i64 t184)).setCell ⟨gb188, 10, none⟩ (.slice Ao29 t185.length co29))) := ⟨by repeat (first | (with_reducible first | exact HB.out | apply yd | apply ye | apply yf | refine yg ?_ GE167.out | refine yg ?_ GE168.out | refine yg ?_ GE188.out) | exact HB.out)⟩
      (try clear HO174)
      (try clear HO177)
      (try clear HO187)
      (try clear BK167)
      (try clear BK168)
      (try clear BK188)
      (try clear HB)
      generalize (((((((((((w23.setCell ⟨gb188, 0, none⟩ (.int .i64 t171)).setCell ⟨gb188, 1, none⟩ (.slice Ao27 t172.length co27)).setCell ⟨gb188, 2, none⟩ (.slice Ao28 t175.length co28)).setCell ⟨gb188, 3, none⟩ (.int .i64 t178)).setCell ⟨gb188, 4, none⟩ (.int .i64 t179)).setCell ⟨gb188, 5, none⟩ (.int .i64 t180)).setCell ⟨gb188, 6, none⟩ (.int .i64 t181)).setCell ⟨gb188, 7, none⟩ (.int .i64 t182)).setCell ⟨gb188, 8, none⟩ (.int .i64 t183)).setCell ⟨gb188, 9, none⟩ (.int .i64 t184)).setCell ⟨gb188, 10, none⟩ (.slice Ao29 t185.length co29)) = w33 at n0_ n1_ n2_ n3_ n4_ n5_ n6_ ⊢
      have HO174 := n0_
      have HO177 := n1_
      have HO187 := n2_
      have BK167 := n3_
      have BK168 := n4_
      have BK188 := n5_
      have HB := n6_
      clear n0_ n1_ n2_ n3_ n4_ n5_ n6_
      have n0_ := yc (Kd.R_drew HO174.out)
      have n1_ := yc (Kd.R_drew HO177.out)
      have n2_ := yc (Kd.S_drew HO187.out)
      have n3_ := yc (yj BK167.out)
      have n4_ := yc (yj BK168.out)
      have n5_ := yc (yj BK188.out)
      have n6_ := yc (yf HB.out)
      clear HO174
      clear HO177
      clear HO187
      clear BK167
      clear BK168
      clear BK188
      clear HB
      have HO174 := n0_
      have HO177 := n1_
      have HO187 := n2_
      have BK167 := n3_
      have BK168 := n4_
      have BK188 := n5_
      have HB := n6_
      clear n0_ n1_ n2_ n3_ n4_ n5_ n6_
      refine start_ (n := 13) (S := fun w' => w'.cell? ⟨gb167, 0, none⟩ = some (.int .i64 a0_0) ∧ w'.cell? ⟨gb167, 1, none⟩ = some (.slice A0_1 l0_1.length c0_1) ∧ w'.cell? ⟨gb167, 2, none⟩ = some (.slice A0_2 l0_2.length c0_2) ∧ w'.cell? ⟨gb167, 3, none⟩ = some (.int .i64 a0_3) ∧ w'.cell? ⟨gb167, 4, none⟩ = some (.int .i64 a0_4) ∧ w'.cell? ⟨gb167, 5, none⟩ = some (.int .i64 a0_5) ∧ w'.cell? ⟨gb167, 6, none⟩ = some (.int .i64 a0_6) ∧ w'.cell? ⟨gb167, 7, none⟩ = some (.int .i64 a0_7) ∧ w'.cell? ⟨gb167, 8, none⟩ = some (.int .i64 a0_8) ∧ w'.cell? ⟨gb167, 9, none⟩ = some (.int .i64 a0_9) ∧ w'.cell? ⟨gb167, 10, none⟩ = some (.slice A0_10 l0_10.length c0_10) ∧ w'.cell? ⟨gb168, 0, none⟩ = some (.int .i64 a1_0) ∧ w'.cell? ⟨gb168, 1, none⟩ = some (.slice A1_1 l1_1.length c1_1) ∧ w'.cell? ⟨gb168, 2, none⟩ = some (.slice A1_2 l1_2.length c1_2) ∧ w'.cell? ⟨gb168, 3, none⟩ = some (.int .i64 a1_3) ∧ w'.cell? ⟨gb168, 4, none⟩ = some (.int .i64 a1_4) ∧ w'.cell? ⟨gb168, 5, none⟩ = some (.int .i64 a1_5) ∧ w'.cell? ⟨gb168, 6, none⟩ = some (.int .i64 a1_6) ∧ w'.cell? ⟨gb168, 7, none⟩ = some (.int .i64 a1_7) ∧ w'.cell? ⟨gb168, 8, none⟩ = some (.int .i64 a1_8) ∧ w'.cell? ⟨gb168, 9, none⟩ = some (.int .i64 a1_9) ∧ w'.cell? ⟨gb168, 10, none⟩ = some (.slice A1_10 l1_10.length c1_10)) (ds := []) #[false, false, false, false, false, false, false, false, false, false, false, false, false] (by kernel_rfl) rfl rfl ⟨(ya BK167.out 0).trans rfl, (ya BK167.out 1).trans rfl, (ya BK167.out 2).trans rfl, (ya BK167.out 3).trans rfl, (ya BK167.out 4).trans rfl, (ya BK167.out 5).trans rfl, (ya BK167.out 6).trans rfl, (ya BK167.out 7).trans rfl, (ya BK167.out 8).trans rfl, (ya BK167.out 9).trans rfl, (ya BK167.out 10).trans rfl, (ya BK168.out 0).trans rfl, (ya BK168.out 1).trans rfl, (ya BK168.out 2).trans rfl, (ya BK168.out 3).trans rfl, (ya BK168.out 4).trans rfl, (ya BK168.out 5).trans rfl, (ya BK168.out 6).trans rfl, (ya BK168.out 7).trans rfl, (ya BK168.out 8).trans rfl, (ya BK168.out 9).trans rfl, (ya BK168.out 10).trans rfl⟩ (fun hHeld => ?_); refine with_tabW outriderlaw17_JobCopies.tab4 outriderlaw17_JobCopies.bits4 (fun HT_ HW_ => ?_)
      generalize w33.drew = w34 at HO174 HO177 HO187 BK167 BK168 BK188 HB hHeld ⊢
      refine take_ (i := 0) (N := some 19) (v := ?_) (a' := ?_) #[true, false, false, false, false, false, false, false, false, false, false, false, false] rfl rfl (take_ofW HT_.out HW_.out (by kernel_rfl)) (fun _ _ _ h => h) (Or.inl ⟨by rfl, ?_⟩) hHeld ?_ ?_
      rotate_left
      ·rintro w' ⟨s0, s1, s2, s3, s4, s5, s6, s7, s8, s9, s10, s11, s12, s13, s14, s15, s16, s17, s18, s19, s20, s21⟩
       go_simp
       with_reducible rfl
      rotate_left
      ·simp only [Act.put, List.setIfInBounds_toArray, List.set_cons_zero, List.set_cons_succ, i64_w, i32_w]
       rfl
      refine take_ (i := 1) (N := some 20) (v := ?_) (a' := ?_) #[true, true, false, false, false, false, false, false, false, false, false, false, false] rfl rfl (take_ofW HT_.out HW_.out (by kernel_rfl)) (fun _ _ _ h => h) (Or.inl ⟨by rfl, ?_⟩) hHeld ?_ ?_
      rotate_left
      ·rintro w' ⟨s0, s1, s2, s3, s4, s5, s6, s7, s8, s9, s10, s11, s12, s13, s14, s15, s16, s17, s18, s19, s20, s21⟩
       go_simp
       with_reducible rfl
      rotate_left
      ·simp only [Act.put, List.setIfInBounds_toArray, List.set_cons_zero, List.set_cons_succ, i64_w, i32_w]
       rfl
      refine take_ (i := 3) (N := some 22) (v := ?_) (a' := ?_) #[true, true, false, true, false, false, false, false, false, false, false, false, false] rfl rfl (take_ofW HT_.out HW_.out (by kernel_rfl)) (fun _ _ _ h => h) (Or.inl ⟨by rfl, ?_⟩) hHeld ?_ ?_
      rotate_left
      ·rintro w' ⟨s0, s1, s2, s3, s4, s5, s6, s7, s8, s9, s10, s11, s12, s13, s14, s15, s16, s17, s18, s19, s20, s21⟩
       go_simp
       with_reducible rfl
      rotate_left
      ·simp only [Act.put, List.setIfInBounds_toArray, List.set_cons_zero, List.set_cons_succ, i64_w, i32_w]
       rfl
      refine take_ (i := 4) (N := some 23) (v := ?_) (a' := ?_) #[true, true, false, true, true, false, false, false, false, false, false, false, false] rfl rfl (take_ofW HT_.out HW_.out (by kernel_rfl)) (fun _ _ _ h => h) (Or.inl ⟨by rfl, ?_⟩) hHeld ?_ ?_
      rotate_left
      ·rintro w' ⟨s0, s1, s2, s3, s4, s5, s6, s7, s8, s9, s10, s11, s12, s13, s14, s15, s16, s17, s18, s19, s20, s21⟩
       go_simp
       with_reducible rfl
      rotate_left
      ·simp only [Act.put, List.setIfInBounds_toArray, List.set_cons_zero, List.set_cons_succ, i64_w, i32_w]
       rfl
      refine one_ (i := 2) (N := some 21) #[true, true, true, true, true, false, false, false, false, false, false, false, false] rfl rfl (one_of HT_.out (by kernel_rfl)) (by decide) (fun K hK => ?_)
      refine goes_ Tryz.func25 (by kernel_rfl) rfl #[.agg #[.int .i64 a0_0, .slice A0_1 l0_1.length c0_1, .slice A0_2 l0_2.length c0_2, .int .i64 a0_3, .int .i64 a0_4, .int .i64 a0_5, .int .i64 a0_6, .int .i64 a0_7, .int .i64 a0_8, .int .i64 a0_9, .slice A0_10 l0_10.length c0_10], .agg #[.int .i64 a1_0, .slice A1_1 l1_1.length c1_1, .slice A1_2 l1_2.length c1_2, .int .i64 a1_3, .int .i64 a1_4, .int .i64 a1_5, .int .i64 a1_6, .int .i64 a1_7, .int .i64 a1_8, .int .i64 a1_9, .slice A1_10 l1_10.length c1_10]] (by rfl) rfl rfl (by (try simp only [List.map_toArray, List.map_cons, List.map_nil]); first | done | rfl | (simp only [List.length_drop, List.length_take]; rfl)) ?_
      with_reducible refine (job_Same.calls kj2 a0_0 _ _ l0_1 _ _ l0_2 a0_3 a0_4 a0_5 a0_6 a0_7 a0_8 a0_9 _ _ l0_10 a1_0 _ _ l1_1 _ _ l1_2 a1_3 a1_4 a1_5 a1_6 a1_7 a1_8 a1_9 _ _ l1_10 t189 _ ?side1 ?side2 ?side3 ?side4 ?side5 ?side6 ?side7 ?side8 ?side9 ?side10 ?side11 ?side12 A30.out).mono ?_
      (case side1 => repeat (first | exact (Kd.C_below HR0_1.out HB.out) | (with_reducible refine Kd.C_alloc ?_ _) | (with_reducible refine Kd.C_drewN ?_ _) | (with_reducible refine Kd.C_drew ?_)))
      (case side2 => exact HC0_1.out)
      (case side3 => repeat (first | exact (Kd.C_below HR0_2.out HB.out) | (with_reducible refine Kd.C_alloc ?_ _) | (with_reducible refine Kd.C_drewN ?_ _) | (with_reducible refine Kd.C_drew ?_)))
      (case side4 => exact HC0_2.out)
      (case side5 => repeat (first | exact (Kd.C_below HR0_10.out HB.out) | (with_reducible refine Kd.C_alloc ?_ _) | (with_reducible refine Kd.C_drewN ?_ _) | (with_reducible refine Kd.C_drew ?_)))
      (case side6 => exact HC0_10.out)
      (case side7 => repeat (first | exact (Kd.C_below HR1_1.out HB.out) | (with_reducible refine Kd.C_alloc ?_ _) | (with_reducible refine Kd.C_drewN ?_ _) | (with_reducible refine Kd.C_drew ?_)))
      (case side8 => exact HC1_1.out)
      (case side9 => repeat (first | exact (Kd.C_below HR1_2.out HB.out) | (with_reducible refine Kd.C_alloc ?_ _) | (with_reducible refine Kd.C_drewN ?_ _) | (with_reducible refine Kd.C_drew ?_)))
      (case side10 => exact HC1_2.out)
      (case side11 => repeat (first | exact (Kd.C_below HR1_10.out HB.out) | (with_reducible refine Kd.C_alloc ?_ _) | (with_reducible refine Kd.C_drewN ?_ _) | (with_reducible refine Kd.C_drew ?_)))
      (case side12 => exact HC1_10.out)
      rintro e w35 ⟨rfl, hb⟩
      refine ⟨_, rfl, ?_⟩
      have n0_ := yc (Kd.R_below (by (with_reducible repeat (first | apply Kd.R_alloc | apply Kd.R_drewN | apply Kd.R_drew)); exact HO174.out) hb)
      have n1_ := yc (Kd.R_below (by (with_reducible repeat (first | apply Kd.R_alloc | apply Kd.R_drewN | apply Kd.R_drew)); exact HO177.out) hb)
      have n2_ := yc (Kd.S_below (by (with_reducible repeat (first | apply Kd.S_alloc | apply Kd.S_drewN | apply Kd.S_drew)); exact HO187.out) hb)
      have n3_ := yc (blk_below (g := gb167) (o := .cells #[.int .i64 a0_0, .slice A0_1 l0_1.length c0_1, .slice A0_2 l0_2.length c0_2, .int .i64 a0_3, .int .i64 a0_4, .int .i64 a0_5, .int .i64 a0_6, .int .i64 a0_7, .int .i64 a0_8, .int .i64 a0_9, .slice A0_10 l0_10.length c0_10] 29 (0, 0)) (by (with_reducible repeat (first | refine yh ?_ _ | refine yj ?_ | refine yi ?_ _)); exact BK167.out) hb)
      have n4_ := yc (blk_below (g := gb168) (o := .cells #[.int .i64 a1_0, .slice A1_1 l1_1.length c1_1, .slice A1_2 l1_2.length c1_2, .int .i64 a1_3, .int .i64 a1_4, .int .i64 a1_5, .int .i64 a1_6, .int .i64 a1_7, .int .i64 a1_8, .int .i64 a1_9, .slice A1_10 l1_10.length c1_10] 29 (0, 0)) (by (with_reducible repeat (first | refine yh ?_ _ | refine yj ?_ | refine yi ?_ _)); exact BK168.out) hb)
      have n5_ := yc (blk_below (g := gb188) (o := .cells #[.int .i64 t171, .slice Ao27 t172.length co27, .slice Ao28 t175.length co28, .int .i64 t178, .int .i64 t179, .int .i64 t180, .int .i64 t181, .int .i64 t182, .int .i64 t183, .int .i64 t184, .slice Ao29 t185.length co29] 29 (0, 0)) (by (with_reducible repeat (first | refine yh ?_ _ | refine yj ?_ | refine yi ?_ _)); exact BK188.out) hb)
      have n6_ := yc (below_step (by repeat (first | (with_reducible first | exact HB.out | apply yd | apply ye | apply yf | refine yg ?_ GE167.out | refine yg ?_ GE168.out | refine yg ?_ GE188.out) | exact HB.out)) hb)
      clear HO174
      clear HO177
      clear HO187
      clear BK167
      clear BK168
      clear BK188
      clear HB
      have HO174 := n0_
      have HO177 := n1_
      have HO187 := n2_
      have BK167 := n3_
      have BK168 := n4_
      have BK188 := n5_
      have HB := n6_
      clear n0_ n1_ n2_ n3_ n4_ n5_ n6_
      (try clear hb)
      (try clear hb2)
      (try clear hk)
      (try clear hi)
      refine hK.out _ _ ⟨(ya BK167.out 0).trans rfl, (ya BK167.out 1).trans rfl, (ya BK167.out 2).trans rfl, (ya BK167.out 3).trans rfl, (ya BK167.out 4).trans rfl, (ya BK167.out 5).trans rfl, (ya BK167.out 6).trans rfl, (ya BK167.out 7).trans rfl, (ya BK167.out 8).trans rfl, (ya BK167.out 9).trans rfl, (ya BK167.out 10).trans rfl, (ya BK168.out 0).trans rfl, (ya BK168.out 1).trans rfl, (ya BK168.out 2).trans rfl, (ya BK168.out 3).trans rfl, (ya BK168.out 4).trans rfl, (ya BK168.out 5).trans rfl, (ya BK168.out 6).trans rfl, (ya BK168.out 7).trans rfl, (ya BK168.out 8).trans rfl, (ya BK168.out 9).trans rfl, (ya BK168.out 10).trans rfl⟩ (fun hHeld => ?_)
      clear hK K
      refine norm_ (a' := ?_) ?_ ?_
      rotate_left
      ·show Act.put _ (some 21) _ = _
       simp only [Act.put, List.setIfInBounds_toArray, List.set_cons_zero, List.set_cons_succ, i64_w, i32_w]
       rfl
      refine one_ (i := 5) (N := some 24) #[true, true, true, true, true, true, false, false, false, false, false, false, false] rfl rfl (one_of HT_.out (by kernel_rfl)) (by decide) (fun K hK => ?_)
      refine goes_ Tryz.func19 (by kernel_rfl) rfl #[.agg #[.int .i64 a0_0, .slice A0_1 l0_1.length c0_1, .slice A0_2 l0_2.length c0_2, .int .i64 a0_3, .int .i64 a0_4, .int .i64 a0_5, .int .i64 a0_6, .int .i64 a0_7, .int .i64 a0_8, .int .i64 a0_9, .slice A0_10 l0_10.length c0_10], .agg #[.int .i64 a1_0, .slice A1_1 l1_1.length c1_1, .slice A1_2 l1_2.length c1_2, .int .i64 a1_3, .int .i64 a1_4, .int .i64 a1_5, .int .i64 a1_6, .int .i64 a1_7, .int .i64 a1_8, .int .i64 a1_9, .slice A1_10 l1_10.length c1_10]] (by rfl) rfl rfl (by (try simp only [List.map_toArray, List.map_cons, List.map_nil]); first | done | rfl | (simp only [List.length_drop, List.length_take]; rfl)) ?_
      with_reducible refine (outriderref17_Same.calls kj2 a0_0 _ _ l0_1 _ _ l0_2 a0_3 a0_4 a0_5 a0_6 a0_7 a0_8 a0_9 _ _ l0_10 a1_0 _ _ l1_1 _ _ l1_2 a1_3 a1_4 a1_5 a1_6 a1_7 a1_8 a1_9 _ _ l1_10 t190 _ ?side1 ?side2 ?side3 ?side4 ?side5 ?side6 ?side7 ?side8 ?side9 ?side10 ?side11 ?side12 A31.out).mono ?_
      (case side1 => repeat (first | exact (Kd.C_below HR0_1.out HB.out) | (with_reducible refine Kd.C_alloc ?_ _) | (with_reducible refine Kd.C_drewN ?_ _) | (with_reducible refine Kd.C_drew ?_)))
      (case side2 => exact HC0_1.out)
      (case side3 => repeat (first | exact (Kd.C_below HR0_2.out HB.out) | (with_reducible refine Kd.C_alloc ?_ _) | (with_reducible refine Kd.C_drewN ?_ _) | (with_reducible refine Kd.C_drew ?_)))
      (case side4 => exact HC0_2.out)
      (case side5 => repeat (first | exact (Kd.C_below HR0_10.out HB.out) | (with_reducible refine Kd.C_alloc ?_ _) | (with_reducible refine Kd.C_drewN ?_ _) | (with_reducible refine Kd.C_drew ?_)))
      (case side6 => exact HC0_10.out)
      (case side7 => repeat (first | exact (Kd.C_below HR1_1.out HB.out) | (with_reducible refine Kd.C_alloc ?_ _) | (with_reducible refine Kd.C_drewN ?_ _) | (with_reducible refine Kd.C_drew ?_)))
      (case side8 => exact HC1_1.out)
      (case side9 => repeat (first | exact (Kd.C_below HR1_2.out HB.out) | (with_reducible refine Kd.C_alloc ?_ _) | (with_reducible refine Kd.C_drewN ?_ _) | (with_reducible refine Kd.C_drew ?_)))
      (case side10 => exact HC1_2.out)
      (case side11 => repeat (first | exact (Kd.C_below HR1_10.out HB.out) | (with_reducible refine Kd.C_alloc ?_ _) | (with_reducible refine Kd.C_drewN ?_ _) | (with_reducible refine Kd.C_drew ?_)))
      (case side12 => exact HC1_10.out)
      rintro e w36 ⟨rfl, hb⟩
      refine ⟨_, rfl, ?_⟩
      have n0_ := yc (Kd.R_below (by (with_reducible repeat (first | apply Kd.R_alloc | apply Kd.R_drewN | apply Kd.R_drew)); exact HO174.out) hb)
      have n1_ := yc (Kd.R_below (by (with_reducible repeat (first | apply Kd.R_alloc | apply Kd.R_drewN | apply Kd.R_drew)); exact HO177.out) hb)
      have n2_ := yc (Kd.S_below (by (with_reducible repeat (first | apply Kd.S_alloc | apply Kd.S_drewN | apply Kd.S_drew)); exact HO187.out) hb)
      have n3_ := yc (blk_below (g := gb167) (o := .cells #[.int .i64 a0_0, .slice A0_1 l0_1.length c0_1, .slice A0_2 l0_2.length c0_2, .int .i64 a0_3, .int .i64 a0_4, .int .i64 a0_5, .int .i64 a0_6, .int .i64 a0_7, .int .i64 a0_8, .int .i64 a0_9, .slice A0_10 l0_10.length c0_10] 29 (0, 0)) (by (with_reducible repeat (first | refine yh ?_ _ | refine yj ?_ | refine yi ?_ _)); exact BK167.out) hb)
      have n4_ := yc (blk_below (g := gb168) (o := .cells #[.int .i64 a1_0, .slice A1_1 l1_1.length c1_1, .slice A1_2 l1_2.length c1_2, .int .i64 a1_3, .int .i64 a1_4, .int .i64 a1_5, .int .i64 a1_6, .int .i64 a1_7, .int .i64 a1_8, .int .i64 a1_9, .slice A1_10 l1_10.length c1_10] 29 (0, 0)) (by (with_reducible repeat (first | refine yh ?_ _ | refine yj ?_ | refine yi ?_ _)); exact BK168.out) hb)
      have n5_ := yc (blk_below (g := gb188) (o := .cells #[.int .i64 t171, .slice Ao27 t172.length co27, .slice Ao28 t175.length co28, .int .i64 t178, .int .i64 t179, .int .i64 t180, .int .i64 t181, .int .i64 t182, .int .i64 t183, .int .i64 t184, .slice Ao29 t185.length co29] 29 (0, 0)) (by (with_reducible repeat (first | refine yh ?_ _ | refine yj ?_ | refine yi ?_ _)); exact BK188.out) hb)
      have n6_ := yc (below_step (by repeat (first | (with_reducible first | exact HB.out | apply yd | apply ye | apply yf | refine yg ?_ GE167.out | refine yg ?_ GE168.out | refine yg ?_ GE188.out) | exact HB.out)) hb)
      clear HO174
      clear HO177
      clear HO187
      clear BK167
      clear BK168
      clear BK188
      clear HB
      have HO174 := n0_
      have HO177 := n1_
      have HO187 := n2_
      have BK167 := n3_
      have BK168 := n4_
      have BK188 := n5_
      have HB := n6_
      clear n0_ n1_ n2_ n3_ n4_ n5_ n6_
      (try clear hb)
      (try clear hb2)
      (try clear hk)
      (try clear hi)
      refine hK.out _ _ ⟨(ya BK167.out 0).trans rfl, (ya BK167.out 1).trans rfl, (ya BK167.out 2).trans rfl, (ya BK167.out 3).trans rfl, (ya BK167.out 4).trans rfl, (ya BK167.out 5).trans rfl, (ya BK167.out 6).trans rfl, (ya BK167.out 7).trans rfl, (ya BK167.out 8).trans rfl, (ya BK167.out 9).trans rfl, (ya BK167.out 10).trans rfl, (ya BK168.out 0).trans rfl, (ya BK168.out 1).trans rfl, (ya BK168.out 2).trans rfl, (ya BK168.out 3).trans rfl, (ya BK168.out 4).trans rfl, (ya BK168.out 5).trans rfl, (ya BK168.out 6).trans rfl, (ya BK168.out 7).trans rfl, (ya BK168.out 8).trans rfl, (ya BK168.out 9).trans rfl, (ya BK168.out 10).trans rfl⟩ (fun hHeld => ?_)
      clear hK K
      refine norm_ (a' := ?_) ?_ ?_
      rotate_left
      ·show Act.put _ (some 24) _ = _
       simp only [Act.put, List.setIfInBounds_toArray, List.set_cons_zero, List.set_cons_succ, i64_w, i32_w]
       rfl
      refine pure_ (i := 6) (N := some 25) (v := ?_) (a' := ?_) #[true, true, true, true, true, true, true, false, false, false, false, false, false] rfl rfl (any_of HT_.out (by kernel_rfl)) (fun _ _ _ h => h) (Or.inl ⟨by rfl, ?_⟩) ?_ ?_
      rotate_left
      ·intro w'
       go_simp
       with_reducible rfl
      rotate_left
      ·simp only [Act.put, List.setIfInBounds_toArray, List.set_cons_zero, List.set_cons_succ, i64_w, i32_w]
       rfl
      refine pure_ (i := 7) (N := some 26) (v := ?_) (a' := ?_) #[true, true, true, true, true, true, true, true, false, false, false, false, false] rfl rfl (any_of HT_.out (by kernel_rfl)) (fun _ _ _ h => h) (Or.inl ⟨by rfl, ?_⟩) ?_ ?_
      rotate_left
      ·intro w'
       go_simp
       with_reducible rfl
      rotate_left
      ·simp only [Act.put, List.setIfInBounds_toArray, List.set_cons_zero, List.set_cons_succ, i64_w, i32_w]
       rfl
      refine pure_ (i := 8) (N := some 27) (v := undef) (a' := ?_) #[true, true, true, true, true, true, true, true, true, false, false, false, false] rfl rfl (any_of HT_.out (by kernel_rfl)) (fun _ _ _ h => h) (Or.inr ⟨by rfl, rfl⟩) ?_ ?_
      rotate_left
      ·simp only [Act.put, List.setIfInBounds_toArray, List.set_cons_zero, List.set_cons_succ, i64_w, i32_w]
       rfl
      refine pure_ (i := 9) (N := some 28) (v := undef) (a' := ?_) #[true, true, true, true, true, true, true, true, true, true, false, false, false] rfl rfl (any_of HT_.out (by kernel_rfl)) (fun _ _ _ h => h) (Or.inr ⟨by rfl, rfl⟩) ?_ ?_
      rotate_left
      ·simp only [Act.put, List.setIfInBounds_toArray, List.set_cons_zero, List.set_cons_succ, i64_w, i32_w]
       rfl
      refine pure_ (i := 10) (N := some 29) (v := undef) (a' := ?_) #[true, true, true, true, true, true, true, true, true, true, true, false, false] rfl rfl (any_of HT_.out (by kernel_rfl)) (fun _ _ _ h => h) (Or.inr ⟨by rfl, rfl⟩) ?_ ?_
      rotate_left
      ·simp only [Act.put, List.setIfInBounds_toArray, List.set_cons_zero, List.set_cons_succ, i64_w, i32_w]
       rfl
      refine pure_ (i := 11) (N := some 30) (v := undef) (a' := ?_) #[true, true, true, true, true, true, true, true, true, true, true, true, false] rfl rfl (any_of HT_.out (by kernel_rfl)) (fun _ _ _ h => h) (Or.inr ⟨by rfl, rfl⟩) ?_ ?_
      rotate_left
      ·simp only [Act.put, List.setIfInBounds_toArray, List.set_cons_zero, List.set_cons_succ, i64_w, i32_w]
       rfl
      refine pure_ (i := 12) (N := some 31) (v := ?_) (a' := ?_) #[true, true, true, true, true, true, true, true, true, true, true, true, true] rfl rfl (any_of HT_.out (by kernel_rfl)) (fun _ _ _ h => h) (Or.inl ⟨by rfl, ?_⟩) ?_ ?_
      rotate_left
      ·intro w'
       go_simp
       with_reducible rfl
      rotate_left
      ·simp only [Act.put, List.setIfInBounds_toArray, List.set_cons_zero, List.set_cons_succ, i64_w, i32_w]
       rfl
      refine done_ (done_of HT_.out (by kernel_rfl)) ?_
      try go_wp2
      go_meet
      case rel => exact ⟨_, (true), (by first | rfl | (simp; done) | (simp [*]; done)), H', ⟨by have := HJ2.out; first | omega | exact Nat.le_refl _⟩, ⟨by (with_reducible repeat (first | apply Kd.R_alloc | apply Kd.R_drewN | apply Kd.R_drew)); exact HO174.out⟩, ⟨by (with_reducible repeat (first | apply Kd.R_alloc | apply Kd.R_drewN | apply Kd.R_drew)); exact HO177.out⟩, ⟨by (with_reducible repeat (first | apply Kd.S_alloc | apply Kd.S_drewN | apply Kd.S_drew)); exact HO187.out⟩, ⟨by (with_reducible repeat (first | refine yh ?_ _ | refine yj ?_ | refine yi ?_ _)); exact BK167.out⟩, ⟨by (with_reducible repeat (first | refine yh ?_ _ | refine yj ?_ | refine yi ?_ _)); exact BK168.out⟩, ⟨by (with_reducible repeat (first | refine yh ?_ _ | refine yj ?_ | refine yi ?_ _)); exact BK188.out⟩, ⟨by repeat (first | (with_reducible first | exact HB.out | apply yd | apply ye | apply yf | refine yg ?_ GE167.out | refine yg ?_ GE168.out | refine yg ?_ GE188.out) | exact HB.out)⟩⟩
     ·rw [if_neg c32] at H
      have c32b0 : (t189 != t190) = false := by simpa using c32
      (try (have c32b1 : decide (t189 = t190) = true := by simpa using c32))
      (try (have c32b2 : (t189 == t190) = true := by simpa using c32))
      clear c32
      (first | rw [c32b0] | (simp only [i64_w, i32_w]; rw [c32b0]) | skip)
      replace H := Option.bind_eq_some_iff.mp H
      obtain ⟨t191, A370, H⟩ := H
      replace H : (outriderlaw17_JobCopies.j1 kj2 (!t191) a0_0 l0_1 l0_2 a0_3 a0_4 a0_5 a0_6 a0_7 a0_8 a0_9 l0_10 t171 t172 t175 t178 t179 t180 t181 t182 t183 t184 t185) = some true := H
      have A37 := yc A370
      clear A370
      have H' := yc H
      clear H
      try go_wp2
      have n0_ : Aside0 (Kd.R k58 58 (((((((((((w23.setCell ⟨gb188, 0, none⟩ (.int .i64 t171)).setCell ⟨gb188, 1, none⟩ (.slice Ao27 t172.length co27)).setCell ⟨gb188, 2, none⟩ (.slice Ao28 t175.length co28)).setCell ⟨gb188, 3, none⟩ (.int .i64 t178)).setCell ⟨gb188, 4, none⟩ (.int .i64 t179)).setCell ⟨gb188, 5, none⟩ (.int .i64 t180)).setCell ⟨gb188, 6, none⟩ (.int .i64 t181)).setCell ⟨gb188, 7, none⟩ (.int .i64 t182)).setCell ⟨gb188, 8, none⟩ (.int .i64 t183)).setCell ⟨gb188, 9, none⟩ (.int .i64 t184)).setCell ⟨gb188, 10, none⟩ (.slice Ao29 t185.length co29)) w.heap.size (fun _ => True) (.slice Ao27 t172.length co27) t172) := ⟨by (with_reducible repeat (first | apply Kd.R_alloc | apply Kd.R_drewN | apply Kd.R_drew)); exact Kd.R_mono (Kd.R_far (p := ⟨gb188, 10, none⟩) (Kd.R_far (p := ⟨gb188, 9, none⟩) (Kd.R_far (p := ⟨gb188, 8, none⟩) (Kd.R_far (p := ⟨gb188, 7, none⟩) (Kd.R_far (p := ⟨gb188, 6, none⟩) (Kd.R_far (p := ⟨gb188, 5, none⟩) (Kd.R_far (p := ⟨gb188, 4, none⟩) (Kd.R_far (p := ⟨gb188, 3, none⟩) (Kd.R_far (p := ⟨gb188, 2, none⟩) (Kd.R_far (p := ⟨gb188, 1, none⟩) (Kd.R_far (p := ⟨gb188, 0, none⟩) (Kd.R_types HO174.out BK188.out (by decide)) (fun _ hk => hk.2) (.int .i64 t171)) (fun _ hk => hk.2) (.slice Ao27 t172.length co27)) (fun _ hk => hk.2) (.slice Ao28 t175.length co28)) (fun _ hk => hk.2) (.int .i64 t178)) (fun _ hk => hk.2) (.int .i64 t179)) (fun _ hk => hk.2) (.int .i64 t180)) (fun _ hk => hk.2) (.int .i64 t181)) (fun _ hk => hk.2) (.int .i64 t182)) (fun _ hk => hk.2) (.int .i64 t183)) (fun _ hk => hk.2) (.int .i64 t184)) (fun _ hk => hk.2) (.slice Ao29 t185.length co29)) (fun _ hk => trivial)⟩
      have n1_ : Aside0 (Kd.R k61 61 (((((((((((w23.setCell ⟨gb188, 0, none⟩ (.int .i64 t171)).setCell ⟨gb188, 1, none⟩ (.slice Ao27 t172.length co27)).setCell ⟨gb188, 2, none⟩ (.slice Ao28 t175.length co28)).setCell ⟨gb188, 3, none⟩ (.int .i64 t178)).setCell ⟨gb188, 4, none⟩ (.int .i64 t179)).setCell ⟨gb188, 5, none⟩ (.int .i64 t180)).setCell ⟨gb188, 6, none⟩ (.int .i64 t181)).setCell ⟨gb188, 7, none⟩ (.int .i64 t182)).setCell ⟨gb188, 8, none⟩ (.int .i64 t183)).setCell ⟨gb188, 9, none⟩ (.int .i64 t184)).setCell ⟨gb188, 10, none⟩ (.slice Ao29 t185.length co29)) w.heap.size (fun _ => True) (.slice Ao28 t175.length co28) t175) := ⟨by (with_reducible repeat (first | apply Kd.R_alloc | apply Kd.R_drewN | apply Kd.R_drew)); exact Kd.R_mono (Kd.R_far (p := ⟨gb188, 10, none⟩) (Kd.R_far (p := ⟨gb188, 9, none⟩) (Kd.R_far (p := ⟨gb188, 8, none⟩) (Kd.R_far (p := ⟨gb188, 7, none⟩) (Kd.R_far (p := ⟨gb188, 6, none⟩) (Kd.R_far (p := ⟨gb188, 5, none⟩) (Kd.R_far (p := ⟨gb188, 4, none⟩) (Kd.R_far (p := ⟨gb188, 3, none⟩) (Kd.R_far (p := ⟨gb188, 2, none⟩) (Kd.R_far (p := ⟨gb188, 1, none⟩) (Kd.R_far (p := ⟨gb188, 0, none⟩) (Kd.R_types HO177.out BK188.out (by decide)) (fun _ hk => hk.2) (.int .i64 t171)) (fun _ hk => hk.2) (.slice Ao27 t172.length co27)) (fun _ hk => hk.2) (.slice Ao28 t175.length co28)) (fun _ hk => hk.2) (.int .i64 t178)) (fun _ hk => hk.2) (.int .i64 t179)) (fun _ hk => hk.2) (.int .i64 t180)) (fun _ hk => hk.2) (.int .i64 t181)) (fun _ hk => hk.2) (.int .i64 t182)) (fun _ hk => hk.2) (.int .i64 t183)) (fun _ hk => hk.2) (.int .i64 t184)) (fun _ hk => hk.2) (.slice Ao29 t185.length co29)) (fun _ hk => trivial)⟩
      have n2_ : Aside0 (Kd.S (Kd.slice 66 k66) 62 (((((((((((w23.setCell ⟨gb188, 0, none⟩ (.int .i64 t171)).setCell ⟨gb188, 1, none⟩ (.slice Ao27 t172.length co27)).setCell ⟨gb188, 2, none⟩ (.slice Ao28 t175.length co28)).setCell ⟨gb188, 3, none⟩ (.int .i64 t178)).setCell ⟨gb188, 4, none⟩ (.int .i64 t179)).setCell ⟨gb188, 5, none⟩ (.int .i64 t180)).setCell ⟨gb188, 6, none⟩ (.int .i64 t181)).setCell ⟨gb188, 7, none⟩ (.int .i64 t182)).setCell ⟨gb188, 8, none⟩ (.int .i64 t183)).setCell ⟨gb188, 9, none⟩ (.int .i64 t184)).setCell ⟨gb188, 10, none⟩ (.slice Ao29 t185.length co29)) w.heap.size (fun _ => True) (.slice Ao29 t185.length co29) t185) := ⟨by (with_reducible repeat (first | apply Kd.S_alloc | apply Kd.S_drewN | apply Kd.S_drew)); exact Kd.S_mono (Kd.S_far (p := ⟨gb188, 10, none⟩) (Kd.S_far (p := ⟨gb188, 9, none⟩) (Kd.S_far (p := ⟨gb188, 8, none⟩) (Kd.S_far (p := ⟨gb188, 7, none⟩) (Kd.S_far (p := ⟨gb188, 6, none⟩) (Kd.S_far (p := ⟨gb188, 5, none⟩) (Kd.S_far (p := ⟨gb188, 4, none⟩) (Kd.S_far (p := ⟨gb188, 3, none⟩) (Kd.S_far (p := ⟨gb188, 2, none⟩) (Kd.S_far (p := ⟨gb188, 1, none⟩) (Kd.S_far (p := ⟨gb188, 0, none⟩) (Kd.S_types HO187.out BK188.out (by decide)) (fun _ hk => hk.2) (.int .i64 t171)) (fun _ hk => hk.2) (.slice Ao27 t172.length co27)) (fun _ hk => hk.2) (.slice Ao28 t175.length co28)) (fun _ hk => hk.2) (.int .i64 t178)) (fun _ hk => hk.2) (.int .i64 t179)) (fun _ hk => hk.2) (.int .i64 t180)) (fun _ hk => hk.2) (.int .i64 t181)) (fun _ hk => hk.2) (.int .i64 t182)) (fun _ hk => hk.2) (.int .i64 t183)) (fun _ hk => hk.2) (.int .i64 t184)) (fun _ hk => hk.2) (.slice Ao29 t185.length co29)) (fun _ hk => trivial)⟩
      have n3_ : Aside0 ((((((((((((w23.setCell ⟨gb188, 0, none⟩ (.int .i64 t171)).setCell ⟨gb188, 1, none⟩ (.slice Ao27 t172.length co27)).setCell ⟨gb188, 2, none⟩ (.slice Ao28 t175.length co28)).setCell ⟨gb188, 3, none⟩ (.int .i64 t178)).setCell ⟨gb188, 4, none⟩ (.int .i64 t179)).setCell ⟨gb188, 5, none⟩ (.int .i64 t180)).setCell ⟨gb188, 6, none⟩ (.int .i64 t181)).setCell ⟨gb188, 7, none⟩ (.int .i64 t182)).setCell ⟨gb188, 8, none⟩ (.int .i64 t183)).setCell ⟨gb188, 9, none⟩ (.int .i64 t184)).setCell ⟨gb188, 10, none⟩ (.slice Ao29 t185.length co29)).heap[gb167]? = some (.cells #[.int .i64 a0_0, .slice A0_1 l0_1.length c0_1, .slice A0_2 l0_2.length c0_2, .int .i64 a0_3, .int .i64 a0_4, .int .i64 a0_5, .int .i64 a0_6, .int .i64 a0_7, .int .i64 a0_8, .int .i64 a0_9, .slice A0_10 l0_10.length c0_10] 29 (0, 0))) := ⟨by (with_reducible repeat (first | refine yh ?_ _ | refine yj ?_ | refine yi ?_ _)); refine blk_far ?_ NB167_188.out _; (with_reducible repeat (first | refine yh ?_ _ | refine yj ?_ | refine yi ?_ _)); refine blk_far ?_ NB167_188.out _; (with_reducible repeat (first | refine yh ?_ _ | refine yj ?_ | refine yi ?_ _)); refine blk_far ?_ NB167_188.out _; (with_reducible repeat (first | refine yh ?_ _ | refine yj ?_ | refine yi ?_ _)); refine blk_far ?_ NB167_188.out _; (with_reducible repeat (first | refine yh ?_ _ | refine yj ?_ | refine yi ?_ _)); refine blk_far ?_ NB167_188.out _; (with_reducible repeat (first | refine yh ?_ _ | refine yj ?_ | refine yi ?_ _)); refine blk_far ?_ NB167_188.out _; (with_reducible repeat (first | refine yh ?_ _ | refine yj ?_ | refine yi ?_ _)); refine blk_far ?_ NB167_188.out _; (with_reducible repeat (first | refine yh ?_ _ | refine yj ?_ | refine yi ?_ _)); refine blk_far ?_ NB167_188.out _; (with_reducible repeat (first | refine yh ?_ _ | refine yj ?_ | refine yi ?_ _)); refine blk_far ?_ NB167_188.out _; (with_reducible repeat (first | refine yh ?_ _ | refine yj ?_ | refine yi ?_ _)); refine blk_far ?_ NB167_188.out _; (with_reducible repeat (first | refine yh ?_ _ | refine yj ?_ | refine yi ?_ _)); refine blk_far ?_ NB167_188.out _; (with_reducible repeat (first | refine yh ?_ _ | refine yj ?_ | refine yi ?_ _)); exact BK167.out⟩
      have n4_ : Aside0 ((((((((((((w23.setCell ⟨gb188, 0, none⟩ (.int .i64 t171)).setCell ⟨gb188, 1, none⟩ (.slice Ao27 t172.length co27)).setCell ⟨gb188, 2, none⟩ (.slice Ao28 t175.length co28)).setCell ⟨gb188, 3, none⟩ (.int .i64 t178)).setCell ⟨gb188, 4, none⟩ (.int .i64 t179)).setCell ⟨gb188, 5, none⟩ (.int .i64 t180)).setCell ⟨gb188, 6, none⟩ (.int .i64 t181)).setCell ⟨gb188, 7, none⟩ (.int .i64 t182)).setCell ⟨gb188, 8, none⟩ (.int .i64 t183)).setCell ⟨gb188, 9, none⟩ (.int .i64 t184)).setCell ⟨gb188, 10, none⟩ (.slice Ao29 t185.length co29)).heap[gb168]? = some (.cells #[.int .i64 a1_0, .slice A1_1 l1_1.length c1_1, .slice A1_2 l1_2.length c1_2, .int .i64 a1_3, .int .i64 a1_4, .int .i64 a1_5, .int .i64 a1_6, .int .i64 a1_7, .int .i64 a1_8, .int .i64 a1_9, .slice A1_10 l1_10.length c1_10] 29 (0, 0))) := ⟨by (with_reducible repeat (first | refine yh ?_ _ | refine yj ?_ | refine yi ?_ _)); refine blk_far ?_ NB168_188.out _; (with_reducible repeat (first | refine yh ?_ _ | refine yj ?_ | refine yi ?_ _)); refine blk_far ?_ NB168_188.out _; (with_reducible repeat (first | refine yh ?_ _ | refine yj ?_ | refine yi ?_ _)); refine blk_far ?_ NB168_188.out _; (with_reducible repeat (first | refine yh ?_ _ | refine yj ?_ | refine yi ?_ _)); refine blk_far ?_ NB168_188.out _; (with_reducible repeat (first | refine yh ?_ _ | refine yj ?_ | refine yi ?_ _)); refine blk_far ?_ NB168_188.out _; (with_reducible repeat (first | refine yh ?_ _ | refine yj ?_ | refine yi ?_ _)); refine blk_far ?_ NB168_188.out _; (with_reducible repeat (first | refine yh ?_ _ | refine yj ?_ | refine yi ?_ _)); refine blk_far ?_ NB168_188.out _; (with_reducible repeat (first | refine yh ?_ _ | refine yj ?_ | refine yi ?_ _)); refine blk_far ?_ NB168_188.out _; (with_reducible repeat (first | refine yh ?_ _ | refine yj ?_ | refine yi ?_ _)); refine blk_far ?_ NB168_188.out _; (with_reducible repeat (first | refine yh ?_ _ | refine yj ?_ | refine yi ?_ _)); refine blk_far ?_ NB168_188.out _; (with_reducible repeat (first | refine yh ?_ _ | refine yj ?_ | refine yi ?_ _)); refine blk_far ?_ NB168_188.out _; (with_reducible repeat (first | refine yh ?_ _ | refine yj ?_ | refine yi ?_ _)); exact BK168.out⟩
      have n5_ : Aside0 ((((((((((((w23.setCell ⟨gb188, 0, none⟩ (.int .i64 t171)).setCell ⟨gb188, 1, none⟩ (.slice Ao27 t172.length co27)).setCell ⟨gb188, 2, none⟩ (.slice Ao28 t175.length co28)).setCell ⟨gb188, 3, none⟩ (.int .i64 t178)).setCell ⟨gb188, 4, none⟩ (.int .i64 t179)).setCell ⟨gb188, 5, none⟩ (.int .i64 t180)).setCell ⟨gb188, 6, none⟩ (.int .i64 t181)).setCell ⟨gb188, 7, none⟩ (.int .i64 t182)).setCell ⟨gb188, 8, none⟩ (.int .i64 t183)).setCell ⟨gb188, 9, none⟩ (.int .i64 t184)).setCell ⟨gb188, 10, none⟩ (.slice Ao29 t185.length co29)).heap[gb188]? = some (.cells #[.int .i64 t171, .slice Ao27 t172.length co27, .slice Ao28 t175.length co28, .int .i64 t178, .int .i64 t179, .int .i64 t180, .int .i64 t181, .int .i64 t182, .int .i64 t183, .int .i64 t184, .slice Ao29 t185.length co29] 29 (0, 0))) := ⟨by (with_reducible repeat (first | refine yh ?_ _ | refine yj ?_ | refine yi ?_ _)); refine blk_put (cs := #[.int .i64 t171, .slice Ao27 t172.length co27, .slice Ao28 t175.length co28, .int .i64 t178, .int .i64 t179, .int .i64 t180, .int .i64 t181, .int .i64 t182, .int .i64 t183, .int .i64 t184, .slice none 0 0]) ?_ 10 _ rfl; (with_reducible repeat (first | refine yh ?_ _ | refine yj ?_ | refine yi ?_ _)); refine blk_put (cs := #[.int .i64 t171, .slice Ao27 t172.length co27, .slice Ao28 t175.length co28, .int .i64 t178, .int .i64 t179, .int .i64 t180, .int .i64 t181, .int .i64 t182, .int .i64 t183, .int .i64 0, .slice none 0 0]) ?_ 9 _ rfl; (with_reducible repeat (first | refine yh ?_ _ | refine yj ?_ | refine yi ?_ _)); refine blk_put (cs := #[.int .i64 t171, .slice Ao27 t172.length co27, .slice Ao28 t175.length co28, .int .i64 t178, .int .i64 t179, .int .i64 t180, .int .i64 t181, .int .i64 t182, .int .i64 0, .int .i64 0, .slice none 0 0]) ?_ 8 _ rfl; (with_reducible repeat (first | refine yh ?_ _ | refine yj ?_ | refine yi ?_ _)); refine blk_put (cs := #[.int .i64 t171, .slice Ao27 t172.length co27, .slice Ao28 t175.length co28, .int .i64 t178, .int .i64 t179, .int .i64 t180, .int .i64 t181, .int .i64 0, .int .i64 0, .int .i64 0, .slice none 0 0]) ?_ 7 _ rfl; (with_reducible repeat (first | refine yh ?_ _ | refine yj ?_ | refine yi ?_ _)); refine blk_put (cs := #[.int .i64 t171, .slice Ao27 t172.length co27, .slice Ao28 t175.length co28, .int .i64 t178, .int .i64 t179, .int .i64 t180, .int .i64 0, .int .i64 0, .int .i64 0, .int .i64 0, .slice none 0 0]) ?_ 6 _ rfl; (with_reducible repeat (first | refine yh ?_ _ | refine yj ?_ | refine yi ?_ _)); refine blk_put (cs := #[.int .i64 t171, .slice Ao27 t172.length co27, .slice Ao28 t175.length co28, .int .i64 t178, .int .i64 t179, .int .i64 0, .int .i64 0, .int .i64 0, .int .i64 0, .int .i64 0, .slice none 0 0]) ?_ 5 _ rfl; (with_reducible repeat (first | refine yh ?_ _ | refine yj ?_ | refine yi ?_ _)); refine blk_put (cs := #[.int .i64 t171, .slice Ao27 t172.length co27, .slice Ao28 t175.length co28, .int .i64 t178, .int .i64 0, .int .i64 0, .int .i64 0, .int .i64 0, .int .i64 0, .int .i64 0, .slice none 0 0]) ?_ 4 _ rfl; (with_reducible repeat (first | refine yh ?_ _ | refine yj ?_ | refine yi ?_ _)); refine blk_put (cs := #[.int .i64 t171, .slice Ao27 t172.length co27, .slice Ao28 t175.length co28, .int .i64 0, .int .i64 0, .int .i64 0, .int .i64 0, .int .i64 0, .int .i64 0, .int .i64 0, .slice none 0 0]) ?_ 3 _ rfl; (with_reducible repeat (first | refine yh ?_ _ | refine yj ?_ | refine yi ?_ _)); refine blk_put (cs := #[.int .i64 t171, .slice Ao27 t172.length co27, .slice none 0 0, .int .i64 0, .int .i64 0, .int .i64 0, .int .i64 0, .int .i64 0, .int .i64 0, .int .i64 0, .slice none 0 0]) ?_ 2 _ rfl; (with_reducible repeat (first | refine yh ?_ _ | refine yj ?_ | refine yi ?_ _)); refine blk_put (cs := #[.int .i64 t171, .slice none 0 0, .slice none 0 0, .int .i64 0, .int .i64 0, .int .i64 0, .int .i64 0, .int .i64 0, .int .i64 0, .int .i64 0, .slice none 0 0]) ?_ 1 _ rfl; (with_reducible repeat (first | refine yh ?_ _ | refine yj ?_ | refine yi ?_ _)); refine blk_put (cs := #[.int .i64 0, .slice none 0 0, .slice none 0 0, .int .i64 0, .int .i64 0, .int .i64 0, .int .i64 0, .int .i64 0, .int .i64 0, .int .i64 0, .slice none 0 0]) ?_ 0 _ rfl; (with_reducible repeat (first | refine yh ?_ _ | refine yj ?_ | refine yi ?_ _)); exact BK188.out⟩
      have n6_ : Aside0 (Below w.heap.size w (((((((((((w23.setCell ⟨gb188, 0, none⟩ (.int .i64 t171)).setCell ⟨gb188, 1, none⟩ (.slice Ao27 t172.length co27)).setCell ⟨gb188, 2, none⟩ (.slice Ao28 t175.length co28)).setCell ⟨gb188, 3, none⟩ (.int .i64 t178)).setCell ⟨gb188, 4, none⟩ (.int .i64 t179)).setCell ⟨gb188, 5, none⟩ (.int .i64 t180)).setCell ⟨gb188, 6, none⟩ (.int .i64 t181)).setCell ⟨gb188, 7, none⟩ (.int .i64 t182)).setCell ⟨gb188, 8, none⟩ (.int .i64 t183)).setCell ⟨gb188, 9, none⟩ (.int .i64 t184)).setCell ⟨gb188, 10, none⟩ (.slice Ao29 t185.length co29))) := ⟨by repeat (first | (with_reducible first | exact HB.out | apply yd | apply ye | apply yf | refine yg ?_ GE167.out | refine yg ?_ GE168.out | refine yg ?_ GE188.out) | exact HB.out)⟩
      (try clear HO174)
      (try clear HO177)
      (try clear HO187)
      (try clear BK167)
      (try clear BK168)
      (try clear BK188)
      (try clear HB)
      generalize (((((((((((w23.setCell ⟨gb188, 0, none⟩ (.int .i64 t171)).setCell ⟨gb188, 1, none⟩ (.slice Ao27 t172.length co27)).setCell ⟨gb188, 2, none⟩ (.slice Ao28 t175.length co28)).setCell ⟨gb188, 3, none⟩ (.int .i64 t178)).setCell ⟨gb188, 4, none⟩ (.int .i64 t179)).setCell ⟨gb188, 5, none⟩ (.int .i64 t180)).setCell ⟨gb188, 6, none⟩ (.int .i64 t181)).setCell ⟨gb188, 7, none⟩ (.int .i64 t182)).setCell ⟨gb188, 8, none⟩ (.int .i64 t183)).setCell ⟨gb188, 9, none⟩ (.int .i64 t184)).setCell ⟨gb188, 10, none⟩ (.slice Ao29 t185.length co29)) = w38 at n0_ n1_ n2_ n3_ n4_ n5_ n6_ ⊢
      have HO174 := n0_
      have HO177 := n1_
      have HO187 := n2_
      have BK167 := n3_
      have BK168 := n4_
      have BK188 := n5_
      have HB := n6_
      clear n0_ n1_ n2_ n3_ n4_ n5_ n6_
      have n0_ := yc (Kd.R_drew HO174.out)
      have n1_ := yc (Kd.R_drew HO177.out)
      have n2_ := yc (Kd.S_drew HO187.out)
      have n3_ := yc (yj BK167.out)
      have n4_ := yc (yj BK168.out)
      have n5_ := yc (yj BK188.out)
      have n6_ := yc (yf HB.out)
      clear HO174
      clear HO177
      clear HO187
      clear BK167
      clear BK168
      clear BK188
      clear HB
      have HO174 := n0_
      have HO177 := n1_
      have HO187 := n2_
      have BK167 := n3_
      have BK168 := n4_
      have BK188 := n5_
      have HB := n6_
      clear n0_ n1_ n2_ n3_ n4_ n5_ n6_
      refine start_ (n := 13) (S := fun w' => w'.cell? ⟨gb167, 0, none⟩ = some (.int .i64 a0_0) ∧ w'.cell? ⟨gb167, 1, none⟩ = some (.slice A0_1 l0_1.length c0_1) ∧ w'.cell? ⟨gb167, 2, none⟩ = some (.slice A0_2 l0_2.length c0_2) ∧ w'.cell? ⟨gb167, 3, none⟩ = some (.int .i64 a0_3) ∧ w'.cell? ⟨gb167, 4, none⟩ = some (.int .i64 a0_4) ∧ w'.cell? ⟨gb167, 5, none⟩ = some (.int .i64 a0_5) ∧ w'.cell? ⟨gb167, 6, none⟩ = some (.int .i64 a0_6) ∧ w'.cell? ⟨gb167, 7, none⟩ = some (.int .i64 a0_7) ∧ w'.cell? ⟨gb167, 8, none⟩ = some (.int .i64 a0_8) ∧ w'.cell? ⟨gb167, 9, none⟩ = some (.int .i64 a0_9) ∧ w'.cell? ⟨gb167, 10, none⟩ = some (.slice A0_10 l0_10.length c0_10) ∧ w'.cell? ⟨gb168, 0, none⟩ = some (.int .i64 a1_0) ∧ w'.cell? ⟨gb168, 1, none⟩ = some (.slice A1_1 l1_1.length c1_1) ∧ w'.cell? ⟨gb168, 2, none⟩ = some (.slice A1_2 l1_2.length c1_2) ∧ w'.cell? ⟨gb168, 3, none⟩ = some (.int .i64 a1_3) ∧ w'.cell? ⟨gb168, 4, none⟩ = some (.int .i64 a1_4) ∧ w'.cell? ⟨gb168, 5, none⟩ = some (.int .i64 a1_5) ∧ w'.cell? ⟨gb168, 6, none⟩ = some (.int .i64 a1_6) ∧ w'.cell? ⟨gb168, 7, none⟩ = some (.int .i64 a1_7) ∧ w'.cell? ⟨gb168, 8, none⟩ = some (.int .i64 a1_8) ∧ w'.cell? ⟨gb168, 9, none⟩ = some (.int .i64 a1_9) ∧ w'.cell? ⟨gb168, 10, none⟩ = some (.slice A1_10 l1_10.length c1_10) ∧ w'.cell? ⟨gb188, 0, none⟩ = some (.int .i64 t171) ∧ w'.cell? ⟨gb188, 1, none⟩ = some (.slice Ao27 t172.length co27) ∧ w'.cell? ⟨gb188, 2, none⟩ = some (.slice Ao28 t175.length co28) ∧ w'.cell? ⟨gb188, 3, none⟩ = some (.int .i64 t178) ∧ w'.cell? ⟨gb188, 4, none⟩ = some (.int .i64 t179) ∧ w'.cell? ⟨gb188, 5, none⟩ = some (.int .i64 t180) ∧ w'.cell? ⟨gb188, 6, none⟩ = some (.int .i64 t181) ∧ w'.cell? ⟨gb188, 7, none⟩ = some (.int .i64 t182) ∧ w'.cell? ⟨gb188, 8, none⟩ = some (.int .i64 t183) ∧ w'.cell? ⟨gb188, 9, none⟩ = some (.int .i64 t184) ∧ w'.cell? ⟨gb188, 10, none⟩ = some (.slice Ao29 t185.length co29)) (ds := []) #[false, false, false, false, false, false, false, false, false, false, false, false, false] (by kernel_rfl) rfl rfl ⟨(ya BK167.out 0).trans rfl, (ya BK167.out 1).trans rfl, (ya BK167.out 2).trans rfl, (ya BK167.out 3).trans rfl, (ya BK167.out 4).trans rfl, (ya BK167.out 5).trans rfl, (ya BK167.out 6).trans rfl, (ya BK167.out 7).trans rfl, (ya BK167.out 8).trans rfl, (ya BK167.out 9).trans rfl, (ya BK167.out 10).trans rfl, (ya BK168.out 0).trans rfl, (ya BK168.out 1).trans rfl, (ya BK168.out 2).trans rfl, (ya BK168.out 3).trans rfl, (ya BK168.out 4).trans rfl, (ya BK168.out 5).trans rfl, (ya BK168.out 6).trans rfl, (ya BK168.out 7).trans rfl, (ya BK168.out 8).trans rfl, (ya BK168.out 9).trans rfl, (ya BK168.out 10).trans rfl, (ya BK188.out 0).trans rfl, (ya BK188.out 1).trans rfl, (ya BK188.out 2).trans rfl, (ya BK188.out 3).trans rfl, (ya BK188.out 4).trans rfl, (ya BK188.out 5).trans rfl, (ya BK188.out 6).trans rfl, (ya BK188.out 7).trans rfl, (ya BK188.out 8).trans rfl, (ya BK188.out 9).trans rfl, (ya BK188.out 10).trans rfl⟩ (fun hHeld => ?_); refine with_tabW outriderlaw17_JobCopies.tab4 outriderlaw17_JobCopies.bits4 (fun HT_ HW_ => ?_)
      generalize w38.drew = w39 at HO174 HO177 HO187 BK167 BK168 BK188 HB hHeld ⊢
      refine take_ (i := 0) (N := some 19) (v := ?_) (a' := ?_) #[true, false, false, false, false, false, false, false, false, false, false, false, false] rfl rfl (take_ofW HT_.out HW_.out (by kernel_rfl)) (fun _ _ _ h => h) (Or.inl ⟨by rfl, ?_⟩) hHeld ?_ ?_
      rotate_left
      ·rintro w' ⟨s0, s1, s2, s3, s4, s5, s6, s7, s8, s9, s10, s11, s12, s13, s14, s15, s16, s17, s18, s19, s20, s21, s22, s23, s24, s25, s26, s27, s28, s29, s30, s31, s32⟩
       go_simp
       with_reducible rfl
      rotate_left
      ·simp only [Act.put, List.setIfInBounds_toArray, List.set_cons_zero, List.set_cons_succ, i64_w, i32_w]
       rfl
      refine take_ (i := 1) (N := some 20) (v := ?_) (a' := ?_) #[true, true, false, false, false, false, false, false, false, false, false, false, false] rfl rfl (take_ofW HT_.out HW_.out (by kernel_rfl)) (fun _ _ _ h => h) (Or.inl ⟨by rfl, ?_⟩) hHeld ?_ ?_
      rotate_left
      ·rintro w' ⟨s0, s1, s2, s3, s4, s5, s6, s7, s8, s9, s10, s11, s12, s13, s14, s15, s16, s17, s18, s19, s20, s21, s22, s23, s24, s25, s26, s27, s28, s29, s30, s31, s32⟩
       go_simp
       with_reducible rfl
      rotate_left
      ·simp only [Act.put, List.setIfInBounds_toArray, List.set_cons_zero, List.set_cons_succ, i64_w, i32_w]
       rfl
      refine take_ (i := 3) (N := some 22) (v := ?_) (a' := ?_) #[true, true, false, true, false, false, false, false, false, false, false, false, false] rfl rfl (take_ofW HT_.out HW_.out (by kernel_rfl)) (fun _ _ _ h => h) (Or.inl ⟨by rfl, ?_⟩) hHeld ?_ ?_
      rotate_left
      ·rintro w' ⟨s0, s1, s2, s3, s4, s5, s6, s7, s8, s9, s10, s11, s12, s13, s14, s15, s16, s17, s18, s19, s20, s21, s22, s23, s24, s25, s26, s27, s28, s29, s30, s31, s32⟩
       go_simp
       with_reducible rfl
      rotate_left
      ·simp only [Act.put, List.setIfInBounds_toArray, List.set_cons_zero, List.set_cons_succ, i64_w, i32_w]
       rfl
      refine take_ (i := 4) (N := some 23) (v := ?_) (a' := ?_) #[true, true, false, true, true, false, false, false, false, false, false, false, false] rfl rfl (take_ofW HT_.out HW_.out (by kernel_rfl)) (fun _ _ _ h => h) (Or.inl ⟨by rfl, ?_⟩) hHeld ?_ ?_
      rotate_left
      ·rintro w' ⟨s0, s1, s2, s3, s4, s5, s6, s7, s8, s9, s10, s11, s12, s13, s14, s15, s16, s17, s18, s19, s20, s21, s22, s23, s24, s25, s26, s27, s28, s29, s30, s31, s32⟩
       go_simp
       with_reducible rfl
      rotate_left
      ·simp only [Act.put, List.setIfInBounds_toArray, List.set_cons_zero, List.set_cons_succ, i64_w, i32_w]
       rfl
      refine one_ (i := 2) (N := some 21) #[true, true, true, true, true, false, false, false, false, false, false, false, false] rfl rfl (one_of HT_.out (by kernel_rfl)) (by decide) (fun K hK => ?_)
      refine goes_ Tryz.func25 (by kernel_rfl) rfl #[.agg #[.int .i64 a0_0, .slice A0_1 l0_1.length c0_1, .slice A0_2 l0_2.length c0_2, .int .i64 a0_3, .int .i64 a0_4, .int .i64 a0_5, .int .i64 a0_6, .int .i64 a0_7, .int .i64 a0_8, .int .i64 a0_9, .slice A0_10 l0_10.length c0_10], .agg #[.int .i64 a1_0, .slice A1_1 l1_1.length c1_1, .slice A1_2 l1_2.length c1_2, .int .i64 a1_3, .int .i64 a1_4, .int .i64 a1_5, .int .i64 a1_6, .int .i64 a1_7, .int .i64 a1_8, .int .i64 a1_9, .slice A1_10 l1_10.length c1_10]] (by rfl) rfl rfl (by (try simp only [List.map_toArray, List.map_cons, List.map_nil]); first | done | rfl | (simp only [List.length_drop, List.length_take]; rfl)) ?_
      with_reducible refine (job_Same.calls kj2 a0_0 _ _ l0_1 _ _ l0_2 a0_3 a0_4 a0_5 a0_6 a0_7 a0_8 a0_9 _ _ l0_10 a1_0 _ _ l1_1 _ _ l1_2 a1_3 a1_4 a1_5 a1_6 a1_7 a1_8 a1_9 _ _ l1_10 t189 _ ?side1 ?side2 ?side3 ?side4 ?side5 ?side6 ?side7 ?side8 ?side9 ?side10 ?side11 ?side12 A30.out).mono ?_
      (case side1 => repeat (first | exact (Kd.C_below HR0_1.out HB.out) | (with_reducible refine Kd.C_alloc ?_ _) | (with_reducible refine Kd.C_drewN ?_ _) | (with_reducible refine Kd.C_drew ?_)))
      (case side2 => exact HC0_1.out)
      (case side3 => repeat (first | exact (Kd.C_below HR0_2.out HB.out) | (with_reducible refine Kd.C_alloc ?_ _) | (with_reducible refine Kd.C_drewN ?_ _) | (with_reducible refine Kd.C_drew ?_)))
      (case side4 => exact HC0_2.out)
      (case side5 => repeat (first | exact (Kd.C_below HR0_10.out HB.out) | (with_reducible refine Kd.C_alloc ?_ _) | (with_reducible refine Kd.C_drewN ?_ _) | (with_reducible refine Kd.C_drew ?_)))
      (case side6 => exact HC0_10.out)
      (case side7 => repeat (first | exact (Kd.C_below HR1_1.out HB.out) | (with_reducible refine Kd.C_alloc ?_ _) | (with_reducible refine Kd.C_drewN ?_ _) | (with_reducible refine Kd.C_drew ?_)))
      (case side8 => exact HC1_1.out)
      (case side9 => repeat (first | exact (Kd.C_below HR1_2.out HB.out) | (with_reducible refine Kd.C_alloc ?_ _) | (with_reducible refine Kd.C_drewN ?_ _) | (with_reducible refine Kd.C_drew ?_)))
      (case side10 => exact HC1_2.out)
      (case side11 => repeat (first | exact (Kd.C_below HR1_10.out HB.out) | (with_reducible refine Kd.C_alloc ?_ _) | (with_reducible refine Kd.C_drewN ?_ _) | (with_reducible refine Kd.C_drew ?_)))
      (case side12 => exact HC1_10.out)
      rintro e w40 ⟨rfl, hb⟩
      refine ⟨_, rfl, ?_⟩
      have n0_ := yc (Kd.R_below (by (with_reducible repeat (first | apply Kd.R_alloc | apply Kd.R_drewN | apply Kd.R_drew)); exact HO174.out) hb)
      have n1_ := yc (Kd.R_below (by (with_reducible repeat (first | apply Kd.R_alloc | apply Kd.R_drewN | apply Kd.R_drew)); exact HO177.out) hb)
      have n2_ := yc (Kd.S_below (by (with_reducible repeat (first | apply Kd.S_alloc | apply Kd.S_drewN | apply Kd.S_drew)); exact HO187.out) hb)
      have n3_ := yc (blk_below (g := gb167) (o := .cells #[.int .i64 a0_0, .slice A0_1 l0_1.length c0_1, .slice A0_2 l0_2.length c0_2, .int .i64 a0_3, .int .i64 a0_4, .int .i64 a0_5, .int .i64 a0_6, .int .i64 a0_7, .int .i64 a0_8, .int .i64 a0_9, .slice A0_10 l0_10.length c0_10] 29 (0, 0)) (by (with_reducible repeat (first | refine yh ?_ _ | refine yj ?_ | refine yi ?_ _)); exact BK167.out) hb)
      have n4_ := yc (blk_below (g := gb168) (o := .cells #[.int .i64 a1_0, .slice A1_1 l1_1.length c1_1, .slice A1_2 l1_2.length c1_2, .int .i64 a1_3, .int .i64 a1_4, .int .i64 a1_5, .int .i64 a1_6, .int .i64 a1_7, .int .i64 a1_8, .int .i64 a1_9, .slice A1_10 l1_10.length c1_10] 29 (0, 0)) (by (with_reducible repeat (first | refine yh ?_ _ | refine yj ?_ | refine yi ?_ _)); exact BK168.out) hb)
      have n5_ := yc (blk_below (g := gb188) (o := .cells #[.int .i64 t171, .slice Ao27 t172.length co27, .slice Ao28 t175.length co28, .int .i64 t178, .int .i64 t179, .int .i64 t180, .int .i64 t181, .int .i64 t182, .int .i64 t183, .int .i64 t184, .slice Ao29 t185.length co29] 29 (0, 0)) (by (with_reducible repeat (first | refine yh ?_ _ | refine yj ?_ | refine yi ?_ _)); exact BK188.out) hb)
      have n6_ := yc (below_step (by repeat (first | (with_reducible first | exact HB.out | apply yd | apply ye | apply yf | refine yg ?_ GE167.out | refine yg ?_ GE168.out | refine yg ?_ GE188.out) | exact HB.out)) hb)
      clear HO174
      clear HO177
      clear HO187
      clear BK167
      clear BK168
      clear BK188
      clear HB
      have HO174 := n0_
      have HO177 := n1_
      have HO187 := n2_
      have BK167 := n3_
      have BK168 := n4_
      have BK188 := n5_
      have HB := n6_
      clear n0_ n1_ n2_ n3_ n4_ n5_ n6_
      (try clear hb)
      (try clear hb2)
      (try clear hk)
      (try clear hi)
      refine hK.out _ _ ⟨(ya BK167.out 0).trans rfl, (ya BK167.out 1).trans rfl, (ya BK167.out 2).trans rfl, (ya BK167.out 3).trans rfl, (ya BK167.out 4).trans rfl, (ya BK167.out 5).trans rfl, (ya BK167.out 6).trans rfl, (ya BK167.out 7).trans rfl, (ya BK167.out 8).trans rfl, (ya BK167.out 9).trans rfl, (ya BK167.out 10).trans rfl, (ya BK168.out 0).trans rfl, (ya BK168.out 1).trans rfl, (ya BK168.out 2).trans rfl, (ya BK168.out 3).trans rfl, (ya BK168.out 4).trans rfl, (ya BK168.out 5).trans rfl, (ya BK168.out 6).trans rfl, (ya BK168.out 7).trans rfl, (ya BK168.out 8).trans rfl, (ya BK168.out 9).trans rfl, (ya BK168.out 10).trans rfl, (ya BK188.out 0).trans rfl, (ya BK188.out 1).trans rfl, (ya BK188.out 2).trans rfl, (ya BK188.out 3).trans rfl, (ya BK188.out 4).trans rfl, (ya BK188.out 5).trans rfl, (ya BK188.out 6).trans rfl, (ya BK188.out 7).trans rfl, (ya BK188.out 8).trans rfl, (ya BK188.out 9).trans rfl, (ya BK188.out 10).trans rfl⟩ (fun hHeld => ?_)
      clear hK K
      refine norm_ (a' := ?_) ?_ ?_
      rotate_left
      ·show Act.put _ (some 21) _ = _
       simp only [Act.put, List.setIfInBounds_toArray, List.set_cons_zero, List.set_cons_succ, i64_w, i32_w]
       rfl
      refine one_ (i := 5) (N := some 24) #[true, true, true, true, true, true, false, false, false, false, false, false, false] rfl rfl (one_of HT_.out (by kernel_rfl)) (by decide) (fun K hK => ?_)
      refine goes_ Tryz.func19 (by kernel_rfl) rfl #[.agg #[.int .i64 a0_0, .slice A0_1 l0_1.length c0_1, .slice A0_2 l0_2.length c0_2, .int .i64 a0_3, .int .i64 a0_4, .int .i64 a0_5, .int .i64 a0_6, .int .i64 a0_7, .int .i64 a0_8, .int .i64 a0_9, .slice A0_10 l0_10.length c0_10], .agg #[.int .i64 a1_0, .slice A1_1 l1_1.length c1_1, .slice A1_2 l1_2.length c1_2, .int .i64 a1_3, .int .i64 a1_4, .int .i64 a1_5, .int .i64 a1_6, .int .i64 a1_7, .int .i64 a1_8, .int .i64 a1_9, .slice A1_10 l1_10.length c1_10]] (by rfl) rfl rfl (by (try simp only [List.map_toArray, List.map_cons, List.map_nil]); first | done | rfl | (simp only [List.length_drop, List.length_take]; rfl)) ?_
      with_reducible refine (outriderref17_Same.calls kj2 a0_0 _ _ l0_1 _ _ l0_2 a0_3 a0_4 a0_5 a0_6 a0_7 a0_8 a0_9 _ _ l0_10 a1_0 _ _ l1_1 _ _ l1_2 a1_3 a1_4 a1_5 a1_6 a1_7 a1_8 a1_9 _ _ l1_10 t190 _ ?side1 ?side2 ?side3 ?side4 ?side5 ?side6 ?side7 ?side8 ?side9 ?side10 ?side11 ?side12 A31.out).mono ?_
      (case side1 => repeat (first | exact (Kd.C_below HR0_1.out HB.out) | (with_reducible refine Kd.C_alloc ?_ _) | (with_reducible refine Kd.C_drewN ?_ _) | (with_reducible refine Kd.C_drew ?_)))
      (case side2 => exact HC0_1.out)
      (case side3 => repeat (first | exact (Kd.C_below HR0_2.out HB.out) | (with_reducible refine Kd.C_alloc ?_ _) | (with_reducible refine Kd.C_drewN ?_ _) | (with_reducible refine Kd.C_drew ?_)))
      (case side4 => exact HC0_2.out)
      (case side5 => repeat (first | exact (Kd.C_below HR0_10.out HB.out) | (with_reducible refine Kd.C_alloc ?_ _) | (with_reducible refine Kd.C_drewN ?_ _) | (with_reducible refine Kd.C_drew ?_)))
      (case side6 => exact HC0_10.out)
      (case side7 => repeat (first | exact (Kd.C_below HR1_1.out HB.out) | (with_reducible refine Kd.C_alloc ?_ _) | (with_reducible refine Kd.C_drewN ?_ _) | (with_reducible refine Kd.C_drew ?_)))
      (case side8 => exact HC1_1.out)
      (case side9 => repeat (first | exact (Kd.C_below HR1_2.out HB.out) | (with_reducible refine Kd.C_alloc ?_ _) | (with_reducible refine Kd.C_drewN ?_ _) | (with_reducible refine Kd.C_drew ?_)))
      (case side10 => exact HC1_2.out)
      (case side11 => repeat (first | exact (Kd.C_below HR1_10.out HB.out) | (with_reducible refine Kd.C_alloc ?_ _) | (with_reducible refine Kd.C_drewN ?_ _) | (with_reducible refine Kd.C_drew ?_)))
      (case side12 => exact HC1_10.out)
      rintro e w41 ⟨rfl, hb⟩
      refine ⟨_, rfl, ?_⟩
      have n0_ := yc (Kd.R_below (by (with_reducible repeat (first | apply Kd.R_alloc | apply Kd.R_drewN | apply Kd.R_drew)); exact HO174.out) hb)
      have n1_ := yc (Kd.R_below (by (with_reducible repeat (first | apply Kd.R_alloc | apply Kd.R_drewN | apply Kd.R_drew)); exact HO177.out) hb)
      have n2_ := yc (Kd.S_below (by (with_reducible repeat (first | apply Kd.S_alloc | apply Kd.S_drewN | apply Kd.S_drew)); exact HO187.out) hb)
      have n3_ := yc (blk_below (g := gb167) (o := .cells #[.int .i64 a0_0, .slice A0_1 l0_1.length c0_1, .slice A0_2 l0_2.length c0_2, .int .i64 a0_3, .int .i64 a0_4, .int .i64 a0_5, .int .i64 a0_6, .int .i64 a0_7, .int .i64 a0_8, .int .i64 a0_9, .slice A0_10 l0_10.length c0_10] 29 (0, 0)) (by (with_reducible repeat (first | refine yh ?_ _ | refine yj ?_ | refine yi ?_ _)); exact BK167.out) hb)
      have n4_ := yc (blk_below (g := gb168) (o := .cells #[.int .i64 a1_0, .slice A1_1 l1_1.length c1_1, .slice A1_2 l1_2.length c1_2, .int .i64 a1_3, .int .i64 a1_4, .int .i64 a1_5, .int .i64 a1_6, .int .i64 a1_7, .int .i64 a1_8, .int .i64 a1_9, .slice A1_10 l1_10.length c1_10] 29 (0, 0)) (by (with_reducible repeat (first | refine yh ?_ _ | refine yj ?_ | refine yi ?_ _)); exact BK168.out) hb)
      have n5_ := yc (blk_below (g := gb188) (o := .cells #[.int .i64 t171, .slice Ao27 t172.length co27, .slice Ao28 t175.length co28, .int .i64 t178, .int .i64 t179, .int .i64 t180, .int .i64 t181, .int .i64 t182, .int .i64 t183, .int .i64 t184, .slice Ao29 t185.length co29] 29 (0, 0)) (by (with_reducible repeat (first | refine yh ?_ _ | refine yj ?_ | refine yi ?_ _)); exact BK188.out) hb)
      have n6_ := yc (below_step (by repeat (first | (with_reducible first | exact HB.out | apply yd | apply ye | apply yf | refine yg ?_ GE167.out | refine yg ?_ GE168.out | refine yg ?_ GE188.out) | exact HB.out)) hb)
      clear HO174
      clear HO177
      clear HO187
      clear BK167
      clear BK168
      clear BK188
      clear HB
      have HO174 := n0_
      have HO177 := n1_
      have HO187 := n2_
      have BK167 := n3_
      have BK168 := n4_
      have BK188 := n5_
      have HB := n6_
      clear n0_ n1_ n2_ n3_ n4_ n5_ n6_
      (try clear hb)
      (try clear hb2)
      (try clear hk)
      (try clear hi)
      refine hK.out _ _ ⟨(ya BK167.out 0).trans rfl, (ya BK167.out 1).trans rfl, (ya BK167.out 2).trans rfl, (ya BK167.out 3).trans rfl, (ya BK167.out 4).trans rfl, (ya BK167.out 5).trans rfl, (ya BK167.out 6).trans rfl, (ya BK167.out 7).trans rfl, (ya BK167.out 8).trans rfl, (ya BK167.out 9).trans rfl, (ya BK167.out 10).trans rfl, (ya BK168.out 0).trans rfl, (ya BK168.out 1).trans rfl, (ya BK168.out 2).trans rfl, (ya BK168.out 3).trans rfl, (ya BK168.out 4).trans rfl, (ya BK168.out 5).trans rfl, (ya BK168.out 6).trans rfl, (ya BK168.out 7).trans rfl, (ya BK168.out 8).trans rfl, (ya BK168.out 9).trans rfl, (ya BK168.out 10).trans rfl, (ya BK188.out 0).trans rfl, (ya BK188.out 1).trans rfl, (ya BK188.out 2).trans rfl, (ya BK188.out 3).trans rfl, (ya BK188.out 4).trans rfl, (ya BK188.out 5).trans rfl, (ya BK188.out 6).trans rfl, (ya BK188.out 7).trans rfl, (ya BK188.out 8).trans rfl, (ya BK188.out 9).trans rfl, (ya BK188.out 10).trans rfl⟩ (fun hHeld => ?_)
      clear hK K
      refine norm_ (a' := ?_) ?_ ?_
      rotate_left
      ·show Act.put _ (some 24) _ = _
       simp only [Act.put, List.setIfInBounds_toArray, List.set_cons_zero, List.set_cons_succ, i64_w, i32_w]
       rfl
      refine pure_ (i := 6) (N := some 25) (v := ?_) (a' := ?_) #[true, true, true, true, true, true, true, false, false, false, false, false, false] rfl rfl (any_of HT_.out (by kernel_rfl)) (fun _ _ _ h => h) (Or.inl ⟨by rfl, ?_⟩) ?_ ?_
      rotate_left
      ·intro w'
       go_simp
       with_reducible rfl
      rotate_left
      ·simp only [Act.put, List.setIfInBounds_toArray, List.set_cons_zero, List.set_cons_succ, i64_w, i32_w]
       rfl
      refine pure_ (i := 7) (N := some 26) (v := ?_) (a' := ?_) #[true, true, true, true, true, true, true, true, false, false, false, false, false] rfl rfl (any_of HT_.out (by kernel_rfl)) (fun _ _ _ h => h) (Or.inl ⟨by rfl, ?_⟩) ?_ ?_
      rotate_left
      ·intro w'
       go_simp
       with_reducible rfl
      rotate_left
      ·simp only [Act.put, List.setIfInBounds_toArray, List.set_cons_zero, List.set_cons_succ, i64_w, i32_w]
       rfl
      refine take_ (i := 8) (N := some 27) (v := ?_) (a' := ?_) #[true, true, true, true, true, true, true, true, true, false, false, false, false] rfl rfl (take_ofW HT_.out HW_.out (by kernel_rfl)) (fun _ _ _ h => h) (Or.inl ⟨by rfl, ?_⟩) hHeld ?_ ?_
      rotate_left
      ·rintro w' ⟨s0, s1, s2, s3, s4, s5, s6, s7, s8, s9, s10, s11, s12, s13, s14, s15, s16, s17, s18, s19, s20, s21, s22, s23, s24, s25, s26, s27, s28, s29, s30, s31, s32⟩
       go_simp
       with_reducible rfl
      rotate_left
      ·simp only [Act.put, List.setIfInBounds_toArray, List.set_cons_zero, List.set_cons_succ, i64_w, i32_w]
       rfl
      refine take_ (i := 9) (N := some 28) (v := ?_) (a' := ?_) #[true, true, true, true, true, true, true, true, true, true, false, false, false] rfl rfl (take_ofW HT_.out HW_.out (by kernel_rfl)) (fun _ _ _ h => h) (Or.inl ⟨by rfl, ?_⟩) hHeld ?_ ?_
      rotate_left
      ·rintro w' ⟨s0, s1, s2, s3, s4, s5, s6, s7, s8, s9, s10, s11, s12, s13, s14, s15, s16, s17, s18, s19, s20, s21, s22, s23, s24, s25, s26, s27, s28, s29, s30, s31, s32⟩
       go_simp
       with_reducible rfl
      rotate_left
      ·simp only [Act.put, List.setIfInBounds_toArray, List.set_cons_zero, List.set_cons_succ, i64_w, i32_w]
       rfl
      refine one_ (i := 10) (N := some 29) #[true, true, true, true, true, true, true, true, true, true, true, false, false] rfl rfl (one_of HT_.out (by kernel_rfl)) (by decide) (fun K hK => ?_)
      refine goes_ Tryz.func25 (by kernel_rfl) rfl #[.agg #[.int .i64 a0_0, .slice A0_1 l0_1.length c0_1, .slice A0_2 l0_2.length c0_2, .int .i64 a0_3, .int .i64 a0_4, .int .i64 a0_5, .int .i64 a0_6, .int .i64 a0_7, .int .i64 a0_8, .int .i64 a0_9, .slice A0_10 l0_10.length c0_10], .agg #[.int .i64 t171, .slice Ao27 t172.length co27, .slice Ao28 t175.length co28, .int .i64 t178, .int .i64 t179, .int .i64 t180, .int .i64 t181, .int .i64 t182, .int .i64 t183, .int .i64 t184, .slice Ao29 t185.length co29]] (by rfl) rfl rfl (by (try simp only [List.map_toArray, List.map_cons, List.map_nil]); first | done | rfl | (simp only [List.length_drop, List.length_take]; rfl)) ?_
      with_reducible refine (job_Same.calls kj2 a0_0 _ _ l0_1 _ _ l0_2 a0_3 a0_4 a0_5 a0_6 a0_7 a0_8 a0_9 _ _ l0_10 t171 _ _ t172 _ _ t175 t178 t179 t180 t181 t182 t183 t184 _ _ t185 t191 _ ?side1 ?side2 ?side3 ?side4 ?side5 ?side6 ?side7 ?side8 ?side9 ?side10 ?side11 ?side12 A37.out).mono ?_
      (case side1 => repeat (first | exact (Kd.C_below HR0_1.out HB.out) | (with_reducible refine Kd.C_alloc ?_ _) | (with_reducible refine Kd.C_drewN ?_ _) | (with_reducible refine Kd.C_drew ?_)))
      (case side2 => exact HC0_1.out)
      (case side3 => repeat (first | exact (Kd.C_below HR0_2.out HB.out) | (with_reducible refine Kd.C_alloc ?_ _) | (with_reducible refine Kd.C_drewN ?_ _) | (with_reducible refine Kd.C_drew ?_)))
      (case side4 => exact HC0_2.out)
      (case side5 => repeat (first | exact (Kd.C_below HR0_10.out HB.out) | (with_reducible refine Kd.C_alloc ?_ _) | (with_reducible refine Kd.C_drewN ?_ _) | (with_reducible refine Kd.C_drew ?_)))
      (case side6 => exact HC0_10.out)
      (case side7 => repeat (first | exact (Kd.R_reads' HO174.out).2.2 | (with_reducible refine Kd.C_alloc ?_ _) | (with_reducible refine Kd.C_drewN ?_ _) | (with_reducible refine Kd.C_drew ?_)))
      (case side8 => exact (Kd.R_reads' HO174.out).2.1)
      (case side9 => repeat (first | exact (Kd.R_reads' HO177.out).2.2 | (with_reducible refine Kd.C_alloc ?_ _) | (with_reducible refine Kd.C_drewN ?_ _) | (with_reducible refine Kd.C_drew ?_)))
      (case side10 => exact (Kd.R_reads' HO177.out).2.1)
      (case side11 => repeat (first | exact (Kd.S_reads' HO187.out).2.2 | (with_reducible refine Kd.C_alloc ?_ _) | (with_reducible refine Kd.C_drewN ?_ _) | (with_reducible refine Kd.C_drew ?_)))
      (case side12 => exact (Kd.S_reads' HO187.out).2.1)
      rintro e w42 ⟨rfl, hb⟩
      refine ⟨_, rfl, ?_⟩
      have n0_ := yc (Kd.R_below (by (with_reducible repeat (first | apply Kd.R_alloc | apply Kd.R_drewN | apply Kd.R_drew)); exact HO174.out) hb)
      have n1_ := yc (Kd.R_below (by (with_reducible repeat (first | apply Kd.R_alloc | apply Kd.R_drewN | apply Kd.R_drew)); exact HO177.out) hb)
      have n2_ := yc (Kd.S_below (by (with_reducible repeat (first | apply Kd.S_alloc | apply Kd.S_drewN | apply Kd.S_drew)); exact HO187.out) hb)
      have n3_ := yc (blk_below (g := gb167) (o := .cells #[.int .i64 a0_0, .slice A0_1 l0_1.length c0_1, .slice A0_2 l0_2.length c0_2, .int .i64 a0_3, .int .i64 a0_4, .int .i64 a0_5, .int .i64 a0_6, .int .i64 a0_7, .int .i64 a0_8, .int .i64 a0_9, .slice A0_10 l0_10.length c0_10] 29 (0, 0)) (by (with_reducible repeat (first | refine yh ?_ _ | refine yj ?_ | refine yi ?_ _)); exact BK167.out) hb)
      have n4_ := yc (blk_below (g := gb168) (o := .cells #[.int .i64 a1_0, .slice A1_1 l1_1.length c1_1, .slice A1_2 l1_2.length c1_2, .int .i64 a1_3, .int .i64 a1_4, .int .i64 a1_5, .int .i64 a1_6, .int .i64 a1_7, .int .i64 a1_8, .int .i64 a1_9, .slice A1_10 l1_10.length c1_10] 29 (0, 0)) (by (with_reducible repeat (first | refine yh ?_ _ | refine yj ?_ | refine yi ?_ _)); exact BK168.out) hb)
      have n5_ := yc (blk_below (g := gb188) (o := .cells #[.int .i64 t171, .slice Ao27 t172.length co27, .slice Ao28 t175.length co28, .int .i64 t178, .int .i64 t179, .int .i64 t180, .int .i64 t181, .int .i64 t182, .int .i64 t183, .int .i64 t184, .slice Ao29 t185.length co29] 29 (0, 0)) (by (with_reducible repeat (first | refine yh ?_ _ | refine yj ?_ | refine yi ?_ _)); exact BK188.out) hb)
      have n6_ := yc (below_step (by repeat (first | (with_reducible first | exact HB.out | apply yd | apply ye | apply yf | refine yg ?_ GE167.out | refine yg ?_ GE168.out | refine yg ?_ GE188.out) | exact HB.out)) hb)
      clear HO174
      clear HO177
      clear HO187
      clear BK167
      clear BK168
      clear BK188
      clear HB
      have HO174 := n0_
      have HO177 := n1_
      have HO187 := n2_
      have BK167 := n3_
      have BK168 := n4_
      have BK188 := n5_
      have HB := n6_
      clear n0_ n1_ n2_ n3_ n4_ n5_ n6_
      (try clear hb)
      (try clear hb2)
      (try clear hk)
      (try clear hi)
      refine hK.out _ _ ⟨(ya BK167.out 0).trans rfl, (ya BK167.out 1).trans rfl, (ya BK167.out 2).trans rfl, (ya BK167.out 3).trans rfl, (ya BK167.out 4).trans rfl, (ya BK167.out 5).trans rfl, (ya BK167.out 6).trans rfl, (ya BK167.out 7).trans rfl, (ya BK167.out 8).trans rfl, (ya BK167.out 9).trans rfl, (ya BK167.out 10).trans rfl, (ya BK168.out 0).trans rfl, (ya BK168.out 1).trans rfl, (ya BK168.out 2).trans rfl, (ya BK168.out 3).trans rfl, (ya BK168.out 4).trans rfl, (ya BK168.out 5).trans rfl, (ya BK168.out 6).trans rfl, (ya BK168.out 7).trans rfl, (ya BK168.out 8).trans rfl, (ya BK168.out 9).trans rfl, (ya BK168.out 10).trans rfl, (ya BK188.out 0).trans rfl, (ya BK188.out 1).trans rfl, (ya BK188.out 2).trans rfl, (ya BK188.out 3).trans rfl, (ya BK188.out 4).trans rfl, (ya BK188.out 5).trans rfl, (ya BK188.out 6).trans rfl, (ya BK188.out 7).trans rfl, (ya BK188.out 8).trans rfl, (ya BK188.out 9).trans rfl, (ya BK188.out 10).trans rfl⟩ (fun hHeld => ?_)
      clear hK K
      refine norm_ (a' := ?_) ?_ ?_
      rotate_left
      ·show Act.put _ (some 29) _ = _
       simp only [Act.put, List.setIfInBounds_toArray, List.set_cons_zero, List.set_cons_succ, i64_w, i32_w]
       rfl
      refine pure_ (i := 11) (N := some 30) (v := ?_) (a' := ?_) #[true, true, true, true, true, true, true, true, true, true, true, true, false] rfl rfl (any_of HT_.out (by kernel_rfl)) (fun _ _ _ h => h) (Or.inl ⟨by rfl, ?_⟩) ?_ ?_
      rotate_left
      ·intro w'
       go_simp
       with_reducible rfl
      rotate_left
      ·simp only [Act.put, List.setIfInBounds_toArray, List.set_cons_zero, List.set_cons_succ, i64_w, i32_w]
       rfl
      refine pure_ (i := 12) (N := some 31) (v := ?_) (a' := ?_) #[true, true, true, true, true, true, true, true, true, true, true, true, true] rfl rfl (any_of HT_.out (by kernel_rfl)) (fun _ _ _ h => h) (Or.inl ⟨by rfl, ?_⟩) ?_ ?_
      rotate_left
      ·intro w'
       go_simp
       with_reducible rfl
      rotate_left
      ·simp only [Act.put, List.setIfInBounds_toArray, List.set_cons_zero, List.set_cons_succ, i64_w, i32_w]
       rfl
      refine done_ (done_of HT_.out (by kernel_rfl)) ?_
      try go_wp2
      go_meet
      case rel => exact ⟨_, (!t191), (by first | rfl | (simp; done) | (simp [*]; done)), H', ⟨by have := HJ2.out; first | omega | exact Nat.le_refl _⟩, ⟨by (with_reducible repeat (first | apply Kd.R_alloc | apply Kd.R_drewN | apply Kd.R_drew)); exact HO174.out⟩, ⟨by (with_reducible repeat (first | apply Kd.R_alloc | apply Kd.R_drewN | apply Kd.R_drew)); exact HO177.out⟩, ⟨by (with_reducible repeat (first | apply Kd.S_alloc | apply Kd.S_drewN | apply Kd.S_drew)); exact HO187.out⟩, ⟨by (with_reducible repeat (first | refine yh ?_ _ | refine yj ?_ | refine yi ?_ _)); exact BK167.out⟩, ⟨by (with_reducible repeat (first | refine yh ?_ _ | refine yj ?_ | refine yi ?_ _)); exact BK168.out⟩, ⟨by (with_reducible repeat (first | refine yh ?_ _ | refine yj ?_ | refine yi ?_ _)); exact BK188.out⟩, ⟨by repeat (first | (with_reducible first | exact HB.out | apply yd | apply ye | apply yf | refine yg ?_ GE167.out | refine yg ?_ GE168.out | refine yg ?_ GE188.out) | exact HB.out)⟩⟩
    case rest =>
     clear HC19
     try clear c1; try clear c2; try clear p2; try clear c3; try clear c17; try clear c19; try clear c20; try clear c24; try clear c25; try clear c32; try clear c32b0; try clear c32b1; try clear c32b2; try clear hcz21_0; try clear hcz21_1; try clear hcz21_10; try clear hcz21_2; try clear hcz21_3; try clear hcz21_4; try clear hcz21_5; try clear hcz21_6; try clear hcz21_7; try clear hcz21_8; try clear hcz21_9; try clear hcz26_0; try clear hcz26_1; try clear hcz26_10; try clear hcz26_2; try clear hcz26_3; try clear hcz26_4; try clear hcz26_5; try clear hcz26_6; try clear hcz26_7; try clear hcz26_8; try clear hcz26_9; try clear hfz21_0; try clear hfz21_1; try clear hfz21_10; try clear hfz21_2; try clear hfz21_3; try clear hfz21_4; try clear hfz21_5; try clear hfz21_6; try clear hfz21_7; try clear hfz21_8; try clear hfz21_9; try clear hfz26_0; try clear hfz26_1; try clear hfz26_10; try clear hfz26_2; try clear hfz26_3; try clear hfz26_4; try clear hfz26_5; try clear hfz26_6; try clear hfz26_7; try clear hfz26_8; try clear hfz26_9
     obtain ⟨kq, x31_18, rfl, HA, HJ18, HO_189001, HO_189002, HO_189010, BK167, BK168, BK188, HB⟩ := hcut
     cases kq with
     | zero => exact absurd HA.out (by simp [outriderlaw17_JobCopies.j1])
     | succ kj18 =>
      have H := HA.out
      clear HA
      simp only [outriderlaw17_JobCopies.j1] at H
      by_cases c43 : x31_18 = true
      ·subst c43
       have H1 : (some false) = some true := by rw [if_pos rfl] at H; exact H
       clear H
       have H := H1
       clear H1
       cases H
      ·replace c43 := Bool.eq_false_iff.mpr c43
       subst c43
       have H1 : ((job_Copy.f kj18 a0_0 l0_1 l0_2 a0_3 a0_4 a0_5 a0_6 a0_7 a0_8 a0_9 l0_10).bind fun bt192 => ((outriderref17_Same.f kj18 bt192.1 bt192.2.1 bt192.2.2.1 bt192.2.2.2.1 bt192.2.2.2.2.1 bt192.2.2.2.2.2.1 bt192.2.2.2.2.2.2.1 bt192.2.2.2.2.2.2.2.1 bt192.2.2.2.2.2.2.2.2.1 bt192.2.2.2.2.2.2.2.2.2.1 bt192.2.2.2.2.2.2.2.2.2.2 t171 t172 t175 t178 t179 t180 t181 t182 t183 t184 t185).bind fun t210 => (if t210 = true then (outriderlaw17_JobCopies.l0 kj18 0 a0_0 l0_1 l0_2 a0_3 a0_4 a0_5 a0_6 a0_7 a0_8 a0_9 l0_10 t171 t172 t175 t178 t179 t180 t181 t182 t183 t184 t185 bt192.1 bt192.2.1 bt192.2.2.1 bt192.2.2.2.1 bt192.2.2.2.2.1 bt192.2.2.2.2.2.1 bt192.2.2.2.2.2.2.1 bt192.2.2.2.2.2.2.2.1 bt192.2.2.2.2.2.2.2.2.1 bt192.2.2.2.2.2.2.2.2.2.1 bt192.2.2.2.2.2.2.2.2.2.2) else (some false)))) = some true := by rw [if_neg (show ¬ (false = true) by decide)] at H; exact H
       clear H
       have H := H1
       clear H1
       replace H := Option.bind_eq_some_iff.mp H
       obtain ⟨⟨t192, t193, t196, t199, t200, t201, t202, t203, t204, t205, t206⟩, A440, H⟩ := H
       replace H : ((outriderref17_Same.f kj18 t192 t193 t196 t199 t200 t201 t202 t203 t204 t205 t206 t171 t172 t175 t178 t179 t180 t181 t182 t183 t184 t185).bind fun t210 => (if t210 = true then (outriderlaw17_JobCopies.l0 kj18 0 a0_0 l0_1 l0_2 a0_3 a0_4 a0_5 a0_6 a0_7 a0_8 a0_9 l0_10 t171 t172 t175 t178 t179 t180 t181 t182 t183 t184 t185 t192 t193 t196 t199 t200 t201 t202 t203 t204 t205 t206) else (some false))) = some true := H
       have A44 := yc A440
       clear A440
       replace H := Option.bind_eq_some_iff.mp H
       obtain ⟨t210, A450, H⟩ := H
       replace H : (if t210 = true then (outriderlaw17_JobCopies.l0 kj18 0 a0_0 l0_1 l0_2 a0_3 a0_4 a0_5 a0_6 a0_7 a0_8 a0_9 l0_10 t171 t172 t175 t178 t179 t180 t181 t182 t183 t184 t185 t192 t193 t196 t199 t200 t201 t202 t203 t204 t205 t206) else (some false)) = some true := H
       have A45 := yc A450
       clear A450
       by_cases c46 : t210 = true
       ·subst c46
        have H1 : (outriderlaw17_JobCopies.l0 kj18 0 a0_0 l0_1 l0_2 a0_3 a0_4 a0_5 a0_6 a0_7 a0_8 a0_9 l0_10 t171 t172 t175 t178 t179 t180 t181 t182 t183 t184 t185 t192 t193 t196 t199 t200 t201 t202 t203 t204 t205 t206) = some true := by rw [if_pos rfl] at H; exact H
        clear H
        have H := H1
        clear H1
        have H' := yc H
        clear H
        have hnb47 := NB167_168.out
        have hnc47 := NB168_167.out
        have hnb48 := NB167_188.out
        have hnc48 := NB188_167.out
        have hcz49_0 : wc.cell? ⟨gb167, 0, none⟩ = some (.int .i64 a0_0) := (ya BK167.out 0).trans rfl
        have hcz49_1 : wc.cell? ⟨gb167, 1, none⟩ = some (.slice A0_1 l0_1.length c0_1) := (ya BK167.out 1).trans rfl
        have hcz49_2 : wc.cell? ⟨gb167, 2, none⟩ = some (.slice A0_2 l0_2.length c0_2) := (ya BK167.out 2).trans rfl
        have hcz49_3 : wc.cell? ⟨gb167, 3, none⟩ = some (.int .i64 a0_3) := (ya BK167.out 3).trans rfl
        have hcz49_4 : wc.cell? ⟨gb167, 4, none⟩ = some (.int .i64 a0_4) := (ya BK167.out 4).trans rfl
        have hcz49_5 : wc.cell? ⟨gb167, 5, none⟩ = some (.int .i64 a0_5) := (ya BK167.out 5).trans rfl
        have hcz49_6 : wc.cell? ⟨gb167, 6, none⟩ = some (.int .i64 a0_6) := (ya BK167.out 6).trans rfl
        have hcz49_7 : wc.cell? ⟨gb167, 7, none⟩ = some (.int .i64 a0_7) := (ya BK167.out 7).trans rfl
        have hcz49_8 : wc.cell? ⟨gb167, 8, none⟩ = some (.int .i64 a0_8) := (ya BK167.out 8).trans rfl
        have hcz49_9 : wc.cell? ⟨gb167, 9, none⟩ = some (.int .i64 a0_9) := (ya BK167.out 9).trans rfl
        have hcz49_10 : wc.cell? ⟨gb167, 10, none⟩ = some (.slice A0_10 l0_10.length c0_10) := (ya BK167.out 10).trans rfl
        have hfz49_0 := yb BK167.out 0
        have hfz49_1 := yb BK167.out 1
        have hfz49_2 := yb BK167.out 2
        have hfz49_3 := yb BK167.out 3
        have hfz49_4 := yb BK167.out 4
        have hfz49_5 := yb BK167.out 5
        have hfz49_6 := yb BK167.out 6
        have hfz49_7 := yb BK167.out 7
        have hfz49_8 := yb BK167.out 8
        have hfz49_9 := yb BK167.out 9
        have hfz49_10 := yb BK167.out 10
        go_wp2_with (first | ((with_reducible refine gate_callee (f := 26) rfl ?_); refine goesL_ (some 33) rfl rfl Tryz.func26 (by kernel_rfl) rfl #[.agg #[.int .i64 a0_0, .slice A0_1 l0_1.length c0_1, .slice A0_2 l0_2.length c0_2, .int .i64 a0_3, .int .i64 a0_4, .int .i64 a0_5, .int .i64 a0_6, .int .i64 a0_7, .int .i64 a0_8, .int .i64 a0_9, .slice A0_10 l0_10.length c0_10]] rfl (by (try simp only [List.map_toArray, List.map_cons, List.map_nil]); first | done | rfl | (simp only [List.length_drop, List.length_take]; rfl)) ?_; (with_reducible refine (job_Copy.calls kj18 a0_0 _ _ l0_1 _ _ l0_2 a0_3 a0_4 a0_5 a0_6 a0_7 a0_8 a0_9 _ _ l0_10 t192 t193 t196 t199 t200 t201 t202 t203 t204 t205 t206 _ ?side1 ?side2 ?side3 ?side4 ?side5 ?side6 A44.out).mono ?_); (case side1 => repeat (first | exact (Kd.C_below HR0_1.out HB.out) | (with_reducible refine Kd.C_alloc ?_ _) | (with_reducible refine Kd.C_drewN ?_ _) | (with_reducible refine Kd.C_drew ?_))); (case side2 => exact HC0_1.out); (case side3 => repeat (first | exact (Kd.C_below HR0_2.out HB.out) | (with_reducible refine Kd.C_alloc ?_ _) | (with_reducible refine Kd.C_drewN ?_ _) | (with_reducible refine Kd.C_drew ?_))); (case side4 => exact HC0_2.out); (case side5 => repeat (first | exact (Kd.C_below HR0_10.out HB.out) | (with_reducible refine Kd.C_alloc ?_ _) | (with_reducible refine Kd.C_drewN ?_ _) | (with_reducible refine Kd.C_drew ?_))); (case side6 => exact HC0_10.out); rintro e w50 ⟨v194, v197, v207, rfl, ho0, ho1, ho2, hb⟩; refine ⟨_, rfl, ?_⟩; obtain ⟨NB, hNB1, hNB2⟩ := sepN HO_189010.out ho2 hb; have n0_ := yc (Kd.R_elder' (by (with_reducible repeat (first | apply Kd.R_alloc | apply Kd.R_drewN | apply Kd.R_drew)); exact HO_189001.out) (Kd.R_base ho0) hb); have n1_ := yc (Kd.R_elder' (by (with_reducible repeat (first | apply Kd.R_alloc | apply Kd.R_drewN | apply Kd.R_drew)); exact HO_189002.out) (Kd.R_base ho1) hb); have n2_ := yc hNB1; have n3_ := yc (Kd.R_lower (Kd.R_new' ho0 (Kd.R_lt (by (with_reducible repeat (first | apply Kd.R_alloc | apply Kd.R_drewN | apply Kd.R_drew)); exact HO_189001.out))) (below_size (by repeat (first | (with_reducible first | exact HB.out | apply yd | apply ye | apply yf | refine yg ?_ GE167.out | refine yg ?_ GE168.out | refine yg ?_ GE188.out) | exact HB.out)))); have n4_ := yc (Kd.R_lower (Kd.R_new' ho1 (Kd.R_lt (by (with_reducible repeat (first | apply Kd.R_alloc | apply Kd.R_drewN | apply Kd.R_drew)); exact HO_189002.out))) (below_size (by repeat (first | (with_reducible first | exact HB.out | apply yd | apply ye | apply yf | refine yg ?_ GE167.out | refine yg ?_ GE168.out | refine yg ?_ GE188.out) | exact HB.out)))); have n5_ := yc (Kd.S_lower hNB2 (below_size (by repeat (first | (with_reducible first | exact HB.out | apply yd | apply ye | apply yf | refine yg ?_ GE167.out | refine yg ?_ GE168.out | refine yg ?_ GE188.out) | exact HB.out)))); have n6_ := yc (blk_below (g := gb167) (o := .cells #[.int .i64 a0_0, .slice A0_1 l0_1.length c0_1, .slice A0_2 l0_2.length c0_2, .int .i64 a0_3, .int .i64 a0_4, .int .i64 a0_5, .int .i64 a0_6, .int .i64 a0_7, .int .i64 a0_8, .int .i64 a0_9, .slice A0_10 l0_10.length c0_10] 29 (0, 0)) (by (with_reducible repeat (first | refine yh ?_ _ | refine yj ?_ | refine yi ?_ _)); exact BK167.out) hb); have n7_ := yc (blk_below (g := gb168) (o := .cells #[.int .i64 a1_0, .slice A1_1 l1_1.length c1_1, .slice A1_2 l1_2.length c1_2, .int .i64 a1_3, .int .i64 a1_4, .int .i64 a1_5, .int .i64 a1_6, .int .i64 a1_7, .int .i64 a1_8, .int .i64 a1_9, .slice A1_10 l1_10.length c1_10] 29 (0, 0)) (by (with_reducible repeat (first | refine yh ?_ _ | refine yj ?_ | refine yi ?_ _)); exact BK168.out) hb); have n8_ := yc (blk_below (g := gb188) (o := .cells #[.int .i64 t171, .slice Ao27 t172.length co27, .slice Ao28 t175.length co28, .int .i64 t178, .int .i64 t179, .int .i64 t180, .int .i64 t181, .int .i64 t182, .int .i64 t183, .int .i64 t184, .slice Ao29 t185.length co29] 29 (0, 0)) (by (with_reducible repeat (first | refine yh ?_ _ | refine yj ?_ | refine yi ?_ _)); exact BK188.out) hb); have n9_ := yc (below_step (by repeat (first | (with_reducible first | exact HB.out | apply yd | apply ye | apply yf | refine yg ?_ GE167.out | refine yg ?_ GE168.out | refine yg ?_ GE188.out) | exact HB.out)) hb); clear hNB1 hNB2; clear HO_189001; clear HO_189002; clear HO_189010; clear BK167; clear BK168; clear BK188; clear HB; have HO_189001 := n0_; have HO_189002 := n1_; have HO_189010 := n2_; have HO195 := n3_; have HO198 := n4_; have HO208 := n5_; have BK167 := n6_; have BK168 := n7_; have BK188 := n8_; have HB := n9_; clear n0_ n1_ n2_ n3_ n4_ n5_ n6_ n7_ n8_ n9_; (try clear hb); (try clear hb2); (try clear hk); (try clear hi); (try clear ho0); (try clear ho1); (try clear ho2)) | ((with_reducible refine gate_dst (N := 6) rfl ?_); refine box_event ?hg (N := 6) ?hd (cs := #[.int .i64 0, .slice none 0 0, .slice none 0 0, .int .i64 0, .int .i64 0, .int .i64 0, .int .i64 0, .int .i64 0, .int .i64 0, .int .i64 0, .slice none 0 0]) (t := 29) ?hr ?_; (case hd => rfl); (case hg => rfl); (case hr => first | (go_simp; done) | (go_simp; rfl)); intro gb209 hg w51 hbox hb; have n0_ := yc (Kd.R_below (by (with_reducible repeat (first | apply Kd.R_alloc | apply Kd.R_drewN | apply Kd.R_drew)); exact HO_189001.out) hb); have n1_ := yc (Kd.R_below (by (with_reducible repeat (first | apply Kd.R_alloc | apply Kd.R_drewN | apply Kd.R_drew)); exact HO_189002.out) hb); have n2_ := yc (Kd.S_below (by (with_reducible repeat (first | apply Kd.S_alloc | apply Kd.S_drewN | apply Kd.S_drew)); exact HO_189010.out) hb); have n3_ := yc (Kd.R_below (by (with_reducible repeat (first | apply Kd.R_alloc | apply Kd.R_drewN | apply Kd.R_drew)); exact HO195.out) hb); have n4_ := yc (Kd.R_below (by (with_reducible repeat (first | apply Kd.R_alloc | apply Kd.R_drewN | apply Kd.R_drew)); exact HO198.out) hb); have n5_ := yc (Kd.S_below (by (with_reducible repeat (first | apply Kd.S_alloc | apply Kd.S_drewN | apply Kd.S_drew)); exact HO208.out) hb); have n6_ := yc (blk_below (g := gb167) (o := .cells #[.int .i64 a0_0, .slice A0_1 l0_1.length c0_1, .slice A0_2 l0_2.length c0_2, .int .i64 a0_3, .int .i64 a0_4, .int .i64 a0_5, .int .i64 a0_6, .int .i64 a0_7, .int .i64 a0_8, .int .i64 a0_9, .slice A0_10 l0_10.length c0_10] 29 (0, 0)) (by (with_reducible repeat (first | refine yh ?_ _ | refine yj ?_ | refine yi ?_ _)); exact BK167.out) hb); have n7_ := yc (blk_below (g := gb168) (o := .cells #[.int .i64 a1_0, .slice A1_1 l1_1.length c1_1, .slice A1_2 l1_2.length c1_2, .int .i64 a1_3, .int .i64 a1_4, .int .i64 a1_5, .int .i64 a1_6, .int .i64 a1_7, .int .i64 a1_8, .int .i64 a1_9, .slice A1_10 l1_10.length c1_10] 29 (0, 0)) (by (with_reducible repeat (first | refine yh ?_ _ | refine yj ?_ | refine yi ?_ _)); exact BK168.out) hb); have n8_ := yc (blk_below (g := gb188) (o := .cells #[.int .i64 t171, .slice Ao27 t172.length co27, .slice Ao28 t175.length co28, .int .i64 t178, .int .i64 t179, .int .i64 t180, .int .i64 t181, .int .i64 t182, .int .i64 t183, .int .i64 t184, .slice Ao29 t185.length co29] 29 (0, 0)) (by (with_reducible repeat (first | refine yh ?_ _ | refine yj ?_ | refine yi ?_ _)); exact BK188.out) hb); have n9_ := yc (below_step (by repeat (first | (with_reducible first | exact HB.out | apply yd | apply ye | apply yf | refine yg ?_ GE167.out | refine yg ?_ GE168.out | refine yg ?_ GE188.out) | exact HB.out)) hb); have n10_ := yc (hbox); have n11_ := yc ((by rw [hg]; exact (below_size (by repeat (first | (with_reducible first | exact HB.out | apply yd | apply ye | apply yf | refine yg ?_ GE167.out | refine yg ?_ GE168.out | refine yg ?_ GE188.out) | exact HB.out))) : w.heap.size ≤ gb209)); have n12_ := yc ((by rw [hg]; exact (below_size (by repeat (first | (with_reducible first | exact HB.out | apply yd | apply ye | apply yf | refine yg ?_ GE167.out | refine yg ?_ GE168.out | refine yg ?_ GE188.out) | exact HB.out))) : w.heap.size ≤ gb209)); have n13_ := yc ((by rw [hg]; exact Nat.ne_of_lt (blk_lt (g := gb167) (o := .cells #[.int .i64 a0_0, .slice A0_1 l0_1.length c0_1, .slice A0_2 l0_2.length c0_2, .int .i64 a0_3, .int .i64 a0_4, .int .i64 a0_5, .int .i64 a0_6, .int .i64 a0_7, .int .i64 a0_8, .int .i64 a0_9, .slice A0_10 l0_10.length c0_10] 29 (0, 0)) (by (with_reducible repeat (first | refine yh ?_ _ | refine yj ?_ | refine yi ?_ _)); exact BK167.out)) : gb167 ≠ gb209)); have n14_ := yc ((by rw [hg]; exact Nat.ne_of_gt (blk_lt (g := gb167) (o := .cells #[.int .i64 a0_0, .slice A0_1 l0_1.length c0_1, .slice A0_2 l0_2.length c0_2, .int .i64 a0_3, .int .i64 a0_4, .int .i64 a0_5, .int .i64 a0_6, .int .i64 a0_7, .int .i64 a0_8, .int .i64 a0_9, .slice A0_10 l0_10.length c0_10] 29 (0, 0)) (by (with_reducible repeat (first | refine yh ?_ _ | refine yj ?_ | refine yi ?_ _)); exact BK167.out)) : gb209 ≠ gb167)); have n15_ := yc ((by rw [hg]; exact Nat.ne_of_lt (blk_lt (g := gb168) (o := .cells #[.int .i64 a1_0, .slice A1_1 l1_1.length c1_1, .slice A1_2 l1_2.length c1_2, .int .i64 a1_3, .int .i64 a1_4, .int .i64 a1_5, .int .i64 a1_6, .int .i64 a1_7, .int .i64 a1_8, .int .i64 a1_9, .slice A1_10 l1_10.length c1_10] 29 (0, 0)) (by (with_reducible repeat (first | refine yh ?_ _ | refine yj ?_ | refine yi ?_ _)); exact BK168.out)) : gb168 ≠ gb209)); have n16_ := yc ((by rw [hg]; exact Nat.ne_of_gt (blk_lt (g := gb168) (o := .cells #[.int .i64 a1_0, .slice A1_1 l1_1.length c1_1, .slice A1_2 l1_2.length c1_2, .int .i64 a1_3, .int .i64 a1_4, .int .i64 a1_5, .int .i64 a1_6, .int .i64 a1_7, .int .i64 a1_8, .int .i64 a1_9, .slice A1_10 l1_10.length c1_10] 29 (0, 0)) (by (with_reducible repeat (first | refine yh ?_ _ | refine yj ?_ | refine yi ?_ _)); exact BK168.out)) : gb209 ≠ gb168)); have n17_ := yc ((by rw [hg]; exact Nat.ne_of_lt (blk_lt (g := gb188) (o := .cells #[.int .i64 t171, .slice Ao27 t172.length co27, .slice Ao28 t175.length co28, .int .i64 t178, .int .i64 t179, .int .i64 t180, .int .i64 t181, .int .i64 t182, .int .i64 t183, .int .i64 t184, .slice Ao29 t185.length co29] 29 (0, 0)) (by (with_reducible repeat (first | refine yh ?_ _ | refine yj ?_ | refine yi ?_ _)); exact BK188.out)) : gb188 ≠ gb209)); have n18_ := yc ((by rw [hg]; exact Nat.ne_of_gt (blk_lt (g := gb188) (o := .cells #[.int .i64 t171, .slice Ao27 t172.length co27, .slice Ao28 t175.length co28, .int .i64 t178, .int .i64 t179, .int .i64 t180, .int .i64 t181, .int .i64 t182, .int .i64 t183, .int .i64 t184, .slice Ao29 t185.length co29] 29 (0, 0)) (by (with_reducible repeat (first | refine yh ?_ _ | refine yj ?_ | refine yi ?_ _)); exact BK188.out)) : gb209 ≠ gb188)); clear HO_189001; clear HO_189002; clear HO_189010; clear HO195; clear HO198; clear HO208; clear BK167; clear BK168; clear BK188; clear HB; have HO_189001 := n0_; have HO_189002 := n1_; have HO_189010 := n2_; have HO195 := n3_; have HO198 := n4_; have HO208 := n5_; have BK167 := n6_; have BK168 := n7_; have BK188 := n8_; have HB := n9_; have BK209 := n10_; have GW209 := n11_; have GE209 := n12_; have NB167_209 := n13_; have NB209_167 := n14_; have NB168_209 := n15_; have NB209_168 := n16_; have NB188_209 := n17_; have NB209_188 := n18_; clear n0_ n1_ n2_ n3_ n4_ n5_ n6_ n7_ n8_ n9_ n10_ n11_ n12_ n13_ n14_ n15_ n16_ n17_ n18_; clear hb hbox hg; have hnb52 := NB209_167.out; have hnc52 := NB167_209.out; have hnb53 := NB209_168.out; have hnc53 := NB168_209.out; have hnb54 := NB209_188.out; have hnc54 := NB188_209.out; have hcz55_0 : w51.cell? ⟨gb209, 0, none⟩ = some (.int .i64 0) := (ya BK209.out 0).trans rfl; have hcz55_1 : w51.cell? ⟨gb209, 1, none⟩ = some (.slice none 0 0) := (ya BK209.out 1).trans rfl; have hcz55_2 : w51.cell? ⟨gb209, 2, none⟩ = some (.slice none 0 0) := (ya BK209.out 2).trans rfl; have hcz55_3 : w51.cell? ⟨gb209, 3, none⟩ = some (.int .i64 0) := (ya BK209.out 3).trans rfl; have hcz55_4 : w51.cell? ⟨gb209, 4, none⟩ = some (.int .i64 0) := (ya BK209.out 4).trans rfl; have hcz55_5 : w51.cell? ⟨gb209, 5, none⟩ = some (.int .i64 0) := (ya BK209.out 5).trans rfl; have hcz55_6 : w51.cell? ⟨gb209, 6, none⟩ = some (.int .i64 0) := (ya BK209.out 6).trans rfl; have hcz55_7 : w51.cell? ⟨gb209, 7, none⟩ = some (.int .i64 0) := (ya BK209.out 7).trans rfl; have hcz55_8 : w51.cell? ⟨gb209, 8, none⟩ = some (.int .i64 0) := (ya BK209.out 8).trans rfl; have hcz55_9 : w51.cell? ⟨gb209, 9, none⟩ = some (.int .i64 0) := (ya BK209.out 9).trans rfl; have hcz55_10 : w51.cell? ⟨gb209, 10, none⟩ = some (.slice none 0 0) := (ya BK209.out 10).trans rfl; have hfz55_0 := yb BK209.out 0; have hfz55_1 := yb BK209.out 1; have hfz55_2 := yb BK209.out 2; have hfz55_3 := yb BK209.out 3; have hfz55_4 := yb BK209.out 4; have hfz55_5 := yb BK209.out 5; have hfz55_6 := yb BK209.out 6; have hfz55_7 := yb BK209.out 7; have hfz55_8 := yb BK209.out 8; have hfz55_9 := yb BK209.out 9; have hfz55_10 := yb BK209.out 10; obtain ⟨Ao56, co56, eo56⟩ := Kd.R_slice HO195.out; subst eo56; obtain ⟨Ao57, co57, eo57⟩ := Kd.R_slice HO198.out; subst eo57; obtain ⟨Ao58, co58, eo58⟩ := Kd.S_slice HO208.out; subst eo58; have hnb59 := NB188_168.out; have hnc59 := NB168_188.out; have hcz60_0 : w51.cell? ⟨gb188, 0, none⟩ = some (.int .i64 t171) := (ya BK188.out 0).trans rfl; have hcz60_1 : w51.cell? ⟨gb188, 1, none⟩ = some (.slice Ao27 t172.length co27) := (ya BK188.out 1).trans rfl; have hcz60_2 : w51.cell? ⟨gb188, 2, none⟩ = some (.slice Ao28 t175.length co28) := (ya BK188.out 2).trans rfl; have hcz60_3 : w51.cell? ⟨gb188, 3, none⟩ = some (.int .i64 t178) := (ya BK188.out 3).trans rfl; have hcz60_4 : w51.cell? ⟨gb188, 4, none⟩ = some (.int .i64 t179) := (ya BK188.out 4).trans rfl; have hcz60_5 : w51.cell? ⟨gb188, 5, none⟩ = some (.int .i64 t180) := (ya BK188.out 5).trans rfl; have hcz60_6 : w51.cell? ⟨gb188, 6, none⟩ = some (.int .i64 t181) := (ya BK188.out 6).trans rfl; have hcz60_7 : w51.cell? ⟨gb188, 7, none⟩ = some (.int .i64 t182) := (ya BK188.out 7).trans rfl; have hcz60_8 : w51.cell? ⟨gb188, 8, none⟩ = some (.int .i64 t183) := (ya BK188.out 8).trans rfl; have hcz60_9 : w51.cell? ⟨gb188, 9, none⟩ = some (.int .i64 t184) := (ya BK188.out 9).trans rfl; have hcz60_10 : w51.cell? ⟨gb188, 10, none⟩ = some (.slice Ao29 t185.length co29) := (ya BK188.out 10).trans rfl; have hfz60_0 := yb BK188.out 0; have hfz60_1 := yb BK188.out 1; have hfz60_2 := yb BK188.out 2; have hfz60_3 := yb BK188.out 3; have hfz60_4 := yb BK188.out 4; have hfz60_5 := yb BK188.out 5; have hfz60_6 := yb BK188.out 6; have hfz60_7 := yb BK188.out 7; have hfz60_8 := yb BK188.out 8; have hfz60_9 := yb BK188.out 9; have hfz60_10 := yb BK188.out 10) | ((with_reducible refine gate_callee (f := 19) rfl ?_); refine goesL_ (some 36) rfl rfl Tryz.func19 (by kernel_rfl) rfl #[.agg #[.int .i64 t192, .slice Ao56 t193.length co56, .slice Ao57 t196.length co57, .int .i64 t199, .int .i64 t200, .int .i64 t201, .int .i64 t202, .int .i64 t203, .int .i64 t204, .int .i64 t205, .slice Ao58 t206.length co58], .agg #[.int .i64 t171, .slice Ao27 t172.length co27, .slice Ao28 t175.length co28, .int .i64 t178, .int .i64 t179, .int .i64 t180, .int .i64 t181, .int .i64 t182, .int .i64 t183, .int .i64 t184, .slice Ao29 t185.length co29]] rfl (by (try simp only [List.map_toArray, List.map_cons, List.map_nil]); first | done | rfl | (simp only [List.length_drop, List.length_take]; rfl)) ?_; (with_reducible refine (outriderref17_Same.calls kj18 t192 _ _ t193 _ _ t196 t199 t200 t201 t202 t203 t204 t205 _ _ t206 t171 _ _ t172 _ _ t175 t178 t179 t180 t181 t182 t183 t184 _ _ t185 true _ ?side1 ?side2 ?side3 ?side4 ?side5 ?side6 ?side7 ?side8 ?side9 ?side10 ?side11 ?side12 A45.out).mono ?_); (case side1 => refine (Kd.R_reads' (e := 58) (base := w.heap.size) (ok := fun k_ => (True ∧ some k_ ≠ (.slice Ao27 t172.length co27 : Value).ownBlock)) (n := t193.length) (c := co56) ?_).2.2; exact (by (with_reducible repeat (first | apply Kd.R_alloc | apply Kd.R_drewN | apply Kd.R_drew)); exact (Kd.R_mono (Kd.R_far (p := ⟨gb209, 10, none⟩) (Kd.R_far (p := ⟨gb209, 9, none⟩) (Kd.R_far (p := ⟨gb209, 8, none⟩) (Kd.R_far (p := ⟨gb209, 7, none⟩) (Kd.R_far (p := ⟨gb209, 6, none⟩) (Kd.R_far (p := ⟨gb209, 5, none⟩) (Kd.R_far (p := ⟨gb209, 4, none⟩) (Kd.R_far (p := ⟨gb209, 3, none⟩) (Kd.R_far (p := ⟨gb209, 2, none⟩) (Kd.R_far (p := ⟨gb209, 1, none⟩) (Kd.R_far (p := ⟨gb209, 0, none⟩) (Kd.R_types HO195.out BK209.out (by decide)) (fun _ hk => hk.2) (.int .i64 t192)) (fun _ hk => hk.2) (.slice Ao56 t193.length co56)) (fun _ hk => hk.2) (.slice Ao57 t196.length co57)) (fun _ hk => hk.2) (.int .i64 t199)) (fun _ hk => hk.2) (.int .i64 t200)) (fun _ hk => hk.2) (.int .i64 t201)) (fun _ hk => hk.2) (.int .i64 t202)) (fun _ hk => hk.2) (.int .i64 t203)) (fun _ hk => hk.2) (.int .i64 t204)) (fun _ hk => hk.2) (.int .i64 t205)) (fun _ hk => hk.2) (.slice Ao58 t206.length co58)) (fun _ h_ => h_.1)))); (case side2 => exact (Kd.R_reads' HO195.out).2.1); (case side3 => refine (Kd.R_reads' (e := 61) (base := w.heap.size) (ok := fun k_ => (True ∧ some k_ ≠ (.slice Ao28 t175.length co28 : Value).ownBlock)) (n := t196.length) (c := co57) ?_).2.2; exact (by (with_reducible repeat (first | apply Kd.R_alloc | apply Kd.R_drewN | apply Kd.R_drew)); exact (Kd.R_mono (Kd.R_far (p := ⟨gb209, 10, none⟩) (Kd.R_far (p := ⟨gb209, 9, none⟩) (Kd.R_far (p := ⟨gb209, 8, none⟩) (Kd.R_far (p := ⟨gb209, 7, none⟩) (Kd.R_far (p := ⟨gb209, 6, none⟩) (Kd.R_far (p := ⟨gb209, 5, none⟩) (Kd.R_far (p := ⟨gb209, 4, none⟩) (Kd.R_far (p := ⟨gb209, 3, none⟩) (Kd.R_far (p := ⟨gb209, 2, none⟩) (Kd.R_far (p := ⟨gb209, 1, none⟩) (Kd.R_far (p := ⟨gb209, 0, none⟩) (Kd.R_types HO198.out BK209.out (by decide)) (fun _ hk => hk.2) (.int .i64 t192)) (fun _ hk => hk.2) (.slice Ao56 t193.length co56)) (fun _ hk => hk.2) (.slice Ao57 t196.length co57)) (fun _ hk => hk.2) (.int .i64 t199)) (fun _ hk => hk.2) (.int .i64 t200)) (fun _ hk => hk.2) (.int .i64 t201)) (fun _ hk => hk.2) (.int .i64 t202)) (fun _ hk => hk.2) (.int .i64 t203)) (fun _ hk => hk.2) (.int .i64 t204)) (fun _ hk => hk.2) (.int .i64 t205)) (fun _ hk => hk.2) (.slice Ao58 t206.length co58)) (fun _ h_ => h_.1)))); (case side4 => exact (Kd.R_reads' HO198.out).2.1); (case side5 => refine (Kd.S_reads' (e := 62) (base := w.heap.size) (ok := fun _ => True) (n := t206.length) (c := co58) ?_).2.2; exact (by (with_reducible repeat (first | apply Kd.S_alloc | apply Kd.S_drewN | apply Kd.S_drew)); exact (Kd.S_mono (Kd.S_far (p := ⟨gb209, 10, none⟩) (Kd.S_far (p := ⟨gb209, 9, none⟩) (Kd.S_far (p := ⟨gb209, 8, none⟩) (Kd.S_far (p := ⟨gb209, 7, none⟩) (Kd.S_far (p := ⟨gb209, 6, none⟩) (Kd.S_far (p := ⟨gb209, 5, none⟩) (Kd.S_far (p := ⟨gb209, 4, none⟩) (Kd.S_far (p := ⟨gb209, 3, none⟩) (Kd.S_far (p := ⟨gb209, 2, none⟩) (Kd.S_far (p := ⟨gb209, 1, none⟩) (Kd.S_far (p := ⟨gb209, 0, none⟩) (Kd.S_types HO208.out BK209.out (by decide)) (fun _ hk => hk.2) (.int .i64 t192)) (fun _ hk => hk.2) (.slice Ao56 t193.length co56)) (fun _ hk => hk.2) (.slice Ao57 t196.length co57)) (fun _ hk => hk.2) (.int .i64 t199)) (fun _ hk => hk.2) (.int .i64 t200)) (fun _ hk => hk.2) (.int .i64 t201)) (fun _ hk => hk.2) (.int .i64 t202)) (fun _ hk => hk.2) (.int .i64 t203)) (fun _ hk => hk.2) (.int .i64 t204)) (fun _ hk => hk.2) (.int .i64 t205)) (fun _ hk => hk.2) (.slice Ao58 t206.length co58)) (fun _ _ => trivial)))); (case side6 => exact (Kd.S_reads' HO208.out).2.1); (case side7 => refine (Kd.R_reads' (e := 58) (base := w.heap.size) (ok := fun k_ => (True ∧ some k_ ≠ (.slice Ao56 t193.length co56 : Value).ownBlock)) (n := t172.length) (c := co27) ?_).2.2; exact (by (with_reducible repeat (first | apply Kd.R_alloc | apply Kd.R_drewN | apply Kd.R_drew)); exact (Kd.R_mono (Kd.R_far (p := ⟨gb209, 10, none⟩) (Kd.R_far (p := ⟨gb209, 9, none⟩) (Kd.R_far (p := ⟨gb209, 8, none⟩) (Kd.R_far (p := ⟨gb209, 7, none⟩) (Kd.R_far (p := ⟨gb209, 6, none⟩) (Kd.R_far (p := ⟨gb209, 5, none⟩) (Kd.R_far (p := ⟨gb209, 4, none⟩) (Kd.R_far (p := ⟨gb209, 3, none⟩) (Kd.R_far (p := ⟨gb209, 2, none⟩) (Kd.R_far (p := ⟨gb209, 1, none⟩) (Kd.R_far (p := ⟨gb209, 0, none⟩) (Kd.R_types HO_189001.out BK209.out (by decide)) (fun _ hk => hk.2) (.int .i64 t192)) (fun _ hk => hk.2) (.slice Ao56 t193.length co56)) (fun _ hk => hk.2) (.slice Ao57 t196.length co57)) (fun _ hk => hk.2) (.int .i64 t199)) (fun _ hk => hk.2) (.int .i64 t200)) (fun _ hk => hk.2) (.int .i64 t201)) (fun _ hk => hk.2) (.int .i64 t202)) (fun _ hk => hk.2) (.int .i64 t203)) (fun _ hk => hk.2) (.int .i64 t204)) (fun _ hk => hk.2) (.int .i64 t205)) (fun _ hk => hk.2) (.slice Ao58 t206.length co58)) (fun _ h_ => h_.1)))); (case side8 => exact (Kd.R_reads' HO_189001.out).2.1); (case side9 => refine (Kd.R_reads' (e := 61) (base := w.heap.size) (ok := fun k_ => (True ∧ some k_ ≠ (.slice Ao57 t196.length co57 : Value).ownBlock)) (n := t175.length) (c := co28) ?_).2.2; exact (by (with_reducible repeat (first | apply Kd.R_alloc | apply Kd.R_drewN | apply Kd.R_drew)); exact (Kd.R_mono (Kd.R_far (p := ⟨gb209, 10, none⟩) (Kd.R_far (p := ⟨gb209, 9, none⟩) (Kd.R_far (p := ⟨gb209, 8, none⟩) (Kd.R_far (p := ⟨gb209, 7, none⟩) (Kd.R_far (p := ⟨gb209, 6, none⟩) (Kd.R_far (p := ⟨gb209, 5, none⟩) (Kd.R_far (p := ⟨gb209, 4, none⟩) (Kd.R_far (p := ⟨gb209, 3, none⟩) (Kd.R_far (p := ⟨gb209, 2, none⟩) (Kd.R_far (p := ⟨gb209, 1, none⟩) (Kd.R_far (p := ⟨gb209, 0, none⟩) (Kd.R_types HO_189002.out BK209.out (by decide)) (fun _ hk => hk.2) (.int .i64 t192)) (fun _ hk => hk.2) (.slice Ao56 t193.length co56)) (fun _ hk => hk.2) (.slice Ao57 t196.length co57)) (fun _ hk => hk.2) (.int .i64 t199)) (fun _ hk => hk.2) (.int .i64 t200)) (fun _ hk => hk.2) (.int .i64 t201)) (fun _ hk => hk.2) (.int .i64 t202)) (fun _ hk => hk.2) (.int .i64 t203)) (fun _ hk => hk.2) (.int .i64 t204)) (fun _ hk => hk.2) (.int .i64 t205)) (fun _ hk => hk.2) (.slice Ao58 t206.length co58)) (fun _ h_ => h_.1)))); (case side10 => exact (Kd.R_reads' HO_189002.out).2.1); (case side11 => refine (Kd.S_reads' (e := 62) (base := w.heap.size) (ok := fun _ => True) (n := t185.length) (c := co29) ?_).2.2; exact (by (with_reducible repeat (first | apply Kd.S_alloc | apply Kd.S_drewN | apply Kd.S_drew)); exact (Kd.S_mono (Kd.S_far (p := ⟨gb209, 10, none⟩) (Kd.S_far (p := ⟨gb209, 9, none⟩) (Kd.S_far (p := ⟨gb209, 8, none⟩) (Kd.S_far (p := ⟨gb209, 7, none⟩) (Kd.S_far (p := ⟨gb209, 6, none⟩) (Kd.S_far (p := ⟨gb209, 5, none⟩) (Kd.S_far (p := ⟨gb209, 4, none⟩) (Kd.S_far (p := ⟨gb209, 3, none⟩) (Kd.S_far (p := ⟨gb209, 2, none⟩) (Kd.S_far (p := ⟨gb209, 1, none⟩) (Kd.S_far (p := ⟨gb209, 0, none⟩) (Kd.S_types HO_189010.out BK209.out (by decide)) (fun _ hk => hk.2) (.int .i64 t192)) (fun _ hk => hk.2) (.slice Ao56 t193.length co56)) (fun _ hk => hk.2) (.slice Ao57 t196.length co57)) (fun _ hk => hk.2) (.int .i64 t199)) (fun _ hk => hk.2) (.int .i64 t200)) (fun _ hk => hk.2) (.int .i64 t201)) (fun _ hk => hk.2) (.int .i64 t202)) (fun _ hk => hk.2) (.int .i64 t203)) (fun _ hk => hk.2) (.int .i64 t204)) (fun _ hk => hk.2) (.int .i64 t205)) (fun _ hk => hk.2) (.slice Ao58 t206.length co58)) (fun _ _ => trivial)))); (case side12 => exact (Kd.S_reads' HO_189010.out).2.1); rintro e w61 ⟨rfl, hb⟩; refine ⟨_, rfl, ?_⟩; have n0_ := yc (Kd.R_below (by (with_reducible repeat (first | apply Kd.R_alloc | apply Kd.R_drewN | apply Kd.R_drew)); exact (Kd.R_mono (Kd.R_far (p := ⟨gb209, 10, none⟩) (Kd.R_far (p := ⟨gb209, 9, none⟩) (Kd.R_far (p := ⟨gb209, 8, none⟩) (Kd.R_far (p := ⟨gb209, 7, none⟩) (Kd.R_far (p := ⟨gb209, 6, none⟩) (Kd.R_far (p := ⟨gb209, 5, none⟩) (Kd.R_far (p := ⟨gb209, 4, none⟩) (Kd.R_far (p := ⟨gb209, 3, none⟩) (Kd.R_far (p := ⟨gb209, 2, none⟩) (Kd.R_far (p := ⟨gb209, 1, none⟩) (Kd.R_far (p := ⟨gb209, 0, none⟩) (Kd.R_types HO_189001.out BK209.out (by decide)) (fun _ hk => hk.2) (.int .i64 t192)) (fun _ hk => hk.2) (.slice Ao56 t193.length co56)) (fun _ hk => hk.2) (.slice Ao57 t196.length co57)) (fun _ hk => hk.2) (.int .i64 t199)) (fun _ hk => hk.2) (.int .i64 t200)) (fun _ hk => hk.2) (.int .i64 t201)) (fun _ hk => hk.2) (.int .i64 t202)) (fun _ hk => hk.2) (.int .i64 t203)) (fun _ hk => hk.2) (.int .i64 t204)) (fun _ hk => hk.2) (.int .i64 t205)) (fun _ hk => hk.2) (.slice Ao58 t206.length co58)) (fun _ h_ => h_.1))) hb); have n1_ := yc (Kd.R_below (by (with_reducible repeat (first | apply Kd.R_alloc | apply Kd.R_drewN | apply Kd.R_drew)); exact (Kd.R_mono (Kd.R_far (p := ⟨gb209, 10, none⟩) (Kd.R_far (p := ⟨gb209, 9, none⟩) (Kd.R_far (p := ⟨gb209, 8, none⟩) (Kd.R_far (p := ⟨gb209, 7, none⟩) (Kd.R_far (p := ⟨gb209, 6, none⟩) (Kd.R_far (p := ⟨gb209, 5, none⟩) (Kd.R_far (p := ⟨gb209, 4, none⟩) (Kd.R_far (p := ⟨gb209, 3, none⟩) (Kd.R_far (p := ⟨gb209, 2, none⟩) (Kd.R_far (p := ⟨gb209, 1, none⟩) (Kd.R_far (p := ⟨gb209, 0, none⟩) (Kd.R_types HO_189002.out BK209.out (by decide)) (fun _ hk => hk.2) (.int .i64 t192)) (fun _ hk => hk.2) (.slice Ao56 t193.length co56)) (fun _ hk => hk.2) (.slice Ao57 t196.length co57)) (fun _ hk => hk.2) (.int .i64 t199)) (fun _ hk => hk.2) (.int .i64 t200)) (fun _ hk => hk.2) (.int .i64 t201)) (fun _ hk => hk.2) (.int .i64 t202)) (fun _ hk => hk.2) (.int .i64 t203)) (fun _ hk => hk.2) (.int .i64 t204)) (fun _ hk => hk.2) (.int .i64 t205)) (fun _ hk => hk.2) (.slice Ao58 t206.length co58)) (fun _ h_ => h_.1))) hb); have n2_ := yc (Kd.S_below (by (with_reducible repeat (first | apply Kd.S_alloc | apply Kd.S_drewN | apply Kd.S_drew)); exact (Kd.S_mono (Kd.S_far (p := ⟨gb209, 10, none⟩) (Kd.S_far (p := ⟨gb209, 9, none⟩) (Kd.S_far (p := ⟨gb209, 8, none⟩) (Kd.S_far (p := ⟨gb209, 7, none⟩) (Kd.S_far (p := ⟨gb209, 6, none⟩) (Kd.S_far (p := ⟨gb209, 5, none⟩) (Kd.S_far (p := ⟨gb209, 4, none⟩) (Kd.S_far (p := ⟨gb209, 3, none⟩) (Kd.S_far (p := ⟨gb209, 2, none⟩) (Kd.S_far (p := ⟨gb209, 1, none⟩) (Kd.S_far (p := ⟨gb209, 0, none⟩) (Kd.S_types HO_189010.out BK209.out (by decide)) (fun _ hk => hk.2) (.int .i64 t192)) (fun _ hk => hk.2) (.slice Ao56 t193.length co56)) (fun _ hk => hk.2) (.slice Ao57 t196.length co57)) (fun _ hk => hk.2) (.int .i64 t199)) (fun _ hk => hk.2) (.int .i64 t200)) (fun _ hk => hk.2) (.int .i64 t201)) (fun _ hk => hk.2) (.int .i64 t202)) (fun _ hk => hk.2) (.int .i64 t203)) (fun _ hk => hk.2) (.int .i64 t204)) (fun _ hk => hk.2) (.int .i64 t205)) (fun _ hk => hk.2) (.slice Ao58 t206.length co58)) (fun _ h_ => h_.1))) hb); have n3_ := yc (Kd.R_below (by (with_reducible repeat (first | apply Kd.R_alloc | apply Kd.R_drewN | apply Kd.R_drew)); exact (Kd.R_mono (Kd.R_far (p := ⟨gb209, 10, none⟩) (Kd.R_far (p := ⟨gb209, 9, none⟩) (Kd.R_far (p := ⟨gb209, 8, none⟩) (Kd.R_far (p := ⟨gb209, 7, none⟩) (Kd.R_far (p := ⟨gb209, 6, none⟩) (Kd.R_far (p := ⟨gb209, 5, none⟩) (Kd.R_far (p := ⟨gb209, 4, none⟩) (Kd.R_far (p := ⟨gb209, 3, none⟩) (Kd.R_far (p := ⟨gb209, 2, none⟩) (Kd.R_far (p := ⟨gb209, 1, none⟩) (Kd.R_far (p := ⟨gb209, 0, none⟩) (Kd.R_types HO195.out BK209.out (by decide)) (fun _ hk => hk.2) (.int .i64 t192)) (fun _ hk => hk.2) (.slice Ao56 t193.length co56)) (fun _ hk => hk.2) (.slice Ao57 t196.length co57)) (fun _ hk => hk.2) (.int .i64 t199)) (fun _ hk => hk.2) (.int .i64 t200)) (fun _ hk => hk.2) (.int .i64 t201)) (fun _ hk => hk.2) (.int .i64 t202)) (fun _ hk => hk.2) (.int .i64 t203)) (fun _ hk => hk.2) (.int .i64 t204)) (fun _ hk => hk.2) (.int .i64 t205)) (fun _ hk => hk.2) (.slice Ao58 t206.length co58)) (fun _ h_ => h_.1))) hb); have n4_ := yc (Kd.R_below (by (with_reducible repeat (first | apply Kd.R_alloc | apply Kd.R_drewN | apply Kd.R_drew)); exact (Kd.R_mono (Kd.R_far (p := ⟨gb209, 10, none⟩) (Kd.R_far (p := ⟨gb209, 9, none⟩) (Kd.R_far (p := ⟨gb209, 8, none⟩) (Kd.R_far (p := ⟨gb209, 7, none⟩) (Kd.R_far (p := ⟨gb209, 6, none⟩) (Kd.R_far (p := ⟨gb209, 5, none⟩) (Kd.R_far (p := ⟨gb209, 4, none⟩) (Kd.R_far (p := ⟨gb209, 3, none⟩) (Kd.R_far (p := ⟨gb209, 2, none⟩) (Kd.R_far (p := ⟨gb209, 1, none⟩) (Kd.R_far (p := ⟨gb209, 0, none⟩) (Kd.R_types HO198.out BK209.out (by decide)) (fun _ hk => hk.2) (.int .i64 t192)) (fun _ hk => hk.2) (.slice Ao56 t193.length co56)) (fun _ hk => hk.2) (.slice Ao57 t196.length co57)) (fun _ hk => hk.2) (.int .i64 t199)) (fun _ hk => hk.2) (.int .i64 t200)) (fun _ hk => hk.2) (.int .i64 t201)) (fun _ hk => hk.2) (.int .i64 t202)) (fun _ hk => hk.2) (.int .i64 t203)) (fun _ hk => hk.2) (.int .i64 t204)) (fun _ hk => hk.2) (.int .i64 t205)) (fun _ hk => hk.2) (.slice Ao58 t206.length co58)) (fun _ h_ => h_.1))) hb); have n5_ := yc (Kd.S_below (by (with_reducible repeat (first | apply Kd.S_alloc | apply Kd.S_drewN | apply Kd.S_drew)); exact (Kd.S_mono (Kd.S_far (p := ⟨gb209, 10, none⟩) (Kd.S_far (p := ⟨gb209, 9, none⟩) (Kd.S_far (p := ⟨gb209, 8, none⟩) (Kd.S_far (p := ⟨gb209, 7, none⟩) (Kd.S_far (p := ⟨gb209, 6, none⟩) (Kd.S_far (p := ⟨gb209, 5, none⟩) (Kd.S_far (p := ⟨gb209, 4, none⟩) (Kd.S_far (p := ⟨gb209, 3, none⟩) (Kd.S_far (p := ⟨gb209, 2, none⟩) (Kd.S_far (p := ⟨gb209, 1, none⟩) (Kd.S_far (p := ⟨gb209, 0, none⟩) (Kd.S_types HO208.out BK209.out (by decide)) (fun _ hk => hk.2) (.int .i64 t192)) (fun _ hk => hk.2) (.slice Ao56 t193.length co56)) (fun _ hk => hk.2) (.slice Ao57 t196.length co57)) (fun _ hk => hk.2) (.int .i64 t199)) (fun _ hk => hk.2) (.int .i64 t200)) (fun _ hk => hk.2) (.int .i64 t201)) (fun _ hk => hk.2) (.int .i64 t202)) (fun _ hk => hk.2) (.int .i64 t203)) (fun _ hk => hk.2) (.int .i64 t204)) (fun _ hk => hk.2) (.int .i64 t205)) (fun _ hk => hk.2) (.slice Ao58 t206.length co58)) (fun _ h_ => h_.1))) hb); have n6_ := yc (blk_below (g := gb167) (o := .cells #[.int .i64 a0_0, .slice A0_1 l0_1.length c0_1, .slice A0_2 l0_2.length c0_2, .int .i64 a0_3, .int .i64 a0_4, .int .i64 a0_5, .int .i64 a0_6, .int .i64 a0_7, .int .i64 a0_8, .int .i64 a0_9, .slice A0_10 l0_10.length c0_10] 29 (0, 0)) (by (with_reducible repeat (first | refine yh ?_ _ | refine yj ?_ | refine yi ?_ _)); refine blk_far ?_ NB167_209.out _; (with_reducible repeat (first | refine yh ?_ _ | refine yj ?_ | refine yi ?_ _)); refine blk_far ?_ NB167_209.out _; (with_reducible repeat (first | refine yh ?_ _ | refine yj ?_ | refine yi ?_ _)); refine blk_far ?_ NB167_209.out _; (with_reducible repeat (first | refine yh ?_ _ | refine yj ?_ | refine yi ?_ _)); refine blk_far ?_ NB167_209.out _; (with_reducible repeat (first | refine yh ?_ _ | refine yj ?_ | refine yi ?_ _)); refine blk_far ?_ NB167_209.out _; (with_reducible repeat (first | refine yh ?_ _ | refine yj ?_ | refine yi ?_ _)); refine blk_far ?_ NB167_209.out _; (with_reducible repeat (first | refine yh ?_ _ | refine yj ?_ | refine yi ?_ _)); refine blk_far ?_ NB167_209.out _; (with_reducible repeat (first | refine yh ?_ _ | refine yj ?_ | refine yi ?_ _)); refine blk_far ?_ NB167_209.out _; (with_reducible repeat (first | refine yh ?_ _ | refine yj ?_ | refine yi ?_ _)); refine blk_far ?_ NB167_209.out _; (with_reducible repeat (first | refine yh ?_ _ | refine yj ?_ | refine yi ?_ _)); refine blk_far ?_ NB167_209.out _; (with_reducible repeat (first | refine yh ?_ _ | refine yj ?_ | refine yi ?_ _)); refine blk_far ?_ NB167_209.out _; (with_reducible repeat (first | refine yh ?_ _ | refine yj ?_ | refine yi ?_ _)); exact BK167.out) hb); have n7_ := yc (blk_below (g := gb168) (o := .cells #[.int .i64 a1_0, .slice A1_1 l1_1.length c1_1, .slice A1_2 l1_2.length c1_2, .int .i64 a1_3, .int .i64 a1_4, .int .i64 a1_5, .int .i64 a1_6, .int .i64 a1_7, .int .i64 a1_8, .int .i64 a1_9, .slice A1_10 l1_10.length c1_10] 29 (0, 0)) (by (with_reducible repeat (first | refine yh ?_ _ | refine yj ?_ | refine yi ?_ _)); refine blk_far ?_ NB168_209.out _; (with_reducible repeat (first | refine yh ?_ _ | refine yj ?_ | refine yi ?_ _)); refine blk_far ?_ NB168_209.out _; (with_reducible repeat (first | refine yh ?_ _ | refine yj ?_ | refine yi ?_ _)); refine blk_far ?_ NB168_209.out _; (with_reducible repeat (first | refine yh ?_ _ | refine yj ?_ | refine yi ?_ _)); refine blk_far ?_ NB168_209.out _; (with_reducible repeat (first | refine yh ?_ _ | refine yj ?_ | refine yi ?_ _)); refine blk_far ?_ NB168_209.out _; (with_reducible repeat (first | refine yh ?_ _ | refine yj ?_ | refine yi ?_ _)); refine blk_far ?_ NB168_209.out _; (with_reducible repeat (first | refine yh ?_ _ | refine yj ?_ | refine yi ?_ _)); refine blk_far ?_ NB168_209.out _; (with_reducible repeat (first | refine yh ?_ _ | refine yj ?_ | refine yi ?_ _)); refine blk_far ?_ NB168_209.out _; (with_reducible repeat (first | refine yh ?_ _ | refine yj ?_ | refine yi ?_ _)); refine blk_far ?_ NB168_209.out _; (with_reducible repeat (first | refine yh ?_ _ | refine yj ?_ | refine yi ?_ _)); refine blk_far ?_ NB168_209.out _; (with_reducible repeat (first | refine yh ?_ _ | refine yj ?_ | refine yi ?_ _)); refine blk_far ?_ NB168_209.out _; (with_reducible repeat (first | refine yh ?_ _ | refine yj ?_ | refine yi ?_ _)); exact BK168.out) hb); have n8_ := yc (blk_below (g := gb188) (o := .cells #[.int .i64 t171, .slice Ao27 t172.length co27, .slice Ao28 t175.length co28, .int .i64 t178, .int .i64 t179, .int .i64 t180, .int .i64 t181, .int .i64 t182, .int .i64 t183, .int .i64 t184, .slice Ao29 t185.length co29] 29 (0, 0)) (by (with_reducible repeat (first | refine yh ?_ _ | refine yj ?_ | refine yi ?_ _)); refine blk_far ?_ NB188_209.out _; (with_reducible repeat (first | refine yh ?_ _ | refine yj ?_ | refine yi ?_ _)); refine blk_far ?_ NB188_209.out _; (with_reducible repeat (first | refine yh ?_ _ | refine yj ?_ | refine yi ?_ _)); refine blk_far ?_ NB188_209.out _; (with_reducible repeat (first | refine yh ?_ _ | refine yj ?_ | refine yi ?_ _)); refine blk_far ?_ NB188_209.out _; (with_reducible repeat (first | refine yh ?_ _ | refine yj ?_ | refine yi ?_ _)); refine blk_far ?_ NB188_209.out _; (with_reducible repeat (first | refine yh ?_ _ | refine yj ?_ | refine yi ?_ _)); refine blk_far ?_ NB188_209.out _; (with_reducible repeat (first | refine yh ?_ _ | refine yj ?_ | refine yi ?_ _)); refine blk_far ?_ NB188_209.out _; (with_reducible repeat (first | refine yh ?_ _ | refine yj ?_ | refine yi ?_ _)); refine blk_far ?_ NB188_209.out _; (with_reducible repeat (first | refine yh ?_ _ | refine yj ?_ | refine yi ?_ _)); refine blk_far ?_ NB188_209.out _; (with_reducible repeat (first | refine yh ?_ _ | refine yj ?_ | refine yi ?_ _)); refine blk_far ?_ NB188_209.out _; (with_reducible repeat (first | refine yh ?_ _ | refine yj ?_ | refine yi ?_ _)); refine blk_far ?_ NB188_209.out _; (with_reducible repeat (first | refine yh ?_ _ | refine yj ?_ | refine yi ?_ _)); exact BK188.out) hb); have n9_ := yc (blk_below (g := gb209) (o := .cells #[.int .i64 t192, .slice Ao56 t193.length co56, .slice Ao57 t196.length co57, .int .i64 t199, .int .i64 t200, .int .i64 t201, .int .i64 t202, .int .i64 t203, .int .i64 t204, .int .i64 t205, .slice Ao58 t206.length co58] 29 (0, 0)) (by (with_reducible repeat (first | refine yh ?_ _ | refine yj ?_ | refine yi ?_ _)); refine blk_put (cs := #[.int .i64 t192, .slice Ao56 t193.length co56, .slice Ao57 t196.length co57, .int .i64 t199, .int .i64 t200, .int .i64 t201, .int .i64 t202, .int .i64 t203, .int .i64 t204, .int .i64 t205, .slice none 0 0]) ?_ 10 _ rfl; (with_reducible repeat (first | refine yh ?_ _ | refine yj ?_ | refine yi ?_ _)); refine blk_put (cs := #[.int .i64 t192, .slice Ao56 t193.length co56, .slice Ao57 t196.length co57, .int .i64 t199, .int .i64 t200, .int .i64 t201, .int .i64 t202, .int .i64 t203, .int .i64 t204, .int .i64 0, .slice none 0 0]) ?_ 9 _ rfl; (with_reducible repeat (first | refine yh ?_ _ | refine yj ?_ | refine yi ?_ _)); refine blk_put (cs := #[.int .i64 t192, .slice Ao56 t193.length co56, .slice Ao57 t196.length co57, .int .i64 t199, .int .i64 t200, .int .i64 t201, .int .i64 t202, .int .i64 t203, .int .i64 0, .int .i64 0, .slice none 0 0]) ?_ 8 _ rfl; (with_reducible repeat (first | refine yh ?_ _ | refine yj ?_ | refine yi ?_ _)); refine blk_put (cs := #[.int .i64 t192, .slice Ao56 t193.length co56, .slice Ao57 t196.length co57, .int .i64 t199, .int .i64 t200, .int .i64 t201, .int .i64 t202, .int .i64 0, .int .i64 0, .int .i64 0, .slice none 0 0]) ?_ 7 _ rfl; (with_reducible repeat (first | refine yh ?_ _ | refine yj ?_ | refine yi ?_ _)); refine blk_put (cs := #[.int .i64 t192, .slice Ao56 t193.length co56, .slice Ao57 t196.length co57, .int .i64 t199, .int .i64 t200, .int .i64 t201, .int .i64 0, .int .i64 0, .int .i64 0, .int .i64 0, .slice none 0 0]) ?_ 6 _ rfl; (with_reducible repeat (first | refine yh ?_ _ | refine yj ?_ | refine yi ?_ _)); refine blk_put (cs := #[.int .i64 t192, .slice Ao56 t193.length co56, .slice Ao57 t196.length co57, .int .i64 t199, .int .i64 t200, .int .i64 0, .int .i64 0, .int .i64 0, .int .i64 0, .int .i64 0, .slice none 0 0]) ?_ 5 _ rfl; (with_reducible repeat (first | refine yh ?_ _ | refine yj ?_ | refine yi ?_ _)); refine blk_put (cs := #[.int .i64 t192, .slice Ao56 t193.length co56, .slice Ao57 t196.length co57, .int .i64 t199, .int .i64 0, .int .i64 0, .int .i64 0, .int .i64 0, .int .i64 0, .int .i64 0, .slice none 0 0]) ?_ 4 _ rfl; (with_reducible repeat (first | refine yh ?_ _ | refine yj ?_ | refine yi ?_ _)); refine blk_put (cs := #[.int .i64 t192, .slice Ao56 t193.length co56, .slice Ao57 t196.length co57, .int .i64 0, .int .i64 0, .int .i64 0, .int .i64 0, .int .i64 0, .int .i64 0, .int .i64 0, .slice none 0 0]) ?_ 3 _ rfl; (with_reducible repeat (first | refine yh ?_ _ | refine yj ?_ | refine yi ?_ _)); refine blk_put (cs := #[.int .i64 t192, .slice Ao56 t193.length co56, .slice none 0 0, .int .i64 0, .int .i64 0, .int .i64 0, .int .i64 0, .int .i64 0, .int .i64 0, .int .i64 0, .slice none 0 0]) ?_ 2 _ rfl; (with_reducible repeat (first | refine yh ?_ _ | refine yj ?_ | refine yi ?_ _)); refine blk_put (cs := #[.int .i64 t192, .slice none 0 0, .slice none 0 0, .int .i64 0, .int .i64 0, .int .i64 0, .int .i64 0, .int .i64 0, .int .i64 0, .int .i64 0, .slice none 0 0]) ?_ 1 _ rfl; (with_reducible repeat (first | refine yh ?_ _ | refine yj ?_ | refine yi ?_ _)); refine blk_put (cs := #[.int .i64 0, .slice none 0 0, .slice none 0 0, .int .i64 0, .int .i64 0, .int .i64 0, .int .i64 0, .int .i64 0, .int .i64 0, .int .i64 0, .slice none 0 0]) ?_ 0 _ rfl; (with_reducible repeat (first | refine yh ?_ _ | refine yj ?_ | refine yi ?_ _)); exact BK209.out) hb); have n10_ := yc (below_step (by repeat (first | (with_reducible first | exact HB.out | apply yd | apply ye | apply yf | refine yg ?_ GE167.out | refine yg ?_ GE168.out | refine yg ?_ GE188.out | refine yg ?_ GE209.out) | exact HB.out)) hb); clear HO_189001; clear HO_189002; clear HO_189010; clear HO195; clear HO198; clear HO208; clear BK167; clear BK168; clear BK188; clear BK209; clear HB; have HO_189001 := n0_; have HO_189002 := n1_; have HO_189010 := n2_; have HO195 := n3_; have HO198 := n4_; have HO208 := n5_; have BK167 := n6_; have BK168 := n7_; have BK188 := n8_; have BK209 := n9_; have HB := n10_; clear n0_ n1_ n2_ n3_ n4_ n5_ n6_ n7_ n8_ n9_ n10_; (try clear hb); (try clear hb2); (try clear hk); (try clear hi)))
        go_loopg [7] kj18 (fun kq v7 w' => ∃ (x7_3 : Int) (x189001_3 : List (S58)) (x210001_3 : List (S58)) (u189001 : Value) (u210001 : Value), v7 = .int .i64 x7_3 ∧ Aside0 (outriderlaw17_JobCopies.l0 kq x7_3 a0_0 l0_1 l0_2 a0_3 a0_4 a0_5 a0_6 a0_7 a0_8 a0_9 l0_10 t171 x189001_3 t175 t178 t179 t180 t181 t182 t183 t184 t185 t192 x210001_3 t196 t199 t200 t201 t202 t203 t204 t205 t206 = some true) ∧ Aside0 (kq ≤ kj18) ∧ Aside0 (Kd.R k58 58 w' w.heap.size (fun k_ => some k_ ≠ (u210001 : Value).ownBlock) u189001 x189001_3) ∧ Aside0 (Kd.R k61 61 w' w.heap.size (fun k_ => some k_ ≠ ((.slice Ao57 t196.length co57) : Value).ownBlock) (.slice Ao28 t175.length co28) t175) ∧ Aside0 (Kd.S (Kd.slice 66 k66) 62 w' w.heap.size (fun k_ => some k_ ≠ ((.slice Ao58 t206.length co58) : Value).ownBlock ∧ k_ < NB) (.slice Ao29 t185.length co29) t185) ∧ Aside0 (Kd.R k58 58 w' w.heap.size (fun k_ => some k_ ≠ (u189001 : Value).ownBlock) u210001 x210001_3) ∧ Aside0 (Kd.R k61 61 w' w.heap.size (fun k_ => some k_ ≠ ((.slice Ao28 t175.length co28) : Value).ownBlock) (.slice Ao57 t196.length co57) t196) ∧ Aside0 (Kd.S (Kd.slice 66 k66) 62 w' w.heap.size (fun k_ => some k_ ≠ ((.slice Ao29 t185.length co29) : Value).ownBlock ∧ NB ≤ k_) (.slice Ao58 t206.length co58) t206) ∧ Aside0 (w'.heap[gb167]? = some (.cells #[.int .i64 a0_0, (.slice A0_1 l0_1.length c0_1), (.slice A0_2 l0_2.length c0_2), .int .i64 a0_3, .int .i64 a0_4, .int .i64 a0_5, .int .i64 a0_6, .int .i64 a0_7, .int .i64 a0_8, .int .i64 a0_9, (.slice A0_10 l0_10.length c0_10)] 29 (0, 0))) ∧ Aside0 (w'.heap[gb168]? = some (.cells #[.int .i64 a1_0, (.slice A1_1 l1_1.length c1_1), (.slice A1_2 l1_2.length c1_2), .int .i64 a1_3, .int .i64 a1_4, .int .i64 a1_5, .int .i64 a1_6, .int .i64 a1_7, .int .i64 a1_8, .int .i64 a1_9, (.slice A1_10 l1_10.length c1_10)] 29 (0, 0))) ∧ Aside0 (w'.heap[gb188]? = some (.cells #[.int .i64 t171, u189001, (.slice Ao28 t175.length co28), .int .i64 t178, .int .i64 t179, .int .i64 t180, .int .i64 t181, .int .i64 t182, .int .i64 t183, .int .i64 t184, (.slice Ao29 t185.length co29)] 29 (0, 0))) ∧ Aside0 (w'.heap[gb209]? = some (.cells #[.int .i64 t192, u210001, (.slice Ao57 t196.length co57), .int .i64 t199, .int .i64 t200, .int .i64 t201, .int .i64 t202, .int .i64 t203, .int .i64 t204, .int .i64 t205, (.slice Ao58 t206.length co58)] 29 (0, 0))) ∧ Aside0 (Below w.heap.size w w'))
        case atStart => exact ⟨(0), (t172), (t193), (.slice Ao27 t172.length co27), (.slice Ao56 t193.length co56), (by first | rfl | (simp; done) | (simp [*]; done)), H', ⟨Nat.le_refl _⟩, ⟨by (with_reducible repeat (first | apply Kd.R_alloc | apply Kd.R_drewN | apply Kd.R_drew)); exact Kd.R_mono HO_189001.out (fun _ hk => hk.2)⟩, ⟨by (with_reducible repeat (first | apply Kd.R_alloc | apply Kd.R_drewN | apply Kd.R_drew)); exact Kd.R_mono HO_189002.out (fun _ hk => hk.2)⟩, ⟨by (with_reducible repeat (first | apply Kd.S_alloc | apply Kd.S_drewN | apply Kd.S_drew)); exact Kd.S_mono HO_189010.out (fun _ hk => hk.2)⟩, ⟨by (with_reducible repeat (first | apply Kd.R_alloc | apply Kd.R_drewN | apply Kd.R_drew)); exact Kd.R_mono HO195.out (fun _ hk => hk.2)⟩, ⟨by (with_reducible repeat (first | apply Kd.R_alloc | apply Kd.R_drewN | apply Kd.R_drew)); exact Kd.R_mono HO198.out (fun _ hk => hk.2)⟩, ⟨by (with_reducible repeat (first | apply Kd.S_alloc | apply Kd.S_drewN | apply Kd.S_drew)); exact Kd.S_mono HO208.out (fun _ hk => hk.2)⟩, ⟨by (with_reducible repeat (first | refine yh ?_ _ | refine yj ?_ | refine yi ?_ _)); exact BK167.out⟩, ⟨by (with_reducible repeat (first | refine yh ?_ _ | refine yj ?_ | refine yi ?_ _)); exact BK168.out⟩, ⟨by (with_reducible repeat (first | refine yh ?_ _ | refine yj ?_ | refine yi ?_ _)); exact BK188.out⟩, ⟨by (with_reducible repeat (first | refine yh ?_ _ | refine yj ?_ | refine yi ?_ _)); exact BK209.out⟩, ⟨by repeat (first | (with_reducible first | exact HB.out | apply yd | apply ye | apply yf | refine yg ?_ GE167.out | refine yg ?_ GE168.out | refine yg ?_ GE188.out | refine yg ?_ GE209.out) | exact HB.out)⟩⟩
        case round =>
         clear H'
         try clear c1; try clear c2; try clear p2; try clear c3; try clear c4; try clear c5; try clear c17; try clear c19; try clear c20; try clear c24; try clear c25; try clear c26; try clear c32; try clear c32b0; try clear c32b1; try clear c32b2; try clear c43; try clear c46; try clear c47; try clear c48; try clear c52; try clear c53; try clear c54; try clear c59; try clear hcz21_0; try clear hcz21_1; try clear hcz21_10; try clear hcz21_2; try clear hcz21_3; try clear hcz21_4; try clear hcz21_5; try clear hcz21_6; try clear hcz21_7; try clear hcz21_8; try clear hcz21_9; try clear hcz26_0; try clear hcz26_1; try clear hcz26_10; try clear hcz26_2; try clear hcz26_3; try clear hcz26_4; try clear hcz26_5; try clear hcz26_6; try clear hcz26_7; try clear hcz26_8; try clear hcz26_9; try clear hcz49_0; try clear hcz49_1; try clear hcz49_10; try clear hcz49_2; try clear hcz49_3; try clear hcz49_4; try clear hcz49_5; try clear hcz49_6; try clear hcz49_7; try clear hcz49_8; try clear hcz49_9; try clear hcz55_0; try clear hcz55_1; try clear hcz55_10; try clear hcz55_2; try clear hcz55_3; try clear hcz55_4; try clear hcz55_5; try clear hcz55_6; try clear hcz55_7; try clear hcz55_8; try clear hcz55_9; try clear hcz60_0; try clear hcz60_1; try clear hcz60_10; try clear hcz60_2; try clear hcz60_3; try clear hcz60_4; try clear hcz60_5; try clear hcz60_6; try clear hcz60_7; try clear hcz60_8; try clear hcz60_9; try clear hfz21_0; try clear hfz21_1; try clear hfz21_10; try clear hfz21_2; try clear hfz21_3; try clear hfz21_4; try clear hfz21_5; try clear hfz21_6; try clear hfz21_7; try clear hfz21_8; try clear hfz21_9; try clear hfz26_0; try clear hfz26_1; try clear hfz26_10; try clear hfz26_2; try clear hfz26_3; try clear hfz26_4; try clear hfz26_5; try clear hfz26_6; try clear hfz26_7; try clear hfz26_8; try clear hfz26_9; try clear hfz49_0; try clear hfz49_1; try clear hfz49_10; try clear hfz49_2; try clear hfz49_3; try clear hfz49_4; try clear hfz49_5; try clear hfz49_6; try clear hfz49_7; try clear hfz49_8; try clear hfz49_9; try clear hfz55_0; try clear hfz55_1; try clear hfz55_10; try clear hfz55_2; try clear hfz55_3; try clear hfz55_4; try clear hfz55_5; try clear hfz55_6; try clear hfz55_7; try clear hfz55_8; try clear hfz55_9; try clear hfz60_0; try clear hfz60_1; try clear hfz60_10; try clear hfz60_2; try clear hfz60_3; try clear hfz60_4; try clear hfz60_5; try clear hfz60_6; try clear hfz60_7; try clear hfz60_8; try clear hfz60_9; try clear p2
         obtain ⟨x7_3, x189001_3, x210001_3, u189001, u210001, rfl, HA, HK3, HO_189001, HO_189002, HO_189010, HO_210001, HO_210002, HO_210010, BK167, BK168, BK188, BK209, HB⟩ := hrel
         cases gk with
         | zero => exact absurd HA.out (by simp [outriderlaw17_JobCopies.l0])
         | succ k3 =>
          have H := HA.out
          clear HA
          simp only [outriderlaw17_JobCopies.l0] at H
          by_cases c62 : x7_3 < (x210001_3.length : Int)
          ·rw [if_pos c62] at H
           have c62b0 : decide (x7_3 < (x210001_3.length : Int)) = true := decide_eq_true c62
           clear c62
           by_cases c63 : 0 ≤ x7_3
           ·rw [if_pos c63] at H
            have c63b0 : decide (0 ≤ x7_3) = true := decide_eq_true c63
            clear c63
            obtain ⟨y212, hy212⟩ : ∃ y_ : List (S58), y_ = (x210001_3.set (x7_3 : Int).toNat (⟨wrap64 (((rd_T58 x210001_3 x7_3).f0) + 1), (rd_T58 x210001_3 x7_3).f1⟩ : S58)) := ⟨_, rfl⟩
            replace H : (outriderlaw17_JobCopies.l0 k3 (wrap64 (x7_3 + 1)) a0_0 l0_1 l0_2 a0_3 a0_4 a0_5 a0_6 a0_7 a0_8 a0_9 l0_10 t171 x189001_3 t175 t178 t179 t180 t181 t182 t183 t184 t185 t192 y212 t196 t199 t200 t201 t202 t203 t204 t205 t206) = some true := by first | (rw [hy212]; with_reducible exact H) | (have H2_ := (Option.bind_some _ _).symm.trans H; rw [hy212]; with_reducible exact H2_) | (have H2_ := (Option.bind_some _ _).symm.trans H; with_reducible exact H2_) | with_reducible exact H | (rw [hy212]; exact H) | exact H
            have Ny212 := yc hy212
            clear hy212
            have H' := yc H
            clear H
            have hnb65 := NB209_167.out
            have hnc65 := NB167_209.out
            have hnb66 := NB209_168.out
            have hnc66 := NB168_209.out
            have hnb67 := NB209_188.out
            have hnc67 := NB188_209.out
            have hcz68_0 : wr.cell? ⟨gb209, 0, none⟩ = some (.int .i64 t192) := (ya BK209.out 0).trans rfl
            have hcz68_1 : wr.cell? ⟨gb209, 1, none⟩ = some (u210001) := (ya BK209.out 1).trans rfl
            have hcz68_2 : wr.cell? ⟨gb209, 2, none⟩ = some (.slice Ao57 t196.length co57) := (ya BK209.out 2).trans rfl
            have hcz68_3 : wr.cell? ⟨gb209, 3, none⟩ = some (.int .i64 t199) := (ya BK209.out 3).trans rfl
            have hcz68_4 : wr.cell? ⟨gb209, 4, none⟩ = some (.int .i64 t200) := (ya BK209.out 4).trans rfl
            have hcz68_5 : wr.cell? ⟨gb209, 5, none⟩ = some (.int .i64 t201) := (ya BK209.out 5).trans rfl
            have hcz68_6 : wr.cell? ⟨gb209, 6, none⟩ = some (.int .i64 t202) := (ya BK209.out 6).trans rfl
            have hcz68_7 : wr.cell? ⟨gb209, 7, none⟩ = some (.int .i64 t203) := (ya BK209.out 7).trans rfl
            have hcz68_8 : wr.cell? ⟨gb209, 8, none⟩ = some (.int .i64 t204) := (ya BK209.out 8).trans rfl
            have hcz68_9 : wr.cell? ⟨gb209, 9, none⟩ = some (.int .i64 t205) := (ya BK209.out 9).trans rfl
            have hcz68_10 : wr.cell? ⟨gb209, 10, none⟩ = some (.slice Ao58 t206.length co58) := (ya BK209.out 10).trans rfl
            have hfz68_0 := yb BK209.out 0
            have hfz68_1 := yb BK209.out 1
            have hfz68_2 := yb BK209.out 2
            have hfz68_3 := yb BK209.out 3
            have hfz68_4 := yb BK209.out 4
            have hfz68_5 := yb BK209.out 5
            have hfz68_6 := yb BK209.out 6
            have hfz68_7 := yb BK209.out 7
            have hfz68_8 := yb BK209.out 8
            have hfz68_9 := yb BK209.out 9
            have hfz68_10 := yb BK209.out 10
            obtain ⟨Ao69, co69, eo69⟩ := Kd.R_slice HO_210001.out
            subst eo69
            have p211 : 0 ≤ (x7_3 : Int) := of_decide_eq_true (by first | (with_reducible assumption) | assumption)
            have q211 : x7_3 < (x210001_3.length : Int) := of_decide_eq_true (by first | (with_reducible assumption) | assumption)
            obtain ⟨ad211, e211, hx211_0, hx211_1⟩ := at_T58 (Kd.R_reads' HO_210001.out).2.2 x7_3 p211 q211
            cases e211
            replace p211 := eq_true p211
            replace q211 := eq_true q211
            have p64 : 0 ≤ (x7_3 : Int) := of_decide_eq_true (by first | (with_reducible assumption) | assumption)
            have q64 : (x7_3 : Int) < ((x210001_3.length : Int) : Int) := of_decide_eq_true (by first | (with_reducible assumption) | assumption)
            obtain ⟨go64, co64, eo64, gb64, gl64, cl64, HG64⟩ := Kd.R_form HO_210001.out (by omega)
            (first | cases eo64 | (injection eo64 with ea_ en_ ec_; (first | subst ea_ | (injection ea_ with ea_; subst ea_)); subst ec_; clear en_))
            have GB64 := yc gb64
            have GG64 := yc HG64
            clear gb64 gl64 HG64
            (first | simp only [add_plain] at hx211_0 | skip)
            (first | simp only [add_plain] at hx211_1 | skip)
            obtain ⟨ce64, hcl64, hM64, hcc64, hfr64⟩ := Kd.R_elem HO_210001.out z58 (x7_3 : Int) p64 q64
            obtain rfl := k58_openM hM64
            have hx64_0 : wr.cell? ⟨go64, (x7_3 : Int).toNat * 2, none⟩ = some (.int .i64 ((rd_T58 x210001_3 x7_3).f0)) := hcc64 0 _ rfl
            have hx64_1 : wr.cell? ⟨go64, (x7_3 : Int).toNat * 2 + 1, none⟩ = some (.int .i64 ((rd_T58 x210001_3 x7_3).f1)) := hcc64 1 _ rfl
            have hf64_0 : wr.frozen? ⟨go64, (x7_3 : Int).toNat * 2, none⟩ = false := hfr64 0
            have hf64_1 : wr.frozen? ⟨go64, (x7_3 : Int).toNat * 2 + 1, none⟩ = false := hfr64 1
            clear hcl64 hcc64 hfr64 hM64
            replace p64 := eq_true p64
            replace q64 := eq_true q64
            have HX70 := yc (show Kd.R k58 58 wr w.heap.size (fun k_ => some k_ ≠ (u189001 : Value).ownBlock) (.slice (some ⟨go64, 0, none⟩) x210001_3.length co69) x210001_3 from (by (with_reducible repeat (first | apply Kd.R_alloc | apply Kd.R_drewN | apply Kd.R_drew)); exact HO_210001.out))
            obtain ⟨ce70, hcl70, hM70, hcc70, hfr70⟩ := Kd.R_elem HX70.out z58 (x7_3 : Int) (of_decide_eq_true (by first | (with_reducible assumption) | assumption)) (by have h_ : (x7_3 : Int) < ((x210001_3.length : Int) : Int) := of_decide_eq_true (by first | (with_reducible assumption) | assumption); first | exact h_ | (have e_ := (Kd.R_reads' HO_210001.out).1; omega) | simpa using h_)
            obtain rfl := k58_openM hM70
            have HP70 := Kd.R_seg HX70.out (x7_3 : Int) (of_decide_eq_true (by first | (with_reducible assumption) | assumption)) (by have h_ : (x7_3 : Int) < ((x210001_3.length : Int) : Int) := of_decide_eq_true (by first | (with_reducible assumption) | assumption); first | exact h_ | (have e_ := (Kd.R_reads' HO_210001.out).1; omega) | simpa using h_) (seg := [.int .i64 (wrap64 (((rd_T58 x210001_3 x7_3).f0) + 1))]) (j := 0) hcl70 hcc70 (show 1 ≤ 2 from by decide) (x' := (⟨wrap64 (((rd_T58 x210001_3 x7_3).f0) + 1), (rd_T58 x210001_3 x7_3).f1⟩ : S58)) (k58_mkM _ _ _ (⟨wrap64 (((rd_T58 x210001_3 x7_3).f0) + 1), (rd_T58 x210001_3 x7_3).f1⟩ : S58) ) (fun _ hk => hk)
            have hx70_0 := hcc70 0 _ rfl
            (try simp only [show (k58).sz = 2 from rfl, Nat.mul_one, Nat.add_zero] at hx70_0)
            have hf70_0 := hfr70 0
            (try simp only [show (k58).sz = 2 from rfl, Nat.mul_one, Nat.add_zero] at hf70_0)
            clear hcl70 hcc70 hfr70 hM70
            go_wp2_with (first | ((with_reducible refine gate_store (t := 3) (p := 53) rfl ?_); refine store_event (t := 3) (p := 53) (v := ?vo_w71) (w1 := (wr.setCell ⟨go64, (x7_3 : Int).toNat * 2, none⟩ (.int .i64 (wrap64 (((rd_T58 x210001_3 x7_3).f0) + 1))))) ?hg ?ho ?hn ?hr ?_; (case ho => rfl); (case hg => rfl); (case hn => rfl); (case hr => first | (go_simp; done) | (go_simp; rfl)); intro w71 hw; have hg : wr.grownBy w71 (some go64) := (by rw [hw]; exact HP70.2); have hp_ : Kd.R k58 58 w71 w.heap.size (fun k_ => some k_ ≠ (u189001 : Value).ownBlock) (.slice (some ⟨go64, 0, none⟩) x210001_3.length co69) y212 := (by rw [hw, Ny212.out]; exact HP70.1); clear HP70; have n0_ := yc (Kd.R_after (v := (.slice (some ⟨go64, 0, none⟩) x210001_3.length co69)) (v1 := (.slice (some ⟨go64, 0, none⟩) x210001_3.length co69)) (ok := (fun _ => True)) (by (with_reducible repeat (first | apply Kd.R_alloc | apply Kd.R_drewN | apply Kd.R_drew)); exact Kd.R_mono HO_189001.out (fun _ hk => ⟨trivial, hk⟩)) hg (.inl rfl)); have n1_ := yc (Kd.R_over' (v := (.slice (some ⟨go64, 0, none⟩) x210001_3.length co69)) (by (with_reducible repeat (first | apply Kd.R_alloc | apply Kd.R_drewN | apply Kd.R_drew)); exact HO_189002.out) (Kd.R_typed HO_210001.out) (by decide) hg); have n2_ := yc (Kd.S_over' (v := (.slice (some ⟨go64, 0, none⟩) x210001_3.length co69)) (by (with_reducible repeat (first | apply Kd.S_alloc | apply Kd.S_drewN | apply Kd.S_drew)); exact HO_189010.out) (Kd.R_typed HO_210001.out) (by decide) hg); have n3_ := yc (hp_); have n4_ := yc (Kd.R_over' (v := (.slice (some ⟨go64, 0, none⟩) x210001_3.length co69)) (by (with_reducible repeat (first | apply Kd.R_alloc | apply Kd.R_drewN | apply Kd.R_drew)); exact HO_210002.out) (Kd.R_typed HO_210001.out) (by decide) hg); have n5_ := yc (Kd.S_over' (v := (.slice (some ⟨go64, 0, none⟩) x210001_3.length co69)) (by (with_reducible repeat (first | apply Kd.S_alloc | apply Kd.S_drewN | apply Kd.S_drew)); exact HO_210010.out) (Kd.R_typed HO_210001.out) (by decide) hg); have n6_ := yc (blk_grown (g := gb167) (o := .cells #[.int .i64 a0_0, .slice A0_1 l0_1.length c0_1, .slice A0_2 l0_2.length c0_2, .int .i64 a0_3, .int .i64 a0_4, .int .i64 a0_5, .int .i64 a0_6, .int .i64 a0_7, .int .i64 a0_8, .int .i64 a0_9, .slice A0_10 l0_10.length c0_10] 29 (0, 0)) (by (with_reducible repeat (first | refine yh ?_ _ | refine yj ?_ | refine yi ?_ _)); exact BK167.out) hg (Kd.R_ne HO_210001.out BK167.out (by decide))); have n7_ := yc (blk_grown (g := gb168) (o := .cells #[.int .i64 a1_0, .slice A1_1 l1_1.length c1_1, .slice A1_2 l1_2.length c1_2, .int .i64 a1_3, .int .i64 a1_4, .int .i64 a1_5, .int .i64 a1_6, .int .i64 a1_7, .int .i64 a1_8, .int .i64 a1_9, .slice A1_10 l1_10.length c1_10] 29 (0, 0)) (by (with_reducible repeat (first | refine yh ?_ _ | refine yj ?_ | refine yi ?_ _)); exact BK168.out) hg (Kd.R_ne HO_210001.out BK168.out (by decide))); have n8_ := yc (blk_grown (g := gb188) (o := .cells #[.int .i64 t171, u189001, .slice Ao28 t175.length co28, .int .i64 t178, .int .i64 t179, .int .i64 t180, .int .i64 t181, .int .i64 t182, .int .i64 t183, .int .i64 t184, .slice Ao29 t185.length co29] 29 (0, 0)) (by (with_reducible repeat (first | refine yh ?_ _ | refine yj ?_ | refine yi ?_ _)); exact BK188.out) hg (Kd.R_ne HO_210001.out BK188.out (by decide))); have n9_ := yc (blk_grown (g := gb209) (o := .cells #[.int .i64 t192, .slice (some ⟨go64, 0, none⟩) x210001_3.length co69, .slice Ao57 t196.length co57, .int .i64 t199, .int .i64 t200, .int .i64 t201, .int .i64 t202, .int .i64 t203, .int .i64 t204, .int .i64 t205, .slice Ao58 t206.length co58] 29 (0, 0)) (by (with_reducible repeat (first | refine yh ?_ _ | refine yj ?_ | refine yi ?_ _)); exact BK209.out) hg (Kd.R_ne HO_210001.out BK209.out (by decide))); have n10_ := yc ((by rw [hw]; exact yg (HB.out) GB64.out : Below w.heap.size w w71)); clear HO_189001; clear HO_189002; clear HO_189010; clear HO_210001; clear HO_210002; clear HO_210010; clear BK167; clear BK168; clear BK188; clear BK209; clear HB; have HO_189001 := n0_; have HO_189002 := n1_; have HO_189010 := n2_; have HO_210001 := n3_; have HO_210002 := n4_; have HO_210010 := n5_; have BK167 := n6_; have BK168 := n7_; have BK188 := n8_; have BK209 := n9_; have HB := n10_; clear n0_ n1_ n2_ n3_ n4_ n5_ n6_ n7_ n8_ n9_ n10_; clear hg hw hp_))
            go_roundg k3
            case measure => have := HJ2.out; have := HJ18.out; have := HK3.out; omega
            case rel => exact ⟨(wrap64 (x7_3 + 1)), (x189001_3), (y212), (u189001), (.slice (some ⟨go64, 0, none⟩) x210001_3.length co69), (by first | rfl | (simp; done) | (simp [*]; done)), H', ⟨by have := HJ2.out; have := HJ18.out; have := HK3.out; omega⟩, ⟨by (with_reducible repeat (first | apply Kd.R_alloc | apply Kd.R_drewN | apply Kd.R_drew)); exact Kd.R_mono HO_189001.out (fun _ hk => hk.2)⟩, ⟨by (with_reducible repeat (first | apply Kd.R_alloc | apply Kd.R_drewN | apply Kd.R_drew)); exact HO_189002.out⟩, ⟨by (with_reducible repeat (first | apply Kd.S_alloc | apply Kd.S_drewN | apply Kd.S_drew)); exact HO_189010.out⟩, ⟨by (with_reducible repeat (first | apply Kd.R_alloc | apply Kd.R_drewN | apply Kd.R_drew)); exact HO_210001.out⟩, ⟨by (with_reducible repeat (first | apply Kd.R_alloc | apply Kd.R_drewN | apply Kd.R_drew)); exact HO_210002.out⟩, ⟨by (with_reducible repeat (first | apply Kd.S_alloc | apply Kd.S_drewN | apply Kd.S_drew)); exact HO_210010.out⟩, ⟨by (with_reducible repeat (first | refine yh ?_ _ | refine yj ?_ | refine yi ?_ _)); exact BK167.out⟩, ⟨by (with_reducible repeat (first | refine yh ?_ _ | refine yj ?_ | refine yi ?_ _)); exact BK168.out⟩, ⟨by (with_reducible repeat (first | refine yh ?_ _ | refine yj ?_ | refine yi ?_ _)); exact BK188.out⟩, ⟨by (with_reducible repeat (first | refine yh ?_ _ | refine yj ?_ | refine yi ?_ _)); exact BK209.out⟩, ⟨by repeat (first | (with_reducible first | exact HB.out | apply yd | apply ye | apply yf | refine yg ?_ GE167.out | refine yg ?_ GE168.out | refine yg ?_ GE188.out | refine yg ?_ GE209.out) | exact HB.out)⟩⟩
           ·rw [if_neg c63] at H
            exact absurd H (by simp)
          ·rw [if_neg c62] at H
           have c62b0 : decide (x7_3 < (x210001_3.length : Int)) = false := decide_eq_false c62
           clear c62
           have H' := yc H
           clear H
           have hnb72 := NB209_167.out
           have hnc72 := NB167_209.out
           have hnb73 := NB209_168.out
           have hnc73 := NB168_209.out
           have hnb74 := NB209_188.out
           have hnc74 := NB188_209.out
           have hcz75_0 : wr.cell? ⟨gb209, 0, none⟩ = some (.int .i64 t192) := (ya BK209.out 0).trans rfl
           have hcz75_1 : wr.cell? ⟨gb209, 1, none⟩ = some (u210001) := (ya BK209.out 1).trans rfl
           have hcz75_2 : wr.cell? ⟨gb209, 2, none⟩ = some (.slice Ao57 t196.length co57) := (ya BK209.out 2).trans rfl
           have hcz75_3 : wr.cell? ⟨gb209, 3, none⟩ = some (.int .i64 t199) := (ya BK209.out 3).trans rfl
           have hcz75_4 : wr.cell? ⟨gb209, 4, none⟩ = some (.int .i64 t200) := (ya BK209.out 4).trans rfl
           have hcz75_5 : wr.cell? ⟨gb209, 5, none⟩ = some (.int .i64 t201) := (ya BK209.out 5).trans rfl
           have hcz75_6 : wr.cell? ⟨gb209, 6, none⟩ = some (.int .i64 t202) := (ya BK209.out 6).trans rfl
           have hcz75_7 : wr.cell? ⟨gb209, 7, none⟩ = some (.int .i64 t203) := (ya BK209.out 7).trans rfl
           have hcz75_8 : wr.cell? ⟨gb209, 8, none⟩ = some (.int .i64 t204) := (ya BK209.out 8).trans rfl
           have hcz75_9 : wr.cell? ⟨gb209, 9, none⟩ = some (.int .i64 t205) := (ya BK209.out 9).trans rfl
           have hcz75_10 : wr.cell? ⟨gb209, 10, none⟩ = some (.slice Ao58 t206.length co58) := (ya BK209.out 10).trans rfl
           have hfz75_0 := yb BK209.out 0
           have hfz75_1 := yb BK209.out 1
           have hfz75_2 := yb BK209.out 2
           have hfz75_3 := yb BK209.out 3
           have hfz75_4 := yb BK209.out 4
           have hfz75_5 := yb BK209.out 5
           have hfz75_6 := yb BK209.out 6
           have hfz75_7 := yb BK209.out 7
           have hfz75_8 := yb BK209.out 8
           have hfz75_9 := yb BK209.out 9
           have hfz75_10 := yb BK209.out 10
           obtain ⟨Ao76, co76, eo76⟩ := Kd.R_slice HO_210001.out
           subst eo76
           go_wp2
           go_loopg [8] k3 (fun kq v8 w' => ∃ (x8_4 : Int) (x189002_4 : List (S61)) (x210002_4 : List (S61)) (u189002 : Value) (u210002 : Value), v8 = .int .i64 x8_4 ∧ Aside0 (outriderlaw17_JobCopies.l1 kq x8_4 a0_0 l0_1 l0_2 a0_3 a0_4 a0_5 a0_6 a0_7 a0_8 a0_9 l0_10 t171 x189001_3 x189002_4 t178 t179 t180 t181 t182 t183 t184 t185 t192 x210001_3 x210002_4 t199 t200 t201 t202 t203 t204 t205 t206 = some true) ∧ Aside0 (kq ≤ k3) ∧ Aside0 (Kd.R k58 58 w' w.heap.size (fun k_ => some k_ ≠ ((.slice Ao76 x210001_3.length co76) : Value).ownBlock) u189001 x189001_3) ∧ Aside0 (Kd.R k61 61 w' w.heap.size (fun k_ => some k_ ≠ (u210002 : Value).ownBlock) u189002 x189002_4) ∧ Aside0 (Kd.S (Kd.slice 66 k66) 62 w' w.heap.size (fun k_ => some k_ ≠ ((.slice Ao58 t206.length co58) : Value).ownBlock ∧ k_ < NB) (.slice Ao29 t185.length co29) t185) ∧ Aside0 (Kd.R k58 58 w' w.heap.size (fun k_ => some k_ ≠ (u189001 : Value).ownBlock) (.slice Ao76 x210001_3.length co76) x210001_3) ∧ Aside0 (Kd.R k61 61 w' w.heap.size (fun k_ => some k_ ≠ (u189002 : Value).ownBlock) u210002 x210002_4) ∧ Aside0 (Kd.S (Kd.slice 66 k66) 62 w' w.heap.size (fun k_ => some k_ ≠ ((.slice Ao29 t185.length co29) : Value).ownBlock ∧ NB ≤ k_) (.slice Ao58 t206.length co58) t206) ∧ Aside0 (w'.heap[gb167]? = some (.cells #[.int .i64 a0_0, (.slice A0_1 l0_1.length c0_1), (.slice A0_2 l0_2.length c0_2), .int .i64 a0_3, .int .i64 a0_4, .int .i64 a0_5, .int .i64 a0_6, .int .i64 a0_7, .int .i64 a0_8, .int .i64 a0_9, (.slice A0_10 l0_10.length c0_10)] 29 (0, 0))) ∧ Aside0 (w'.heap[gb168]? = some (.cells #[.int .i64 a1_0, (.slice A1_1 l1_1.length c1_1), (.slice A1_2 l1_2.length c1_2), .int .i64 a1_3, .int .i64 a1_4, .int .i64 a1_5, .int .i64 a1_6, .int .i64 a1_7, .int .i64 a1_8, .int .i64 a1_9, (.slice A1_10 l1_10.length c1_10)] 29 (0, 0))) ∧ Aside0 (w'.heap[gb188]? = some (.cells #[.int .i64 t171, u189001, u189002, .int .i64 t178, .int .i64 t179, .int .i64 t180, .int .i64 t181, .int .i64 t182, .int .i64 t183, .int .i64 t184, (.slice Ao29 t185.length co29)] 29 (0, 0))) ∧ Aside0 (w'.heap[gb209]? = some (.cells #[.int .i64 t192, (.slice Ao76 x210001_3.length co76), u210002, .int .i64 t199, .int .i64 t200, .int .i64 t201, .int .i64 t202, .int .i64 t203, .int .i64 t204, .int .i64 t205, (.slice Ao58 t206.length co58)] 29 (0, 0))) ∧ Aside0 (Below w.heap.size w w'))
           case atStart => exact ⟨(0), (t175), (t196), (.slice Ao28 t175.length co28), (.slice Ao57 t196.length co57), (by first | rfl | (simp; done) | (simp [*]; done)), H', ⟨Nat.le_refl _⟩, ⟨by (with_reducible repeat (first | apply Kd.R_alloc | apply Kd.R_drewN | apply Kd.R_drew)); exact HO_189001.out⟩, ⟨by (with_reducible repeat (first | apply Kd.R_alloc | apply Kd.R_drewN | apply Kd.R_drew)); exact HO_189002.out⟩, ⟨by (with_reducible repeat (first | apply Kd.S_alloc | apply Kd.S_drewN | apply Kd.S_drew)); exact HO_189010.out⟩, ⟨by (with_reducible repeat (first | apply Kd.R_alloc | apply Kd.R_drewN | apply Kd.R_drew)); exact HO_210001.out⟩, ⟨by (with_reducible repeat (first | apply Kd.R_alloc | apply Kd.R_drewN | apply Kd.R_drew)); exact HO_210002.out⟩, ⟨by (with_reducible repeat (first | apply Kd.S_alloc | apply Kd.S_drewN | apply Kd.S_drew)); exact HO_210010.out⟩, ⟨by (with_reducible repeat (first | refine yh ?_ _ | refine yj ?_ | refine yi ?_ _)); exact BK167.out⟩, ⟨by (with_reducible repeat (first | refine yh ?_ _ | refine yj ?_ | refine yi ?_ _)); exact BK168.out⟩, ⟨by (with_reducible repeat (first | refine yh ?_ _ | refine yj ?_ | refine yi ?_ _)); exact BK188.out⟩, ⟨by (with_reducible repeat (first | refine yh ?_ _ | refine yj ?_ | refine yi ?_ _)); exact BK209.out⟩, ⟨by repeat (first | (with_reducible first | exact HB.out | apply yd | apply ye | apply yf | refine yg ?_ GE167.out | refine yg ?_ GE168.out | refine yg ?_ GE188.out | refine yg ?_ GE209.out) | exact HB.out)⟩⟩
           case round =>
            clear H'
            try clear c1; try clear c2; try clear p2; try clear q2; try clear hx2; try clear c3; try clear c4; try clear c5; try clear c6; try clear p6; try clear q6; try clear hx6; try clear hf6; try clear c7; try clear hx7; try clear hf7; try clear c17; try clear c19; try clear c20; try clear p21; try clear q21; try clear hx21; try clear c24; try clear c25; try clear c26; try clear c32; try clear c32b0; try clear c32b1; try clear c32b2; try clear c43; try clear c46; try clear c47; try clear c48; try clear c52; try clear c53; try clear c54; try clear c59; try clear c62; try clear c62b0; try clear c63; try clear c63b0; try clear c64; try clear p64; try clear q64; try clear hx64; try clear hf64; try clear c65; try clear c66; try clear c67; try clear c70; try clear hx70; try clear hf70; try clear c72; try clear c73; try clear c74; try clear hcz21_0; try clear hcz21_1; try clear hcz21_10; try clear hcz21_2; try clear hcz21_3; try clear hcz21_4; try clear hcz21_5; try clear hcz21_6; try clear hcz21_7; try clear hcz21_8; try clear hcz21_9; try clear hcz26_0; try clear hcz26_1; try clear hcz26_10; try clear hcz26_2; try clear hcz26_3; try clear hcz26_4; try clear hcz26_5; try clear hcz26_6; try clear hcz26_7; try clear hcz26_8; try clear hcz26_9; try clear hcz49_0; try clear hcz49_1; try clear hcz49_10; try clear hcz49_2; try clear hcz49_3; try clear hcz49_4; try clear hcz49_5; try clear hcz49_6; try clear hcz49_7; try clear hcz49_8; try clear hcz49_9; try clear hcz55_0; try clear hcz55_1; try clear hcz55_10; try clear hcz55_2; try clear hcz55_3; try clear hcz55_4; try clear hcz55_5; try clear hcz55_6; try clear hcz55_7; try clear hcz55_8; try clear hcz55_9; try clear hcz60_0; try clear hcz60_1; try clear hcz60_10; try clear hcz60_2; try clear hcz60_3; try clear hcz60_4; try clear hcz60_5; try clear hcz60_6; try clear hcz60_7; try clear hcz60_8; try clear hcz60_9; try clear hcz68_0; try clear hcz68_1; try clear hcz68_10; try clear hcz68_2; try clear hcz68_3; try clear hcz68_4; try clear hcz68_5; try clear hcz68_6; try clear hcz68_7; try clear hcz68_8; try clear hcz68_9; try clear hcz75_0; try clear hcz75_1; try clear hcz75_10; try clear hcz75_2; try clear hcz75_3; try clear hcz75_4; try clear hcz75_5; try clear hcz75_6; try clear hcz75_7; try clear hcz75_8; try clear hcz75_9; try clear hfz21_0; try clear hfz21_1; try clear hfz21_10; try clear hfz21_2; try clear hfz21_3; try clear hfz21_4; try clear hfz21_5; try clear hfz21_6; try clear hfz21_7; try clear hfz21_8; try clear hfz21_9; try clear hfz26_0; try clear hfz26_1; try clear hfz26_10; try clear hfz26_2; try clear hfz26_3; try clear hfz26_4; try clear hfz26_5; try clear hfz26_6; try clear hfz26_7; try clear hfz26_8; try clear hfz26_9; try clear hfz49_0; try clear hfz49_1; try clear hfz49_10; try clear hfz49_2; try clear hfz49_3; try clear hfz49_4; try clear hfz49_5; try clear hfz49_6; try clear hfz49_7; try clear hfz49_8; try clear hfz49_9; try clear hfz55_0; try clear hfz55_1; try clear hfz55_10
            try clear hfz55_2; try clear hfz55_3; try clear hfz55_4; try clear hfz55_5; try clear hfz55_6; try clear hfz55_7; try clear hfz55_8; try clear hfz55_9; try clear hfz60_0; try clear hfz60_1; try clear hfz60_10; try clear hfz60_2; try clear hfz60_3; try clear hfz60_4; try clear hfz60_5; try clear hfz60_6; try clear hfz60_7; try clear hfz60_8; try clear hfz60_9; try clear hfz68_0; try clear hfz68_1; try clear hfz68_10; try clear hfz68_2; try clear hfz68_3; try clear hfz68_4; try clear hfz68_5; try clear hfz68_6; try clear hfz68_7; try clear hfz68_8; try clear hfz68_9; try clear hfz75_0; try clear hfz75_1; try clear hfz75_10; try clear hfz75_2; try clear hfz75_3; try clear hfz75_4; try clear hfz75_5; try clear hfz75_6; try clear hfz75_7; try clear hfz75_8; try clear hfz75_9; try clear hx211_0; try clear hx211_1; try clear hx64_0; try clear hx64_1; try clear hx70_0; try clear p2; try clear p211; try clear p64; try clear q211; try clear q64
            obtain ⟨x8_4, x189002_4, x210002_4, u189002, u210002, rfl, HA, HK4, HO_189001, HO_189002, HO_189010, HO_210001, HO_210002, HO_210010, BK167, BK168, BK188, BK209, HB⟩ := hrel
            cases gk with
            | zero => exact absurd HA.out (by simp [outriderlaw17_JobCopies.l1])
            | succ k4 =>
             have H := HA.out
             clear HA
             simp only [outriderlaw17_JobCopies.l1] at H
             by_cases c77 : x8_4 < (x210002_4.length : Int)
             ·rw [if_pos c77] at H
              have c77b0 : decide (x8_4 < (x210002_4.length : Int)) = true := decide_eq_true c77
              clear c77
              by_cases c78 : 0 ≤ x8_4
              ·rw [if_pos c78] at H
               have c78b0 : decide (0 ≤ x8_4) = true := decide_eq_true c78
               clear c78
               obtain ⟨y214, hy214⟩ : ∃ y_ : List (S61), y_ = (x210002_4.set (x8_4 : Int).toNat (⟨(rd_T61 x210002_4 x8_4).f0, wrap64 (((rd_T61 x210002_4 x8_4).f1) + 1)⟩ : S61)) := ⟨_, rfl⟩
               replace H : (outriderlaw17_JobCopies.l1 k4 (wrap64 (x8_4 + 1)) a0_0 l0_1 l0_2 a0_3 a0_4 a0_5 a0_6 a0_7 a0_8 a0_9 l0_10 t171 x189001_3 x189002_4 t178 t179 t180 t181 t182 t183 t184 t185 t192 x210001_3 y214 t199 t200 t201 t202 t203 t204 t205 t206) = some true := by first | (rw [hy214]; with_reducible exact H) | (have H2_ := (Option.bind_some _ _).symm.trans H; rw [hy214]; with_reducible exact H2_) | (have H2_ := (Option.bind_some _ _).symm.trans H; with_reducible exact H2_) | with_reducible exact H | (rw [hy214]; exact H) | exact H
               have Ny214 := yc hy214
               clear hy214
               have H' := yc H
               clear H
               have hnb80 := NB209_167.out
               have hnc80 := NB167_209.out
               have hnb81 := NB209_168.out
               have hnc81 := NB168_209.out
               have hnb82 := NB209_188.out
               have hnc82 := NB188_209.out
               have hcz83_0 : wr.cell? ⟨gb209, 0, none⟩ = some (.int .i64 t192) := (ya BK209.out 0).trans rfl
               have hcz83_1 : wr.cell? ⟨gb209, 1, none⟩ = some (.slice Ao76 x210001_3.length co76) := (ya BK209.out 1).trans rfl
               have hcz83_2 : wr.cell? ⟨gb209, 2, none⟩ = some (u210002) := (ya BK209.out 2).trans rfl
               have hcz83_3 : wr.cell? ⟨gb209, 3, none⟩ = some (.int .i64 t199) := (ya BK209.out 3).trans rfl
               have hcz83_4 : wr.cell? ⟨gb209, 4, none⟩ = some (.int .i64 t200) := (ya BK209.out 4).trans rfl
               have hcz83_5 : wr.cell? ⟨gb209, 5, none⟩ = some (.int .i64 t201) := (ya BK209.out 5).trans rfl
               have hcz83_6 : wr.cell? ⟨gb209, 6, none⟩ = some (.int .i64 t202) := (ya BK209.out 6).trans rfl
               have hcz83_7 : wr.cell? ⟨gb209, 7, none⟩ = some (.int .i64 t203) := (ya BK209.out 7).trans rfl
               have hcz83_8 : wr.cell? ⟨gb209, 8, none⟩ = some (.int .i64 t204) := (ya BK209.out 8).trans rfl
               have hcz83_9 : wr.cell? ⟨gb209, 9, none⟩ = some (.int .i64 t205) := (ya BK209.out 9).trans rfl
               have hcz83_10 : wr.cell? ⟨gb209, 10, none⟩ = some (.slice Ao58 t206.length co58) := (ya BK209.out 10).trans rfl
               have hfz83_0 := yb BK209.out 0
               have hfz83_1 := yb BK209.out 1
               have hfz83_2 := yb BK209.out 2
               have hfz83_3 := yb BK209.out 3
               have hfz83_4 := yb BK209.out 4
               have hfz83_5 := yb BK209.out 5
               have hfz83_6 := yb BK209.out 6
               have hfz83_7 := yb BK209.out 7
               have hfz83_8 := yb BK209.out 8
               have hfz83_9 := yb BK209.out 9
               have hfz83_10 := yb BK209.out 10
               obtain ⟨Ao84, co84, eo84⟩ := Kd.R_slice HO_210002.out
               subst eo84
               have p213 : 0 ≤ (x8_4 : Int) := of_decide_eq_true (by first | (with_reducible assumption) | assumption)
               have q213 : x8_4 < (x210002_4.length : Int) := of_decide_eq_true (by first | (with_reducible assumption) | assumption)
               obtain ⟨ad213, e213, hx213_0, hx213_1⟩ := at_T61 (Kd.R_reads' HO_210002.out).2.2 x8_4 p213 q213
               cases e213
               replace p213 := eq_true p213
               replace q213 := eq_true q213
               have p79 : 0 ≤ (x8_4 : Int) := of_decide_eq_true (by first | (with_reducible assumption) | assumption)
               have q79 : (x8_4 : Int) < ((x210002_4.length : Int) : Int) := of_decide_eq_true (by first | (with_reducible assumption) | assumption)
               obtain ⟨go79, co79, eo79, gb79, gl79, cl79, HG79⟩ := Kd.R_form HO_210002.out (by omega)
               (first | cases eo79 | (injection eo79 with ea_ en_ ec_; (first | subst ea_ | (injection ea_ with ea_; subst ea_)); subst ec_; clear en_))
               have GB79 := yc gb79
               have GG79 := yc HG79
               clear gb79 gl79 HG79
               (first | simp only [add_plain] at hx213_0 | skip)
               (first | simp only [add_plain] at hx213_1 | skip)
               obtain ⟨ce79, hcl79, hM79, hcc79, hfr79⟩ := Kd.R_elem HO_210002.out z61 (x8_4 : Int) p79 q79
               obtain rfl := k61_openM hM79
               have hx79_0 : wr.cell? ⟨go79, (x8_4 : Int).toNat * 2, none⟩ = some (.int .i64 ((rd_T61 x210002_4 x8_4).f0)) := hcc79 0 _ rfl
               have hx79_1 : wr.cell? ⟨go79, (x8_4 : Int).toNat * 2 + 1, none⟩ = some (.int .i64 ((rd_T61 x210002_4 x8_4).f1)) := hcc79 1 _ rfl
               have hf79_0 : wr.frozen? ⟨go79, (x8_4 : Int).toNat * 2, none⟩ = false := hfr79 0
               have hf79_1 : wr.frozen? ⟨go79, (x8_4 : Int).toNat * 2 + 1, none⟩ = false := hfr79 1
               clear hcl79 hcc79 hfr79 hM79
               replace p79 := eq_true p79
               replace q79 := eq_true q79
               have HX85 := yc (show Kd.R k61 61 wr w.heap.size (fun k_ => some k_ ≠ (u189002 : Value).ownBlock) (.slice (some ⟨go79, 0, none⟩) x210002_4.length co84) x210002_4 from (by (with_reducible repeat (first | apply Kd.R_alloc | apply Kd.R_drewN | apply Kd.R_drew)); exact HO_210002.out))
               obtain ⟨ce85, hcl85, hM85, hcc85, hfr85⟩ := Kd.R_elem HX85.out z61 (x8_4 : Int) (of_decide_eq_true (by first | (with_reducible assumption) | assumption)) (by have h_ : (x8_4 : Int) < ((x210002_4.length : Int) : Int) := of_decide_eq_true (by first | (with_reducible assumption) | assumption); first | exact h_ | (have e_ := (Kd.R_reads' HO_210002.out).1; omega) | simpa using h_)
               obtain rfl := k61_openM hM85
               have HP85 := Kd.R_seg HX85.out (x8_4 : Int) (of_decide_eq_true (by first | (with_reducible assumption) | assumption)) (by have h_ : (x8_4 : Int) < ((x210002_4.length : Int) : Int) := of_decide_eq_true (by first | (with_reducible assumption) | assumption); first | exact h_ | (have e_ := (Kd.R_reads' HO_210002.out).1; omega) | simpa using h_) (seg := [.int .i64 (wrap64 (((rd_T61 x210002_4 x8_4).f1) + 1))]) (j := 1) hcl85 hcc85 (show 2 ≤ 2 from by decide) (x' := (⟨(rd_T61 x210002_4 x8_4).f0, wrap64 (((rd_T61 x210002_4 x8_4).f1) + 1)⟩ : S61)) (k61_mkM _ _ _ (⟨(rd_T61 x210002_4 x8_4).f0, wrap64 (((rd_T61 x210002_4 x8_4).f1) + 1)⟩ : S61) ) (fun _ hk => hk)
               have hx85_1 := hcc85 1 _ rfl
               (try simp only [show (k61).sz = 2 from rfl, Nat.mul_one, Nat.add_zero] at hx85_1)
               have hf85_1 := hfr85 1
               (try simp only [show (k61).sz = 2 from rfl, Nat.mul_one, Nat.add_zero] at hf85_1)
               clear hcl85 hcc85 hfr85 hM85
               go_wp2_with (first | ((with_reducible refine gate_store (t := 2) (p := 69) rfl ?_); refine store_event (t := 2) (p := 69) (v := ?vo_w86) (w1 := (wr.setCell ⟨go79, (x8_4 : Int).toNat * 2 + 1, none⟩ (.int .i64 (wrap64 (((rd_T61 x210002_4 x8_4).f1) + 1))))) ?hg ?ho ?hn ?hr ?_; (case ho => rfl); (case hg => rfl); (case hn => rfl); (case hr => first | (go_simp; done) | (go_simp; rfl)); intro w86 hw; have hg : wr.grownBy w86 (some go79) := (by rw [hw]; exact HP85.2); have hp_ : Kd.R k61 61 w86 w.heap.size (fun k_ => some k_ ≠ (u189002 : Value).ownBlock) (.slice (some ⟨go79, 0, none⟩) x210002_4.length co84) y214 := (by rw [hw, Ny214.out]; exact HP85.1); clear HP85; have n0_ := yc (Kd.R_over' (v := (.slice (some ⟨go79, 0, none⟩) x210002_4.length co84)) (by (with_reducible repeat (first | apply Kd.R_alloc | apply Kd.R_drewN | apply Kd.R_drew)); exact HO_189001.out) (Kd.R_typed HO_210002.out) (by decide) hg); have n1_ := yc (Kd.R_after (v := (.slice (some ⟨go79, 0, none⟩) x210002_4.length co84)) (v1 := (.slice (some ⟨go79, 0, none⟩) x210002_4.length co84)) (ok := (fun _ => True)) (by (with_reducible repeat (first | apply Kd.R_alloc | apply Kd.R_drewN | apply Kd.R_drew)); exact Kd.R_mono HO_189002.out (fun _ hk => ⟨trivial, hk⟩)) hg (.inl rfl)); have n2_ := yc (Kd.S_over' (v := (.slice (some ⟨go79, 0, none⟩) x210002_4.length co84)) (by (with_reducible repeat (first | apply Kd.S_alloc | apply Kd.S_drewN | apply Kd.S_drew)); exact HO_189010.out) (Kd.R_typed HO_210002.out) (by decide) hg); have n3_ := yc (Kd.R_over' (v := (.slice (some ⟨go79, 0, none⟩) x210002_4.length co84)) (by (with_reducible repeat (first | apply Kd.R_alloc | apply Kd.R_drewN | apply Kd.R_drew)); exact HO_210001.out) (Kd.R_typed HO_210002.out) (by decide) hg); have n4_ := yc (hp_); have n5_ := yc (Kd.S_over' (v := (.slice (some ⟨go79, 0, none⟩) x210002_4.length co84)) (by (with_reducible repeat (first | apply Kd.S_alloc | apply Kd.S_drewN | apply Kd.S_drew)); exact HO_210010.out) (Kd.R_typed HO_210002.out) (by decide) hg); have n6_ := yc (blk_grown (g := gb167) (o := .cells #[.int .i64 a0_0, .slice A0_1 l0_1.length c0_1, .slice A0_2 l0_2.length c0_2, .int .i64 a0_3, .int .i64 a0_4, .int .i64 a0_5, .int .i64 a0_6, .int .i64 a0_7, .int .i64 a0_8, .int .i64 a0_9, .slice A0_10 l0_10.length c0_10] 29 (0, 0)) (by (with_reducible repeat (first | refine yh ?_ _ | refine yj ?_ | refine yi ?_ _)); exact BK167.out) hg (Kd.R_ne HO_210002.out BK167.out (by decide))); have n7_ := yc (blk_grown (g := gb168) (o := .cells #[.int .i64 a1_0, .slice A1_1 l1_1.length c1_1, .slice A1_2 l1_2.length c1_2, .int .i64 a1_3, .int .i64 a1_4, .int .i64 a1_5, .int .i64 a1_6, .int .i64 a1_7, .int .i64 a1_8, .int .i64 a1_9, .slice A1_10 l1_10.length c1_10] 29 (0, 0)) (by (with_reducible repeat (first | refine yh ?_ _ | refine yj ?_ | refine yi ?_ _)); exact BK168.out) hg (Kd.R_ne HO_210002.out BK168.out (by decide))); have n8_ := yc (blk_grown (g := gb188) (o := .cells #[.int .i64 t171, u189001, u189002, .int .i64 t178, .int .i64 t179, .int .i64 t180, .int .i64 t181, .int .i64 t182, .int .i64 t183, .int .i64 t184, .slice Ao29 t185.length co29] 29 (0, 0)) (by (with_reducible repeat (first | refine yh ?_ _ | refine yj ?_ | refine yi ?_ _)); exact BK188.out) hg (Kd.R_ne HO_210002.out BK188.out (by decide))); have n9_ := yc (blk_grown (g := gb209) (o := .cells #[.int .i64 t192, .slice Ao76 x210001_3.length co76, .slice (some ⟨go79, 0, none⟩) x210002_4.length co84, .int .i64 t199, .int .i64 t200, .int .i64 t201, .int .i64 t202, .int .i64 t203, .int .i64 t204, .int .i64 t205, .slice Ao58 t206.length co58] 29 (0, 0)) (by (with_reducible repeat (first | refine yh ?_ _ | refine yj ?_ | refine yi ?_ _)); exact BK209.out) hg (Kd.R_ne HO_210002.out BK209.out (by decide))); have n10_ := yc ((by rw [hw]; exact yg (HB.out) GB79.out : Below w.heap.size w w86)); clear HO_189001; clear HO_189002; clear HO_189010; clear HO_210001; clear HO_210002; clear HO_210010; clear BK167; clear BK168; clear BK188; clear BK209; clear HB; have HO_189001 := n0_; have HO_189002 := n1_; have HO_189010 := n2_; have HO_210001 := n3_; have HO_210002 := n4_; have HO_210010 := n5_; have BK167 := n6_; have BK168 := n7_; have BK188 := n8_; have BK209 := n9_; have HB := n10_; clear n0_ n1_ n2_ n3_ n4_ n5_ n6_ n7_ n8_ n9_ n10_; clear hg hw hp_))
               go_roundg k4
               case measure => have := HJ2.out; have := HJ18.out; have := HK3.out; have := HK4.out; omega
               case rel => exact ⟨(wrap64 (x8_4 + 1)), (x189002_4), (y214), (u189002), (.slice (some ⟨go79, 0, none⟩) x210002_4.length co84), (by first | rfl | (simp; done) | (simp [*]; done)), H', ⟨by have := HJ2.out; have := HJ18.out; have := HK3.out; have := HK4.out; omega⟩, ⟨by (with_reducible repeat (first | apply Kd.R_alloc | apply Kd.R_drewN | apply Kd.R_drew)); exact HO_189001.out⟩, ⟨by (with_reducible repeat (first | apply Kd.R_alloc | apply Kd.R_drewN | apply Kd.R_drew)); exact Kd.R_mono HO_189002.out (fun _ hk => hk.2)⟩, ⟨by (with_reducible repeat (first | apply Kd.S_alloc | apply Kd.S_drewN | apply Kd.S_drew)); exact HO_189010.out⟩, ⟨by (with_reducible repeat (first | apply Kd.R_alloc | apply Kd.R_drewN | apply Kd.R_drew)); exact HO_210001.out⟩, ⟨by (with_reducible repeat (first | apply Kd.R_alloc | apply Kd.R_drewN | apply Kd.R_drew)); exact HO_210002.out⟩, ⟨by (with_reducible repeat (first | apply Kd.S_alloc | apply Kd.S_drewN | apply Kd.S_drew)); exact HO_210010.out⟩, ⟨by (with_reducible repeat (first | refine yh ?_ _ | refine yj ?_ | refine yi ?_ _)); exact BK167.out⟩, ⟨by (with_reducible repeat (first | refine yh ?_ _ | refine yj ?_ | refine yi ?_ _)); exact BK168.out⟩, ⟨by (with_reducible repeat (first | refine yh ?_ _ | refine yj ?_ | refine yi ?_ _)); exact BK188.out⟩, ⟨by (with_reducible repeat (first | refine yh ?_ _ | refine yj ?_ | refine yi ?_ _)); exact BK209.out⟩, ⟨by repeat (first | (with_reducible first | exact HB.out | apply yd | apply ye | apply yf | refine yg ?_ GE167.out | refine yg ?_ GE168.out | refine yg ?_ GE188.out | refine yg ?_ GE209.out) | exact HB.out)⟩⟩
              ·rw [if_neg c78] at H
               exact absurd H (by simp)
             ·rw [if_neg c77] at H
              have c77b0 : decide (x8_4 < (x210002_4.length : Int)) = false := decide_eq_false c77
              clear c77
              have H' := yc H
              clear H
              have hnb87 := NB209_167.out
              have hnc87 := NB167_209.out
              have hnb88 := NB209_168.out
              have hnc88 := NB168_209.out
              have hnb89 := NB209_188.out
              have hnc89 := NB188_209.out
              have hcz90_0 : wr.cell? ⟨gb209, 0, none⟩ = some (.int .i64 t192) := (ya BK209.out 0).trans rfl
              have hcz90_1 : wr.cell? ⟨gb209, 1, none⟩ = some (.slice Ao76 x210001_3.length co76) := (ya BK209.out 1).trans rfl
              have hcz90_2 : wr.cell? ⟨gb209, 2, none⟩ = some (u210002) := (ya BK209.out 2).trans rfl
              have hcz90_3 : wr.cell? ⟨gb209, 3, none⟩ = some (.int .i64 t199) := (ya BK209.out 3).trans rfl
              have hcz90_4 : wr.cell? ⟨gb209, 4, none⟩ = some (.int .i64 t200) := (ya BK209.out 4).trans rfl
              have hcz90_5 : wr.cell? ⟨gb209, 5, none⟩ = some (.int .i64 t201) := (ya BK209.out 5).trans rfl
              have hcz90_6 : wr.cell? ⟨gb209, 6, none⟩ = some (.int .i64 t202) := (ya BK209.out 6).trans rfl
              have hcz90_7 : wr.cell? ⟨gb209, 7, none⟩ = some (.int .i64 t203) := (ya BK209.out 7).trans rfl
              have hcz90_8 : wr.cell? ⟨gb209, 8, none⟩ = some (.int .i64 t204) := (ya BK209.out 8).trans rfl
              have hcz90_9 : wr.cell? ⟨gb209, 9, none⟩ = some (.int .i64 t205) := (ya BK209.out 9).trans rfl
              have hcz90_10 : wr.cell? ⟨gb209, 10, none⟩ = some (.slice Ao58 t206.length co58) := (ya BK209.out 10).trans rfl
              have hfz90_0 := yb BK209.out 0
              have hfz90_1 := yb BK209.out 1
              have hfz90_2 := yb BK209.out 2
              have hfz90_3 := yb BK209.out 3
              have hfz90_4 := yb BK209.out 4
              have hfz90_5 := yb BK209.out 5
              have hfz90_6 := yb BK209.out 6
              have hfz90_7 := yb BK209.out 7
              have hfz90_8 := yb BK209.out 8
              have hfz90_9 := yb BK209.out 9
              have hfz90_10 := yb BK209.out 10
              obtain ⟨Ao91, co91, eo91⟩ := Kd.R_slice HO_210002.out
              subst eo91
              go_wp2
              go_loopg [9] k4 (fun kq v9 w' => ∃ (x9_5 : Int) (x189010_5 : List (List (S66))) (x210010_5 : List (List (S66))) (u189010 : Value) (u210010 : Value), v9 = .int .i64 x9_5 ∧ Aside0 (outriderlaw17_JobCopies.l2 kq x9_5 a0_0 l0_1 l0_2 a0_3 a0_4 a0_5 a0_6 a0_7 a0_8 a0_9 l0_10 t171 x189001_3 x189002_4 t178 t179 t180 t181 t182 t183 t184 x189010_5 t192 x210001_3 x210002_4 t199 t200 t201 t202 t203 t204 t205 x210010_5 = some true) ∧ Aside0 (kq ≤ k4) ∧ Aside0 (Kd.R k58 58 w' w.heap.size (fun k_ => some k_ ≠ ((.slice Ao76 x210001_3.length co76) : Value).ownBlock) u189001 x189001_3) ∧ Aside0 (Kd.R k61 61 w' w.heap.size (fun k_ => some k_ ≠ ((.slice Ao91 x210002_4.length co91) : Value).ownBlock) u189002 x189002_4) ∧ Aside0 (Kd.S (Kd.slice 66 k66) 62 w' w.heap.size (fun k_ => some k_ ≠ (u210010 : Value).ownBlock ∧ k_ < NB) u189010 x189010_5) ∧ Aside0 (Kd.R k58 58 w' w.heap.size (fun k_ => some k_ ≠ (u189001 : Value).ownBlock) (.slice Ao76 x210001_3.length co76) x210001_3) ∧ Aside0 (Kd.R k61 61 w' w.heap.size (fun k_ => some k_ ≠ (u189002 : Value).ownBlock) (.slice Ao91 x210002_4.length co91) x210002_4) ∧ Aside0 (Kd.S (Kd.slice 66 k66) 62 w' w.heap.size (fun k_ => some k_ ≠ (u189010 : Value).ownBlock ∧ NB ≤ k_) u210010 x210010_5) ∧ Aside0 (w'.heap[gb167]? = some (.cells #[.int .i64 a0_0, (.slice A0_1 l0_1.length c0_1), (.slice A0_2 l0_2.length c0_2), .int .i64 a0_3, .int .i64 a0_4, .int .i64 a0_5, .int .i64 a0_6, .int .i64 a0_7, .int .i64 a0_8, .int .i64 a0_9, (.slice A0_10 l0_10.length c0_10)] 29 (0, 0))) ∧ Aside0 (w'.heap[gb168]? = some (.cells #[.int .i64 a1_0, (.slice A1_1 l1_1.length c1_1), (.slice A1_2 l1_2.length c1_2), .int .i64 a1_3, .int .i64 a1_4, .int .i64 a1_5, .int .i64 a1_6, .int .i64 a1_7, .int .i64 a1_8, .int .i64 a1_9, (.slice A1_10 l1_10.length c1_10)] 29 (0, 0))) ∧ Aside0 (w'.heap[gb188]? = some (.cells #[.int .i64 t171, u189001, u189002, .int .i64 t178, .int .i64 t179, .int .i64 t180, .int .i64 t181, .int .i64 t182, .int .i64 t183, .int .i64 t184, u189010] 29 (0, 0))) ∧ Aside0 (w'.heap[gb209]? = some (.cells #[.int .i64 t192, (.slice Ao76 x210001_3.length co76), (.slice Ao91 x210002_4.length co91), .int .i64 t199, .int .i64 t200, .int .i64 t201, .int .i64 t202, .int .i64 t203, .int .i64 t204, .int .i64 t205, u210010] 29 (0, 0))) ∧ Aside0 (Below w.heap.size w w'))
              case atStart => exact ⟨(0), (t185), (t206), (.slice Ao29 t185.length co29), (.slice Ao58 t206.length co58), (by first | rfl | (simp; done) | (simp [*]; done)), H', ⟨Nat.le_refl _⟩, ⟨by (with_reducible repeat (first | apply Kd.R_alloc | apply Kd.R_drewN | apply Kd.R_drew)); exact HO_189001.out⟩, ⟨by (with_reducible repeat (first | apply Kd.R_alloc | apply Kd.R_drewN | apply Kd.R_drew)); exact HO_189002.out⟩, ⟨by (with_reducible repeat (first | apply Kd.S_alloc | apply Kd.S_drewN | apply Kd.S_drew)); exact HO_189010.out⟩, ⟨by (with_reducible repeat (first | apply Kd.R_alloc | apply Kd.R_drewN | apply Kd.R_drew)); exact HO_210001.out⟩, ⟨by (with_reducible repeat (first | apply Kd.R_alloc | apply Kd.R_drewN | apply Kd.R_drew)); exact HO_210002.out⟩, ⟨by (with_reducible repeat (first | apply Kd.S_alloc | apply Kd.S_drewN | apply Kd.S_drew)); exact HO_210010.out⟩, ⟨by (with_reducible repeat (first | refine yh ?_ _ | refine yj ?_ | refine yi ?_ _)); exact BK167.out⟩, ⟨by (with_reducible repeat (first | refine yh ?_ _ | refine yj ?_ | refine yi ?_ _)); exact BK168.out⟩, ⟨by (with_reducible repeat (first | refine yh ?_ _ | refine yj ?_ | refine yi ?_ _)); exact BK188.out⟩, ⟨by (with_reducible repeat (first | refine yh ?_ _ | refine yj ?_ | refine yi ?_ _)); exact BK209.out⟩, ⟨by repeat (first | (with_reducible first | exact HB.out | apply yd | apply ye | apply yf | refine yg ?_ GE167.out | refine yg ?_ GE168.out | refine yg ?_ GE188.out | refine yg ?_ GE209.out) | exact HB.out)⟩⟩
              case round =>
               clear H'
               try clear c1; try clear c2; try clear p2; try clear q2; try clear hx2; try clear c3; try clear c4; try clear c5; try clear c6; try clear p6; try clear q6; try clear hx6; try clear hf6; try clear c7; try clear p7; try clear q7; try clear hx7; try clear hf7; try clear c8; try clear hx8; try clear hf8; try clear c17; try clear c19; try clear c20; try clear p21; try clear q21; try clear hx21; try clear c24; try clear c25; try clear c26; try clear c32; try clear c32b0; try clear c32b1; try clear c32b2; try clear c43; try clear c46; try clear c47; try clear c48; try clear c52; try clear c53; try clear c54; try clear c59; try clear c62; try clear c62b0; try clear c63; try clear c63b0; try clear c64; try clear p64; try clear q64; try clear hx64; try clear hf64; try clear c65; try clear c66; try clear c67; try clear c70; try clear hx70; try clear hf70; try clear c72; try clear c73; try clear c74; try clear c77; try clear c77b0; try clear c78; try clear c78b0; try clear c79; try clear p79; try clear q79; try clear hx79; try clear hf79; try clear c80; try clear c81; try clear c82; try clear c85; try clear hx85; try clear hf85; try clear c87; try clear c88; try clear c89; try clear hcz21_0; try clear hcz21_1; try clear hcz21_10; try clear hcz21_2; try clear hcz21_3; try clear hcz21_4; try clear hcz21_5; try clear hcz21_6; try clear hcz21_7; try clear hcz21_8; try clear hcz21_9; try clear hcz26_0; try clear hcz26_1; try clear hcz26_10; try clear hcz26_2; try clear hcz26_3; try clear hcz26_4; try clear hcz26_5; try clear hcz26_6; try clear hcz26_7; try clear hcz26_8; try clear hcz26_9; try clear hcz49_0; try clear hcz49_1; try clear hcz49_10; try clear hcz49_2; try clear hcz49_3; try clear hcz49_4; try clear hcz49_5; try clear hcz49_6; try clear hcz49_7; try clear hcz49_8; try clear hcz49_9; try clear hcz55_0; try clear hcz55_1; try clear hcz55_10; try clear hcz55_2; try clear hcz55_3; try clear hcz55_4; try clear hcz55_5; try clear hcz55_6; try clear hcz55_7; try clear hcz55_8; try clear hcz55_9; try clear hcz60_0; try clear hcz60_1; try clear hcz60_10; try clear hcz60_2; try clear hcz60_3; try clear hcz60_4; try clear hcz60_5; try clear hcz60_6; try clear hcz60_7; try clear hcz60_8; try clear hcz60_9; try clear hcz68_0; try clear hcz68_1; try clear hcz68_10; try clear hcz68_2; try clear hcz68_3; try clear hcz68_4; try clear hcz68_5; try clear hcz68_6; try clear hcz68_7; try clear hcz68_8; try clear hcz68_9; try clear hcz75_0; try clear hcz75_1; try clear hcz75_10; try clear hcz75_2; try clear hcz75_3; try clear hcz75_4; try clear hcz75_5; try clear hcz75_6; try clear hcz75_7; try clear hcz75_8; try clear hcz75_9; try clear hcz83_0; try clear hcz83_1; try clear hcz83_10; try clear hcz83_2; try clear hcz83_3; try clear hcz83_4; try clear hcz83_5; try clear hcz83_6; try clear hcz83_7; try clear hcz83_8; try clear hcz83_9; try clear hcz90_0; try clear hcz90_1; try clear hcz90_10; try clear hcz90_2; try clear hcz90_3; try clear hcz90_4
               try clear hcz90_5; try clear hcz90_6; try clear hcz90_7; try clear hcz90_8; try clear hcz90_9; try clear hfz21_0; try clear hfz21_1; try clear hfz21_10; try clear hfz21_2; try clear hfz21_3; try clear hfz21_4; try clear hfz21_5; try clear hfz21_6; try clear hfz21_7; try clear hfz21_8; try clear hfz21_9; try clear hfz26_0; try clear hfz26_1; try clear hfz26_10; try clear hfz26_2; try clear hfz26_3; try clear hfz26_4; try clear hfz26_5; try clear hfz26_6; try clear hfz26_7; try clear hfz26_8; try clear hfz26_9; try clear hfz49_0; try clear hfz49_1; try clear hfz49_10; try clear hfz49_2; try clear hfz49_3; try clear hfz49_4; try clear hfz49_5; try clear hfz49_6; try clear hfz49_7; try clear hfz49_8; try clear hfz49_9; try clear hfz55_0; try clear hfz55_1; try clear hfz55_10; try clear hfz55_2; try clear hfz55_3; try clear hfz55_4; try clear hfz55_5; try clear hfz55_6; try clear hfz55_7; try clear hfz55_8; try clear hfz55_9; try clear hfz60_0; try clear hfz60_1; try clear hfz60_10; try clear hfz60_2; try clear hfz60_3; try clear hfz60_4; try clear hfz60_5; try clear hfz60_6; try clear hfz60_7; try clear hfz60_8; try clear hfz60_9; try clear hfz68_0; try clear hfz68_1; try clear hfz68_10; try clear hfz68_2; try clear hfz68_3; try clear hfz68_4; try clear hfz68_5; try clear hfz68_6; try clear hfz68_7; try clear hfz68_8; try clear hfz68_9; try clear hfz75_0; try clear hfz75_1; try clear hfz75_10; try clear hfz75_2; try clear hfz75_3; try clear hfz75_4; try clear hfz75_5; try clear hfz75_6; try clear hfz75_7; try clear hfz75_8; try clear hfz75_9; try clear hfz83_0; try clear hfz83_1; try clear hfz83_10; try clear hfz83_2; try clear hfz83_3; try clear hfz83_4; try clear hfz83_5; try clear hfz83_6; try clear hfz83_7; try clear hfz83_8; try clear hfz83_9; try clear hfz90_0; try clear hfz90_1; try clear hfz90_10; try clear hfz90_2; try clear hfz90_3; try clear hfz90_4; try clear hfz90_5; try clear hfz90_6; try clear hfz90_7; try clear hfz90_8; try clear hfz90_9; try clear hx211_0; try clear hx211_1; try clear hx213_0; try clear hx213_1; try clear hx64_0; try clear hx64_1; try clear hx70_0; try clear hx79_0; try clear hx79_1; try clear hx85_1; try clear p2; try clear p21; try clear p211; try clear p213; try clear p6; try clear p64; try clear p79; try clear q2; try clear q21; try clear q211; try clear q213; try clear q6; try clear q64; try clear q79
               obtain ⟨x9_5, x189010_5, x210010_5, u189010, u210010, rfl, HA, HK5, HO_189001, HO_189002, HO_189010, HO_210001, HO_210002, HO_210010, BK167, BK168, BK188, BK209, HB⟩ := hrel
               cases gk with
               | zero => exact absurd HA.out (by simp [outriderlaw17_JobCopies.l2])
               | succ k5 =>
                have H := HA.out
                clear HA
                simp only [outriderlaw17_JobCopies.l2] at H
                by_cases c92 : x9_5 < (x210010_5.length : Int)
                ·rw [if_pos c92] at H
                 have c92b0 : decide (x9_5 < (x210010_5.length : Int)) = true := decide_eq_true c92
                 clear c92
                 have H' := yc H
                 clear H
                 have hnb93 := NB209_167.out
                 have hnc93 := NB167_209.out
                 have hnb94 := NB209_168.out
                 have hnc94 := NB168_209.out
                 have hnb95 := NB209_188.out
                 have hnc95 := NB188_209.out
                 have hcz96_0 : wr.cell? ⟨gb209, 0, none⟩ = some (.int .i64 t192) := (ya BK209.out 0).trans rfl
                 have hcz96_1 : wr.cell? ⟨gb209, 1, none⟩ = some (.slice Ao76 x210001_3.length co76) := (ya BK209.out 1).trans rfl
                 have hcz96_2 : wr.cell? ⟨gb209, 2, none⟩ = some (.slice Ao91 x210002_4.length co91) := (ya BK209.out 2).trans rfl
                 have hcz96_3 : wr.cell? ⟨gb209, 3, none⟩ = some (.int .i64 t199) := (ya BK209.out 3).trans rfl
                 have hcz96_4 : wr.cell? ⟨gb209, 4, none⟩ = some (.int .i64 t200) := (ya BK209.out 4).trans rfl
                 have hcz96_5 : wr.cell? ⟨gb209, 5, none⟩ = some (.int .i64 t201) := (ya BK209.out 5).trans rfl
                 have hcz96_6 : wr.cell? ⟨gb209, 6, none⟩ = some (.int .i64 t202) := (ya BK209.out 6).trans rfl
                 have hcz96_7 : wr.cell? ⟨gb209, 7, none⟩ = some (.int .i64 t203) := (ya BK209.out 7).trans rfl
                 have hcz96_8 : wr.cell? ⟨gb209, 8, none⟩ = some (.int .i64 t204) := (ya BK209.out 8).trans rfl
                 have hcz96_9 : wr.cell? ⟨gb209, 9, none⟩ = some (.int .i64 t205) := (ya BK209.out 9).trans rfl
                 have hcz96_10 : wr.cell? ⟨gb209, 10, none⟩ = some (u210010) := (ya BK209.out 10).trans rfl
                 have hfz96_0 := yb BK209.out 0
                 have hfz96_1 := yb BK209.out 1
                 have hfz96_2 := yb BK209.out 2
                 have hfz96_3 := yb BK209.out 3
                 have hfz96_4 := yb BK209.out 4
                 have hfz96_5 := yb BK209.out 5
                 have hfz96_6 := yb BK209.out 6
                 have hfz96_7 := yb BK209.out 7
                 have hfz96_8 := yb BK209.out 8
                 have hfz96_9 := yb BK209.out 9
                 have hfz96_10 := yb BK209.out 10
                 obtain ⟨Ao97, co97, eo97⟩ := Kd.S_slice HO_210010.out
                 subst eo97
                 go_wp2
                 go_loopg [10] k5 (fun kq v10 w' => ∃ (x10_6 : Int) (x189010_6 : List (List (S66))) (x210010_6 : List (List (S66))) (u189010 : Value) (u210010 : Value), v10 = .int .i64 x10_6 ∧ Aside0 (outriderlaw17_JobCopies.l3 kq x9_5 x10_6 a0_0 l0_1 l0_2 a0_3 a0_4 a0_5 a0_6 a0_7 a0_8 a0_9 l0_10 t171 x189001_3 x189002_4 t178 t179 t180 t181 t182 t183 t184 x189010_6 t192 x210001_3 x210002_4 t199 t200 t201 t202 t203 t204 t205 x210010_6 = some true) ∧ Aside0 (kq ≤ k5) ∧ Aside0 (Kd.R k58 58 w' w.heap.size (fun k_ => some k_ ≠ ((.slice Ao76 x210001_3.length co76) : Value).ownBlock) u189001 x189001_3) ∧ Aside0 (Kd.R k61 61 w' w.heap.size (fun k_ => some k_ ≠ ((.slice Ao91 x210002_4.length co91) : Value).ownBlock) u189002 x189002_4) ∧ Aside0 (Kd.S (Kd.slice 66 k66) 62 w' w.heap.size (fun k_ => some k_ ≠ (u210010 : Value).ownBlock ∧ k_ < NB) u189010 x189010_6) ∧ Aside0 (Kd.R k58 58 w' w.heap.size (fun k_ => some k_ ≠ (u189001 : Value).ownBlock) (.slice Ao76 x210001_3.length co76) x210001_3) ∧ Aside0 (Kd.R k61 61 w' w.heap.size (fun k_ => some k_ ≠ (u189002 : Value).ownBlock) (.slice Ao91 x210002_4.length co91) x210002_4) ∧ Aside0 (Kd.S (Kd.slice 66 k66) 62 w' w.heap.size (fun k_ => some k_ ≠ (u189010 : Value).ownBlock ∧ NB ≤ k_) u210010 x210010_6) ∧ Aside0 (w'.heap[gb167]? = some (.cells #[.int .i64 a0_0, (.slice A0_1 l0_1.length c0_1), (.slice A0_2 l0_2.length c0_2), .int .i64 a0_3, .int .i64 a0_4, .int .i64 a0_5, .int .i64 a0_6, .int .i64 a0_7, .int .i64 a0_8, .int .i64 a0_9, (.slice A0_10 l0_10.length c0_10)] 29 (0, 0))) ∧ Aside0 (w'.heap[gb168]? = some (.cells #[.int .i64 a1_0, (.slice A1_1 l1_1.length c1_1), (.slice A1_2 l1_2.length c1_2), .int .i64 a1_3, .int .i64 a1_4, .int .i64 a1_5, .int .i64 a1_6, .int .i64 a1_7, .int .i64 a1_8, .int .i64 a1_9, (.slice A1_10 l1_10.length c1_10)] 29 (0, 0))) ∧ Aside0 (w'.heap[gb188]? = some (.cells #[.int .i64 t171, u189001, u189002, .int .i64 t178, .int .i64 t179, .int .i64 t180, .int .i64 t181, .int .i64 t182, .int .i64 t183, .int .i64 t184, u189010] 29 (0, 0))) ∧ Aside0 (w'.heap[gb209]? = some (.cells #[.int .i64 t192, (.slice Ao76 x210001_3.length co76), (.slice Ao91 x210002_4.length co91), .int .i64 t199, .int .i64 t200, .int .i64 t201, .int .i64 t202, .int .i64 t203, .int .i64 t204, .int .i64 t205, u210010] 29 (0, 0))) ∧ Aside0 (Below w.heap.size w w'))
                 case atStart => exact ⟨(0), (x189010_5), (x210010_5), (u189010), (.slice Ao97 x210010_5.length co97), (by first | rfl | (simp; done) | (simp [*]; done)), H', ⟨Nat.le_refl _⟩, ⟨by (with_reducible repeat (first | apply Kd.R_alloc | apply Kd.R_drewN | apply Kd.R_drew)); exact HO_189001.out⟩, ⟨by (with_reducible repeat (first | apply Kd.R_alloc | apply Kd.R_drewN | apply Kd.R_drew)); exact HO_189002.out⟩, ⟨by (with_reducible repeat (first | apply Kd.S_alloc | apply Kd.S_drewN | apply Kd.S_drew)); exact HO_189010.out⟩, ⟨by (with_reducible repeat (first | apply Kd.R_alloc | apply Kd.R_drewN | apply Kd.R_drew)); exact HO_210001.out⟩, ⟨by (with_reducible repeat (first | apply Kd.R_alloc | apply Kd.R_drewN | apply Kd.R_drew)); exact HO_210002.out⟩, ⟨by (with_reducible repeat (first | apply Kd.S_alloc | apply Kd.S_drewN | apply Kd.S_drew)); exact HO_210010.out⟩, ⟨by (with_reducible repeat (first | refine yh ?_ _ | refine yj ?_ | refine yi ?_ _)); exact BK167.out⟩, ⟨by (with_reducible repeat (first | refine yh ?_ _ | refine yj ?_ | refine yi ?_ _)); exact BK168.out⟩, ⟨by (with_reducible repeat (first | refine yh ?_ _ | refine yj ?_ | refine yi ?_ _)); exact BK188.out⟩, ⟨by (with_reducible repeat (first | refine yh ?_ _ | refine yj ?_ | refine yi ?_ _)); exact BK209.out⟩, ⟨by repeat (first | (with_reducible first | exact HB.out | apply yd | apply ye | apply yf | refine yg ?_ GE167.out | refine yg ?_ GE168.out | refine yg ?_ GE188.out | refine yg ?_ GE209.out) | exact HB.out)⟩⟩
                 case round =>
                  clear H'
                  try clear c1; try clear c2; try clear p2; try clear q2; try clear hx2; try clear c3; try clear c4; try clear c5; try clear c6; try clear p6; try clear q6; try clear hx6; try clear hf6; try clear c7; try clear p7; try clear q7; try clear hx7; try clear hf7; try clear c8; try clear hx8; try clear hf8; try clear c9; try clear c17; try clear c19; try clear c20; try clear p21; try clear q21; try clear hx21; try clear c24; try clear c25; try clear c26; try clear c32; try clear c32b0; try clear c32b1; try clear c32b2; try clear c43; try clear c46; try clear c47; try clear c48; try clear c52; try clear c53; try clear c54; try clear c59; try clear c62; try clear c62b0; try clear c63; try clear c63b0; try clear c64; try clear p64; try clear q64; try clear hx64; try clear hf64; try clear c65; try clear c66; try clear c67; try clear c70; try clear hx70; try clear hf70; try clear c72; try clear c73; try clear c74; try clear c77; try clear c77b0; try clear c78; try clear c78b0; try clear c79; try clear p79; try clear q79; try clear hx79; try clear hf79; try clear c80; try clear c81; try clear c82; try clear c85; try clear hx85; try clear hf85; try clear c87; try clear c88; try clear c89; try clear c92; try clear c92b0; try clear c93; try clear c94; try clear c95; try clear hcz21_0; try clear hcz21_1; try clear hcz21_10; try clear hcz21_2; try clear hcz21_3; try clear hcz21_4; try clear hcz21_5; try clear hcz21_6; try clear hcz21_7; try clear hcz21_8; try clear hcz21_9; try clear hcz26_0; try clear hcz26_1; try clear hcz26_10; try clear hcz26_2; try clear hcz26_3; try clear hcz26_4; try clear hcz26_5; try clear hcz26_6; try clear hcz26_7; try clear hcz26_8; try clear hcz26_9; try clear hcz49_0; try clear hcz49_1; try clear hcz49_10; try clear hcz49_2; try clear hcz49_3; try clear hcz49_4; try clear hcz49_5; try clear hcz49_6; try clear hcz49_7; try clear hcz49_8; try clear hcz49_9; try clear hcz55_0; try clear hcz55_1; try clear hcz55_10; try clear hcz55_2; try clear hcz55_3; try clear hcz55_4; try clear hcz55_5; try clear hcz55_6; try clear hcz55_7; try clear hcz55_8; try clear hcz55_9; try clear hcz60_0; try clear hcz60_1; try clear hcz60_10; try clear hcz60_2; try clear hcz60_3; try clear hcz60_4; try clear hcz60_5; try clear hcz60_6; try clear hcz60_7; try clear hcz60_8; try clear hcz60_9; try clear hcz68_0; try clear hcz68_1; try clear hcz68_10; try clear hcz68_2; try clear hcz68_3; try clear hcz68_4; try clear hcz68_5; try clear hcz68_6; try clear hcz68_7; try clear hcz68_8; try clear hcz68_9; try clear hcz75_0; try clear hcz75_1; try clear hcz75_10; try clear hcz75_2; try clear hcz75_3; try clear hcz75_4; try clear hcz75_5; try clear hcz75_6; try clear hcz75_7; try clear hcz75_8; try clear hcz75_9; try clear hcz83_0; try clear hcz83_1; try clear hcz83_10; try clear hcz83_2; try clear hcz83_3; try clear hcz83_4; try clear hcz83_5; try clear hcz83_6; try clear hcz83_7; try clear hcz83_8; try clear hcz83_9; try clear hcz90_0
                  try clear hcz90_1; try clear hcz90_10; try clear hcz90_2; try clear hcz90_3; try clear hcz90_4; try clear hcz90_5; try clear hcz90_6; try clear hcz90_7; try clear hcz90_8; try clear hcz90_9; try clear hcz96_0; try clear hcz96_1; try clear hcz96_10; try clear hcz96_2; try clear hcz96_3; try clear hcz96_4; try clear hcz96_5; try clear hcz96_6; try clear hcz96_7; try clear hcz96_8; try clear hcz96_9; try clear hfz21_0; try clear hfz21_1; try clear hfz21_10; try clear hfz21_2; try clear hfz21_3; try clear hfz21_4; try clear hfz21_5; try clear hfz21_6; try clear hfz21_7; try clear hfz21_8; try clear hfz21_9; try clear hfz26_0; try clear hfz26_1; try clear hfz26_10; try clear hfz26_2; try clear hfz26_3; try clear hfz26_4; try clear hfz26_5; try clear hfz26_6; try clear hfz26_7; try clear hfz26_8; try clear hfz26_9; try clear hfz49_0; try clear hfz49_1; try clear hfz49_10; try clear hfz49_2; try clear hfz49_3; try clear hfz49_4; try clear hfz49_5; try clear hfz49_6; try clear hfz49_7; try clear hfz49_8; try clear hfz49_9; try clear hfz55_0; try clear hfz55_1; try clear hfz55_10; try clear hfz55_2; try clear hfz55_3; try clear hfz55_4; try clear hfz55_5; try clear hfz55_6; try clear hfz55_7; try clear hfz55_8; try clear hfz55_9; try clear hfz60_0; try clear hfz60_1; try clear hfz60_10; try clear hfz60_2; try clear hfz60_3; try clear hfz60_4; try clear hfz60_5; try clear hfz60_6; try clear hfz60_7; try clear hfz60_8; try clear hfz60_9; try clear hfz68_0; try clear hfz68_1; try clear hfz68_10; try clear hfz68_2; try clear hfz68_3; try clear hfz68_4; try clear hfz68_5; try clear hfz68_6; try clear hfz68_7; try clear hfz68_8; try clear hfz68_9; try clear hfz75_0; try clear hfz75_1; try clear hfz75_10; try clear hfz75_2; try clear hfz75_3; try clear hfz75_4; try clear hfz75_5; try clear hfz75_6; try clear hfz75_7; try clear hfz75_8; try clear hfz75_9; try clear hfz83_0; try clear hfz83_1; try clear hfz83_10; try clear hfz83_2; try clear hfz83_3; try clear hfz83_4; try clear hfz83_5; try clear hfz83_6; try clear hfz83_7; try clear hfz83_8; try clear hfz83_9; try clear hfz90_0; try clear hfz90_1; try clear hfz90_10; try clear hfz90_2; try clear hfz90_3; try clear hfz90_4; try clear hfz90_5; try clear hfz90_6; try clear hfz90_7; try clear hfz90_8; try clear hfz90_9; try clear hfz96_0; try clear hfz96_1; try clear hfz96_10; try clear hfz96_2; try clear hfz96_3; try clear hfz96_4; try clear hfz96_5; try clear hfz96_6; try clear hfz96_7; try clear hfz96_8; try clear hfz96_9; try clear hx211_0; try clear hx211_1; try clear hx213_0; try clear hx213_1; try clear hx64_0; try clear hx64_1; try clear hx70_0; try clear hx79_0; try clear hx79_1; try clear hx85_1; try clear p2; try clear p21; try clear p211; try clear p213; try clear p6; try clear p64; try clear p7; try clear p79; try clear q2; try clear q21; try clear q211; try clear q213; try clear q6; try clear q64; try clear q7; try clear q79
                  obtain ⟨x10_6, x189010_6, x210010_6, u189010, u210010, rfl, HA, HK6, HO_189001, HO_189002, HO_189010, HO_210001, HO_210002, HO_210010, BK167, BK168, BK188, BK209, HB⟩ := hrel
                  cases gk with
                  | zero => exact absurd HA.out (by simp [outriderlaw17_JobCopies.l3])
                  | succ k6 =>
                   have H := HA.out
                   clear HA
                   simp only [outriderlaw17_JobCopies.l3] at H
                   by_cases c98 : 0 ≤ x9_5
                   ·rw [if_pos c98] at H
                    have c98b0 : decide (0 ≤ x9_5) = true := decide_eq_true c98
                    clear c98
                    by_cases c99 : x9_5 < (x210010_6.length : Int)
                    ·rw [if_pos c99] at H
                     have c99b0 : decide (x9_5 < (x210010_6.length : Int)) = true := decide_eq_true c99
                     clear c99
                     by_cases c100 : x10_6 < ((rd_L2 x210010_6 x9_5).length : Int)
                     ·rw [if_pos c100] at H
                      have c100b0 : decide (x10_6 < ((rd_L2 x210010_6 x9_5).length : Int)) = true := decide_eq_true c100
                      clear c100
                      by_cases c101 : 0 ≤ x10_6
                      ·rw [if_pos c101] at H
                       have c101b0 : decide (0 ≤ x10_6) = true := decide_eq_true c101
                       clear c101
                       obtain ⟨y220, hy220⟩ : ∃ y_ : List (S66), y_ = ((rd_L2 x210010_6 x9_5).set (x10_6 : Int).toNat (⟨(rd_T66 (rd_L2 x210010_6 x9_5) x10_6).f0, (rd_T66 (rd_L2 x210010_6 x9_5) x10_6).f1, (rd_T66 (rd_L2 x210010_6 x9_5) x10_6).f2, (rd_T66 (rd_L2 x210010_6 x9_5) x10_6).f3, (rd_T66 (rd_L2 x210010_6 x9_5) x10_6).f4, wrap64 (((rd_T66 (rd_L2 x210010_6 x9_5) x10_6).f5) + 1)⟩ : S66)) := ⟨_, rfl⟩
                       replace H : (outriderlaw17_JobCopies.l3 k6 x9_5 (wrap64 (x10_6 + 1)) a0_0 l0_1 l0_2 a0_3 a0_4 a0_5 a0_6 a0_7 a0_8 a0_9 l0_10 t171 x189001_3 x189002_4 t178 t179 t180 t181 t182 t183 t184 x189010_6 t192 x210001_3 x210002_4 t199 t200 t201 t202 t203 t204 t205 (x210010_6.set (x9_5 : Int).toNat y220)) = some true := by first | (rw [hy220]; with_reducible exact H) | (have H2_ := (Option.bind_some _ _).symm.trans H; rw [hy220]; with_reducible exact H2_) | (have H2_ := (Option.bind_some _ _).symm.trans H; with_reducible exact H2_) | with_reducible exact H | (rw [hy220]; exact H) | exact H
                       have Ny220 := yc hy220
                       clear hy220
                       obtain ⟨y222, hy222⟩ : ∃ y_ : List (List (S66)), y_ = (x210010_6.set (x9_5 : Int).toNat y220) := ⟨_, rfl⟩
                       replace H : (outriderlaw17_JobCopies.l3 k6 x9_5 (wrap64 (x10_6 + 1)) a0_0 l0_1 l0_2 a0_3 a0_4 a0_5 a0_6 a0_7 a0_8 a0_9 l0_10 t171 x189001_3 x189002_4 t178 t179 t180 t181 t182 t183 t184 x189010_6 t192 x210001_3 x210002_4 t199 t200 t201 t202 t203 t204 t205 y222) = some true := by first | (rw [hy222]; with_reducible exact H) | (have H2_ := (Option.bind_some _ _).symm.trans H; rw [hy222]; with_reducible exact H2_) | (have H2_ := (Option.bind_some _ _).symm.trans H; with_reducible exact H2_) | with_reducible exact H | (rw [hy222]; exact H) | exact H
                       have Ny222 := yc hy222
                       clear hy222
                       have H' := yc H
                       clear H
                       have hnb103 := NB209_167.out
                       have hnc103 := NB167_209.out
                       have hnb104 := NB209_168.out
                       have hnc104 := NB168_209.out
                       have hnb105 := NB209_188.out
                       have hnc105 := NB188_209.out
                       have hcz106_0 : wr.cell? ⟨gb209, 0, none⟩ = some (.int .i64 t192) := (ya BK209.out 0).trans rfl
                       have hcz106_1 : wr.cell? ⟨gb209, 1, none⟩ = some (.slice Ao76 x210001_3.length co76) := (ya BK209.out 1).trans rfl
                       have hcz106_2 : wr.cell? ⟨gb209, 2, none⟩ = some (.slice Ao91 x210002_4.length co91) := (ya BK209.out 2).trans rfl
                       have hcz106_3 : wr.cell? ⟨gb209, 3, none⟩ = some (.int .i64 t199) := (ya BK209.out 3).trans rfl
                       have hcz106_4 : wr.cell? ⟨gb209, 4, none⟩ = some (.int .i64 t200) := (ya BK209.out 4).trans rfl
                       have hcz106_5 : wr.cell? ⟨gb209, 5, none⟩ = some (.int .i64 t201) := (ya BK209.out 5).trans rfl
                       have hcz106_6 : wr.cell? ⟨gb209, 6, none⟩ = some (.int .i64 t202) := (ya BK209.out 6).trans rfl
                       have hcz106_7 : wr.cell? ⟨gb209, 7, none⟩ = some (.int .i64 t203) := (ya BK209.out 7).trans rfl
                       have hcz106_8 : wr.cell? ⟨gb209, 8, none⟩ = some (.int .i64 t204) := (ya BK209.out 8).trans rfl
                       have hcz106_9 : wr.cell? ⟨gb209, 9, none⟩ = some (.int .i64 t205) := (ya BK209.out 9).trans rfl
                       have hcz106_10 : wr.cell? ⟨gb209, 10, none⟩ = some (u210010) := (ya BK209.out 10).trans rfl
                       have hfz106_0 := yb BK209.out 0
                       have hfz106_1 := yb BK209.out 1
                       have hfz106_2 := yb BK209.out 2
                       have hfz106_3 := yb BK209.out 3
                       have hfz106_4 := yb BK209.out 4
                       have hfz106_5 := yb BK209.out 5
                       have hfz106_6 := yb BK209.out 6
                       have hfz106_7 := yb BK209.out 7
                       have hfz106_8 := yb BK209.out 8
                       have hfz106_9 := yb BK209.out 9
                       have hfz106_10 := yb BK209.out 10
                       obtain ⟨Ao107, co107, eo107⟩ := Kd.S_slice HO_210010.out
                       subst eo107
                       have p217 : 0 ≤ (x9_5 : Int) := of_decide_eq_true (by first | (with_reducible assumption) | assumption)
                       have q217 : x9_5 < (x210010_6.length : Int) := of_decide_eq_true (by first | (with_reducible assumption) | assumption)
                       obtain ⟨ad217, A217_0, c217_0, e217, hx217_0, hl217_0, hi217_0⟩ := at_L2 (Kd.S_reads' HO_210010.out).2.2 x9_5 p217 q217
                       cases e217
                       obtain ⟨ce217, hce217, hMe217, hcc217⟩ := Kd.S_get HO_210010.out [] x9_5 p217 (by first | exact q217 | exact of_decide_eq_true (by first | (with_reducible assumption) | assumption) | (have e_ := (Kd.S_reads' HO_210010.out).1; omega))
                       obtain ⟨ve217_0, rfl, ge217_0⟩ := hMe217
                       have hv217_0 := hcc217 0 _ rfl
                       rw [Nat.add_zero, show ((Kd.slice 66 k66)).sz = 1 from rfl, Nat.mul_one] at hv217_0
                       replace hv217_0 := Option.some.inj (hv217_0.symm.trans hx217_0)
                       rw [hv217_0] at ge217_0
                       have HL217_0 := yc (show Kd.R k66 66 _ _ _ _ (rd_L2 x210010_6 x9_5) from ge217_0)
                       clear hv217_0 ge217_0
                       have HX217_0 := yc hx217_0
                       clear hcc217 hce217
                       have HR217_0 := yc hi217_0
                       have HC217_0 := yc hl217_0
                       clear hi217_0 hl217_0
                       replace p217 := eq_true p217
                       replace q217 := eq_true q217
                       have p218 : 0 ≤ (x9_5 : Int) := of_decide_eq_true (by first | (with_reducible assumption) | assumption)
                       have q218 : x9_5 < (x210010_6.length : Int) := of_decide_eq_true (by first | (with_reducible assumption) | assumption)
                       obtain ⟨ad218, A218_0, c218_0, e218, hx218_0, hl218_0, hi218_0⟩ := at_L2 (Kd.S_reads' HO_210010.out).2.2 x9_5 p218 q218
                       obtain rfl : ad217 = ad218 := (by injection e218)
                       obtain ⟨ce218, hce218, hMe218, hcc218⟩ := Kd.S_get HO_210010.out [] x9_5 p218 (by first | exact q218 | exact of_decide_eq_true (by first | (with_reducible assumption) | assumption) | (have e_ := (Kd.S_reads' HO_210010.out).1; omega))
                       obtain ⟨ve218_0, rfl, ge218_0⟩ := hMe218
                       have hv218_0 := hcc218 0 _ rfl
                       rw [Nat.add_zero, show ((Kd.slice 66 k66)).sz = 1 from rfl, Nat.mul_one] at hv218_0
                       replace hv218_0 := Option.some.inj (hv218_0.symm.trans hx218_0)
                       rw [hv218_0] at ge218_0
                       have HL218_0 := yc (show Kd.R k66 66 _ _ _ _ (rd_L2 x210010_6 x9_5) from ge218_0)
                       clear hv218_0 ge218_0
                       have HX218_0 := yc hx218_0
                       clear hcc218 hce218
                       have HR218_0 := yc hi218_0
                       have HC218_0 := yc hl218_0
                       clear hi218_0 hl218_0
                       replace p218 := eq_true p218
                       replace q218 := eq_true q218
                       have ea_ := Option.some.inj (hx217_0.symm.trans hx218_0)
                       injection ea_ with ea_ en_ ec_
                       subst ea_
                       subst ec_
                       clear en_
                       have p219 : 0 ≤ (x10_6 : Int) := of_decide_eq_true (by first | (with_reducible assumption) | assumption)
                       have q219 : x10_6 < ((rd_L2 x210010_6 x9_5).length : Int) := of_decide_eq_true (by first | (with_reducible assumption) | assumption)
                       obtain ⟨ad219, e219, hx219_0, hx219_1, hx219_2, hx219_3, hx219_4, hx219_5⟩ := at_T66 (by repeat (first | (with_reducible exact HR218_0.out) | (with_reducible refine Kd.C_alloc ?_ _) | (with_reducible refine Kd.C_drewN ?_ _) | (with_reducible refine Kd.C_drew ?_) | exact HR218_0.out)) x10_6 p219 q219
                       cases e219
                       replace p219 := eq_true p219
                       replace q219 := eq_true q219
                       have p102 : 0 ≤ (x10_6 : Int) := of_decide_eq_true (by first | (with_reducible assumption) | assumption)
                       have q102 : (x10_6 : Int) < (((rd_L2 x210010_6 x9_5).length : Int) : Int) := of_decide_eq_true (by first | (with_reducible assumption) | assumption)
                       obtain ⟨go102, co102, eo102, gb102, gl102, cl102, HG102⟩ := Kd.R_form HL218_0.out (by omega)
                       (first | cases eo102 | (injection eo102 with ea_ en_ ec_; (first | subst ea_ | (injection ea_ with ea_; subst ea_)); subst ec_; clear en_))
                       have GB102 := yc gb102
                       have GG102 := yc HG102
                       clear gb102 gl102 HG102
                       (first | simp only [add_plain] at hx219_0 | skip)
                       (first | simp only [add_plain] at hx219_1 | skip)
                       (first | simp only [add_plain] at hx219_2 | skip)
                       (first | simp only [add_plain] at hx219_3 | skip)
                       (first | simp only [add_plain] at hx219_4 | skip)
                       (first | simp only [add_plain] at hx219_5 | skip)
                       obtain ⟨ce102, hcl102, hM102, hcc102, hfr102⟩ := Kd.R_elem HL218_0.out z66 (x10_6 : Int) p102 q102
                       obtain rfl := k66_openM hM102
                       have hx102_0 : wr.cell? ⟨go102, (x10_6 : Int).toNat * 6, none⟩ = some (.int .i64 ((rd_T66 (rd_L2 x210010_6 x9_5) x10_6).f0)) := hcc102 0 _ rfl
                       have hx102_1 : wr.cell? ⟨go102, (x10_6 : Int).toNat * 6 + 1, none⟩ = some (.int .i64 ((rd_T66 (rd_L2 x210010_6 x9_5) x10_6).f1)) := hcc102 1 _ rfl
                       have hx102_2 : wr.cell? ⟨go102, (x10_6 : Int).toNat * 6 + 2, none⟩ = some (.int .i64 ((rd_T66 (rd_L2 x210010_6 x9_5) x10_6).f2)) := hcc102 2 _ rfl
                       have hx102_3 : wr.cell? ⟨go102, (x10_6 : Int).toNat * 6 + 3, none⟩ = some (.int .i64 ((rd_T66 (rd_L2 x210010_6 x9_5) x10_6).f3)) := hcc102 3 _ rfl
                       have hx102_4 : wr.cell? ⟨go102, (x10_6 : Int).toNat * 6 + 4, none⟩ = some (.int .i64 ((rd_T66 (rd_L2 x210010_6 x9_5) x10_6).f4)) := hcc102 4 _ rfl
                       have hx102_5 : wr.cell? ⟨go102, (x10_6 : Int).toNat * 6 + 5, none⟩ = some (.int .i64 ((rd_T66 (rd_L2 x210010_6 x9_5) x10_6).f5)) := hcc102 5 _ rfl
                       have hf102_0 : wr.frozen? ⟨go102, (x10_6 : Int).toNat * 6, none⟩ = false := hfr102 0
                       have hf102_1 : wr.frozen? ⟨go102, (x10_6 : Int).toNat * 6 + 1, none⟩ = false := hfr102 1
                       have hf102_2 : wr.frozen? ⟨go102, (x10_6 : Int).toNat * 6 + 2, none⟩ = false := hfr102 2
                       have hf102_3 : wr.frozen? ⟨go102, (x10_6 : Int).toNat * 6 + 3, none⟩ = false := hfr102 3
                       have hf102_4 : wr.frozen? ⟨go102, (x10_6 : Int).toNat * 6 + 4, none⟩ = false := hfr102 4
                       have hf102_5 : wr.frozen? ⟨go102, (x10_6 : Int).toNat * 6 + 5, none⟩ = false := hfr102 5
                       clear hcl102 hcc102 hfr102 hM102
                       replace p102 := eq_true p102
                       replace q102 := eq_true q102
                       have hq108 : (x9_5 : Int) < (x210010_6.length : Int) := (by have h_ : (x9_5 : Int) < ((x210010_6.length : Int) : Int) := of_decide_eq_true (by first | (with_reducible assumption) | assumption); first | exact h_ | (have e_ := (Kd.S_reads' HO_210010.out).1; omega) | simpa only [List.length_set, List.length_set] using h_)
                       obtain ⟨oki108, ce108, hcl108, hM108, hcc108, hok108, hbk108⟩ := Kd.S_borrow HO_210010.out [] (x9_5 : Int) (of_decide_eq_true (by first | (with_reducible assumption) | assumption)) hq108
                       obtain ⟨ve108_0, rfl, ge108_0⟩ := hM108
                       have hv108 := hcc108 0 _ rfl
                       rw [Nat.add_zero, show ((Kd.slice 66 k66)).sz = 1 from rfl, Nat.mul_one] at hv108
                       replace hv108 := Option.some.inj (hv108.symm.trans HX218_0.out)
                       subst hv108
                       clear hcc108 hcl108
                       replace ge108_0 := (show Kd.R k66 66 _ _ _ _ (rd_L2 x210010_6 x9_5) from ge108_0)
                       obtain ⟨cf108, hcl108, hN108, hcc108, hfr108⟩ := Kd.R_elem ge108_0 z66 (x10_6 : Int) (of_decide_eq_true (by first | (with_reducible assumption) | assumption)) (by have h_ : (x10_6 : Int) < (((rd_L2 x210010_6 x9_5).length : Int) : Int) := of_decide_eq_true (by first | (with_reducible assumption) | assumption); first | exact h_ | (have e_ := (Kd.R_reads' HR218_0.out).1; omega) | simpa using h_)
                       obtain rfl := k66_openM hN108
                       have HP108 := Kd.R_seg ge108_0 (x10_6 : Int) (of_decide_eq_true (by first | (with_reducible assumption) | assumption)) (by have h_ : (x10_6 : Int) < (((rd_L2 x210010_6 x9_5).length : Int) : Int) := of_decide_eq_true (by first | (with_reducible assumption) | assumption); first | exact h_ | (have e_ := (Kd.R_reads' HR218_0.out).1; omega) | simpa using h_) (seg := [.int .i64 (wrap64 (((rd_T66 (rd_L2 x210010_6 x9_5) x10_6).f5) + 1))]) (j := 5) hcl108 hcc108 (show 6 ≤ 6 from by decide) (x' := (⟨(rd_T66 (rd_L2 x210010_6 x9_5) x10_6).f0, (rd_T66 (rd_L2 x210010_6 x9_5) x10_6).f1, (rd_T66 (rd_L2 x210010_6 x9_5) x10_6).f2, (rd_T66 (rd_L2 x210010_6 x9_5) x10_6).f3, (rd_T66 (rd_L2 x210010_6 x9_5) x10_6).f4, wrap64 (((rd_T66 (rd_L2 x210010_6 x9_5) x10_6).f5) + 1)⟩ : S66)) (k66_mkM _ _ _ (⟨(rd_T66 (rd_L2 x210010_6 x9_5) x10_6).f0, (rd_T66 (rd_L2 x210010_6 x9_5) x10_6).f1, (rd_T66 (rd_L2 x210010_6 x9_5) x10_6).f2, (rd_T66 (rd_L2 x210010_6 x9_5) x10_6).f3, (rd_T66 (rd_L2 x210010_6 x9_5) x10_6).f4, wrap64 (((rd_T66 (rd_L2 x210010_6 x9_5) x10_6).f5) + 1)⟩ : S66)) (fun _ hk => hk)
                       clear hcl108 hcc108 hfr108 hN108
                       go_wp2_with (first | ((with_reducible refine gate_store (t := 2) (p := 98) rfl ?_); refine store_event (t := 2) (p := 98) (v := ?vo_w109) (w1 := (wr.setCell ⟨go102, (x10_6 : Int).toNat * 6 + 5, none⟩ (.int .i64 (wrap64 (((rd_T66 (rd_L2 x210010_6 x9_5) x10_6).f5) + 1))))) ?hg ?ho ?hn ?hr ?_; (case ho => rfl); (case hg => rfl); (case hn => rfl); (case hr => first | (go_simp; done) | (go_simp; rfl)); intro w109 hw; have hg : wr.grownBy w109 (some go102) := (by rw [hw]; exact HP108.2); have hz_ : Kd.R k66 66 w109 w.heap.size oki108 (.slice (some ⟨go102, 0, none⟩) (rd_L2 x210010_6 x9_5).length c217_0) y220 := (by rw [hw, Ny220.out]; exact HP108.1); have hp_ : Kd.S (Kd.slice 66 k66) 62 w109 w.heap.size (fun k_ => some k_ ≠ (u189010 : Value).ownBlock ∧ NB ≤ k_) (.slice (some ad217) x210010_6.length co107) y222 := (by rw [Ny222.out]; exact hbk108 hg (fun k_ e_ => by injection e_ with e_; subst e_; exact ge108_0.1 _ rfl) (Kd.M_row hz_)); have hm_ := Kd.R_mono hz_ hok108; clear HP108 hbk108; have n0_ := yc (Kd.R_over' (v := (.slice (some ⟨go102, 0, none⟩) (rd_L2 x210010_6 x9_5).length c217_0)) (by (with_reducible repeat (first | apply Kd.R_alloc | apply Kd.R_drewN | apply Kd.R_drew)); exact HO_189001.out) (Kd.R_typed HL218_0.out) (by decide) hg); have n1_ := yc (Kd.R_over' (v := (.slice (some ⟨go102, 0, none⟩) (rd_L2 x210010_6 x9_5).length c217_0)) (by (with_reducible repeat (first | apply Kd.R_alloc | apply Kd.R_drewN | apply Kd.R_drew)); exact HO_189002.out) (Kd.R_typed HL218_0.out) (by decide) hg); have n2_ := yc (Kd.S_grown (by (with_reducible repeat (first | apply Kd.S_alloc | apply Kd.S_drewN | apply Kd.S_drew)); exact HO_189010.out) hg (fun k_ hk e_ => by have h1_ : NB ≤ go102 := (hok108 _ (ge108_0.1 _ rfl)).1.2; have h2_ := hk.2; injection e_ with e_; omega)); have n3_ := yc (Kd.R_over' (v := (.slice (some ⟨go102, 0, none⟩) (rd_L2 x210010_6 x9_5).length c217_0)) (by (with_reducible repeat (first | apply Kd.R_alloc | apply Kd.R_drewN | apply Kd.R_drew)); exact HO_210001.out) (Kd.R_typed HL218_0.out) (by decide) hg); have n4_ := yc (Kd.R_over' (v := (.slice (some ⟨go102, 0, none⟩) (rd_L2 x210010_6 x9_5).length c217_0)) (by (with_reducible repeat (first | apply Kd.R_alloc | apply Kd.R_drewN | apply Kd.R_drew)); exact HO_210002.out) (Kd.R_typed HL218_0.out) (by decide) hg); have n5_ := yc (hp_); have n6_ := yc (blk_grown (g := gb167) (o := .cells #[.int .i64 a0_0, .slice A0_1 l0_1.length c0_1, .slice A0_2 l0_2.length c0_2, .int .i64 a0_3, .int .i64 a0_4, .int .i64 a0_5, .int .i64 a0_6, .int .i64 a0_7, .int .i64 a0_8, .int .i64 a0_9, .slice A0_10 l0_10.length c0_10] 29 (0, 0)) (by (with_reducible repeat (first | refine yh ?_ _ | refine yj ?_ | refine yi ?_ _)); exact BK167.out) hg (Kd.R_ne HL218_0.out BK167.out (by decide))); have n7_ := yc (blk_grown (g := gb168) (o := .cells #[.int .i64 a1_0, .slice A1_1 l1_1.length c1_1, .slice A1_2 l1_2.length c1_2, .int .i64 a1_3, .int .i64 a1_4, .int .i64 a1_5, .int .i64 a1_6, .int .i64 a1_7, .int .i64 a1_8, .int .i64 a1_9, .slice A1_10 l1_10.length c1_10] 29 (0, 0)) (by (with_reducible repeat (first | refine yh ?_ _ | refine yj ?_ | refine yi ?_ _)); exact BK168.out) hg (Kd.R_ne HL218_0.out BK168.out (by decide))); have n8_ := yc (blk_grown (g := gb188) (o := .cells #[.int .i64 t171, u189001, u189002, .int .i64 t178, .int .i64 t179, .int .i64 t180, .int .i64 t181, .int .i64 t182, .int .i64 t183, .int .i64 t184, u189010] 29 (0, 0)) (by (with_reducible repeat (first | refine yh ?_ _ | refine yj ?_ | refine yi ?_ _)); exact BK188.out) hg (Kd.R_ne HL218_0.out BK188.out (by decide))); have n9_ := yc (blk_grown (g := gb209) (o := .cells #[.int .i64 t192, .slice Ao76 x210001_3.length co76, .slice Ao91 x210002_4.length co91, .int .i64 t199, .int .i64 t200, .int .i64 t201, .int .i64 t202, .int .i64 t203, .int .i64 t204, .int .i64 t205, .slice (some ad217) x210010_6.length co107] 29 (0, 0)) (by (with_reducible repeat (first | refine yh ?_ _ | refine yj ?_ | refine yi ?_ _)); exact BK209.out) hg (Kd.R_ne HL218_0.out BK209.out (by decide))); have n10_ := yc ((by rw [hw]; exact yg (HB.out) GB102.out : Below w.heap.size w w109)); have n11_ := yc (hm_); have n12_ := yc ((Kd.R_reads' hm_).2.1); clear HO_189001; clear HO_189002; clear HO_189010; clear HO_210001; clear HO_210002; clear HO_210010; clear BK167; clear BK168; clear BK188; clear BK209; clear HB; clear HL217_0; clear HL218_0; have HO_189001 := n0_; have HO_189002 := n1_; have HO_189010 := n2_; have HO_210001 := n3_; have HO_210002 := n4_; have HO_210010 := n5_; have BK167 := n6_; have BK168 := n7_; have BK188 := n8_; have BK209 := n9_; have HB := n10_; have HL223 := n11_; have HC221 := n12_; clear n0_ n1_ n2_ n3_ n4_ n5_ n6_ n7_ n8_ n9_ n10_ n11_ n12_; clear hg hw hp_ hz_ hm_ hok108))
                       go_roundg k6
                       case measure => have := HJ2.out; have := HJ18.out; have := HK3.out; have := HK4.out; have := HK5.out; have := HK6.out; omega
                       case rel => exact ⟨(wrap64 (x10_6 + 1)), (x189010_6), (y222), (u189010), (.slice (some ad217) x210010_6.length co107), (by first | rfl | (simp; done) | (simp [*]; done)), H', ⟨by have := HJ2.out; have := HJ18.out; have := HK3.out; have := HK4.out; have := HK5.out; have := HK6.out; omega⟩, ⟨by (with_reducible repeat (first | apply Kd.R_alloc | apply Kd.R_drewN | apply Kd.R_drew)); exact HO_189001.out⟩, ⟨by (with_reducible repeat (first | apply Kd.R_alloc | apply Kd.R_drewN | apply Kd.R_drew)); exact HO_189002.out⟩, ⟨by (with_reducible repeat (first | apply Kd.S_alloc | apply Kd.S_drewN | apply Kd.S_drew)); exact HO_189010.out⟩, ⟨by (with_reducible repeat (first | apply Kd.R_alloc | apply Kd.R_drewN | apply Kd.R_drew)); exact HO_210001.out⟩, ⟨by (with_reducible repeat (first | apply Kd.R_alloc | apply Kd.R_drewN | apply Kd.R_drew)); exact HO_210002.out⟩, ⟨by (with_reducible repeat (first | apply Kd.S_alloc | apply Kd.S_drewN | apply Kd.S_drew)); exact HO_210010.out⟩, ⟨by (with_reducible repeat (first | refine yh ?_ _ | refine yj ?_ | refine yi ?_ _)); exact BK167.out⟩, ⟨by (with_reducible repeat (first | refine yh ?_ _ | refine yj ?_ | refine yi ?_ _)); exact BK168.out⟩, ⟨by (with_reducible repeat (first | refine yh ?_ _ | refine yj ?_ | refine yi ?_ _)); exact BK188.out⟩, ⟨by (with_reducible repeat (first | refine yh ?_ _ | refine yj ?_ | refine yi ?_ _)); exact BK209.out⟩, ⟨by repeat (first | (with_reducible first | exact HB.out | apply yd | apply ye | apply yf | refine yg ?_ GE167.out | refine yg ?_ GE168.out | refine yg ?_ GE188.out | refine yg ?_ GE209.out) | exact HB.out)⟩⟩
                      ·rw [if_neg c101] at H
                       exact absurd H (by simp)
                     ·rw [if_neg c100] at H
                      have c100b0 : decide (x10_6 < ((rd_L2 x210010_6 x9_5).length : Int)) = false := decide_eq_false c100
                      clear c100
                      have H' := yc H
                      clear H
                      have hnb110 := NB209_167.out
                      have hnc110 := NB167_209.out
                      have hnb111 := NB209_168.out
                      have hnc111 := NB168_209.out
                      have hnb112 := NB209_188.out
                      have hnc112 := NB188_209.out
                      have hcz113_0 : wr.cell? ⟨gb209, 0, none⟩ = some (.int .i64 t192) := (ya BK209.out 0).trans rfl
                      have hcz113_1 : wr.cell? ⟨gb209, 1, none⟩ = some (.slice Ao76 x210001_3.length co76) := (ya BK209.out 1).trans rfl
                      have hcz113_2 : wr.cell? ⟨gb209, 2, none⟩ = some (.slice Ao91 x210002_4.length co91) := (ya BK209.out 2).trans rfl
                      have hcz113_3 : wr.cell? ⟨gb209, 3, none⟩ = some (.int .i64 t199) := (ya BK209.out 3).trans rfl
                      have hcz113_4 : wr.cell? ⟨gb209, 4, none⟩ = some (.int .i64 t200) := (ya BK209.out 4).trans rfl
                      have hcz113_5 : wr.cell? ⟨gb209, 5, none⟩ = some (.int .i64 t201) := (ya BK209.out 5).trans rfl
                      have hcz113_6 : wr.cell? ⟨gb209, 6, none⟩ = some (.int .i64 t202) := (ya BK209.out 6).trans rfl
                      have hcz113_7 : wr.cell? ⟨gb209, 7, none⟩ = some (.int .i64 t203) := (ya BK209.out 7).trans rfl
                      have hcz113_8 : wr.cell? ⟨gb209, 8, none⟩ = some (.int .i64 t204) := (ya BK209.out 8).trans rfl
                      have hcz113_9 : wr.cell? ⟨gb209, 9, none⟩ = some (.int .i64 t205) := (ya BK209.out 9).trans rfl
                      have hcz113_10 : wr.cell? ⟨gb209, 10, none⟩ = some (u210010) := (ya BK209.out 10).trans rfl
                      have hfz113_0 := yb BK209.out 0
                      have hfz113_1 := yb BK209.out 1
                      have hfz113_2 := yb BK209.out 2
                      have hfz113_3 := yb BK209.out 3
                      have hfz113_4 := yb BK209.out 4
                      have hfz113_5 := yb BK209.out 5
                      have hfz113_6 := yb BK209.out 6
                      have hfz113_7 := yb BK209.out 7
                      have hfz113_8 := yb BK209.out 8
                      have hfz113_9 := yb BK209.out 9
                      have hfz113_10 := yb BK209.out 10
                      obtain ⟨Ao114, co114, eo114⟩ := Kd.S_slice HO_210010.out
                      subst eo114
                      have p217 : 0 ≤ (x9_5 : Int) := of_decide_eq_true (by first | (with_reducible assumption) | assumption)
                      have q217 : x9_5 < (x210010_6.length : Int) := of_decide_eq_true (by first | (with_reducible assumption) | assumption)
                      obtain ⟨ad217, A217_0, c217_0, e217, hx217_0, hl217_0, hi217_0⟩ := at_L2 (Kd.S_reads' HO_210010.out).2.2 x9_5 p217 q217
                      cases e217
                      obtain ⟨ce217, hce217, hMe217, hcc217⟩ := Kd.S_get HO_210010.out [] x9_5 p217 (by first | exact q217 | exact of_decide_eq_true (by first | (with_reducible assumption) | assumption) | (have e_ := (Kd.S_reads' HO_210010.out).1; omega))
                      obtain ⟨ve217_0, rfl, ge217_0⟩ := hMe217
                      have hv217_0 := hcc217 0 _ rfl
                      rw [Nat.add_zero, show ((Kd.slice 66 k66)).sz = 1 from rfl, Nat.mul_one] at hv217_0
                      replace hv217_0 := Option.some.inj (hv217_0.symm.trans hx217_0)
                      rw [hv217_0] at ge217_0
                      have HL217_0 := yc (show Kd.R k66 66 _ _ _ _ (rd_L2 x210010_6 x9_5) from ge217_0)
                      clear hv217_0 ge217_0
                      have HX217_0 := yc hx217_0
                      clear hcc217 hce217
                      have HR217_0 := yc hi217_0
                      have HC217_0 := yc hl217_0
                      clear hi217_0 hl217_0
                      replace p217 := eq_true p217
                      replace q217 := eq_true q217
                      go_wp2
                      go_roundg k6
                      case measure => have := HJ2.out; have := HJ18.out; have := HK3.out; have := HK4.out; have := HK5.out; have := HK6.out; omega
                      case rel => exact ⟨(wrap64 (x9_5 + 1)), (x189010_6), (x210010_6), (u189010), (.slice (some ad217) x210010_6.length co114), (by first | rfl | (simp; done) | (simp [*]; done)), H', ⟨by have := HJ2.out; have := HJ18.out; have := HK3.out; have := HK4.out; have := HK5.out; have := HK6.out; omega⟩, ⟨by (with_reducible repeat (first | apply Kd.R_alloc | apply Kd.R_drewN | apply Kd.R_drew)); exact HO_189001.out⟩, ⟨by (with_reducible repeat (first | apply Kd.R_alloc | apply Kd.R_drewN | apply Kd.R_drew)); exact HO_189002.out⟩, ⟨by (with_reducible repeat (first | apply Kd.S_alloc | apply Kd.S_drewN | apply Kd.S_drew)); exact HO_189010.out⟩, ⟨by (with_reducible repeat (first | apply Kd.R_alloc | apply Kd.R_drewN | apply Kd.R_drew)); exact HO_210001.out⟩, ⟨by (with_reducible repeat (first | apply Kd.R_alloc | apply Kd.R_drewN | apply Kd.R_drew)); exact HO_210002.out⟩, ⟨by (with_reducible repeat (first | apply Kd.S_alloc | apply Kd.S_drewN | apply Kd.S_drew)); exact HO_210010.out⟩, ⟨by (with_reducible repeat (first | refine yh ?_ _ | refine yj ?_ | refine yi ?_ _)); exact BK167.out⟩, ⟨by (with_reducible repeat (first | refine yh ?_ _ | refine yj ?_ | refine yi ?_ _)); exact BK168.out⟩, ⟨by (with_reducible repeat (first | refine yh ?_ _ | refine yj ?_ | refine yi ?_ _)); exact BK188.out⟩, ⟨by (with_reducible repeat (first | refine yh ?_ _ | refine yj ?_ | refine yi ?_ _)); exact BK209.out⟩, ⟨by repeat (first | (with_reducible first | exact HB.out | apply yd | apply ye | apply yf | refine yg ?_ GE167.out | refine yg ?_ GE168.out | refine yg ?_ GE188.out | refine yg ?_ GE209.out) | exact HB.out)⟩⟩
                    ·rw [if_neg c99] at H
                     exact absurd H (by simp)
                   ·rw [if_neg c98] at H
                    exact absurd H (by simp)
                ·rw [if_neg c92] at H
                 have c92b0 : decide (x9_5 < (x210010_5.length : Int)) = false := decide_eq_false c92
                 clear c92
                 replace H := Option.bind_eq_some_iff.mp H
                 obtain ⟨t215, A1150, H⟩ := H
                 replace H : (if t215 = true then ((outriderlaw17_alive.f).bind fun t216 => (some t216)) else (some false)) = some true := H
                 have A115 := yc A1150
                 clear A1150
                 by_cases c116 : t215 = true
                 ·subst c116
                  have H1 : ((outriderlaw17_alive.f).bind fun t216 => (some t216)) = some true := by rw [if_pos rfl] at H; exact H
                  clear H
                  have H := H1
                  clear H1
                  replace H := Option.bind_eq_some_iff.mp H
                  obtain ⟨t216, A1170, H⟩ := H
                  replace H : (some t216) = some true := H
                  have A117 := yc A1170
                  clear A1170
                  obtain rfl := Option.some.inj H
                  have hnb118 := NB209_167.out
                  have hnc118 := NB167_209.out
                  have hnb119 := NB209_168.out
                  have hnc119 := NB168_209.out
                  have hnb120 := NB209_188.out
                  have hnc120 := NB188_209.out
                  have hcz121_0 : wr.cell? ⟨gb209, 0, none⟩ = some (.int .i64 t192) := (ya BK209.out 0).trans rfl
                  have hcz121_1 : wr.cell? ⟨gb209, 1, none⟩ = some (.slice Ao76 x210001_3.length co76) := (ya BK209.out 1).trans rfl
                  have hcz121_2 : wr.cell? ⟨gb209, 2, none⟩ = some (.slice Ao91 x210002_4.length co91) := (ya BK209.out 2).trans rfl
                  have hcz121_3 : wr.cell? ⟨gb209, 3, none⟩ = some (.int .i64 t199) := (ya BK209.out 3).trans rfl
                  have hcz121_4 : wr.cell? ⟨gb209, 4, none⟩ = some (.int .i64 t200) := (ya BK209.out 4).trans rfl
                  have hcz121_5 : wr.cell? ⟨gb209, 5, none⟩ = some (.int .i64 t201) := (ya BK209.out 5).trans rfl
                  have hcz121_6 : wr.cell? ⟨gb209, 6, none⟩ = some (.int .i64 t202) := (ya BK209.out 6).trans rfl
                  have hcz121_7 : wr.cell? ⟨gb209, 7, none⟩ = some (.int .i64 t203) := (ya BK209.out 7).trans rfl
                  have hcz121_8 : wr.cell? ⟨gb209, 8, none⟩ = some (.int .i64 t204) := (ya BK209.out 8).trans rfl
                  have hcz121_9 : wr.cell? ⟨gb209, 9, none⟩ = some (.int .i64 t205) := (ya BK209.out 9).trans rfl
                  have hcz121_10 : wr.cell? ⟨gb209, 10, none⟩ = some (u210010) := (ya BK209.out 10).trans rfl
                  have hfz121_0 := yb BK209.out 0
                  have hfz121_1 := yb BK209.out 1
                  have hfz121_2 := yb BK209.out 2
                  have hfz121_3 := yb BK209.out 3
                  have hfz121_4 := yb BK209.out 4
                  have hfz121_5 := yb BK209.out 5
                  have hfz121_6 := yb BK209.out 6
                  have hfz121_7 := yb BK209.out 7
                  have hfz121_8 := yb BK209.out 8
                  have hfz121_9 := yb BK209.out 9
                  have hfz121_10 := yb BK209.out 10
                  obtain ⟨Ao122, co122, eo122⟩ := Kd.S_slice HO_210010.out
                  subst eo122
                  have hnb123 := NB167_168.out
                  have hnc123 := NB168_167.out
                  have hnb124 := NB167_188.out
                  have hnc124 := NB188_167.out
                  have hcz125_0 : wr.cell? ⟨gb167, 0, none⟩ = some (.int .i64 a0_0) := (ya BK167.out 0).trans rfl
                  have hcz125_1 : wr.cell? ⟨gb167, 1, none⟩ = some (.slice A0_1 l0_1.length c0_1) := (ya BK167.out 1).trans rfl
                  have hcz125_2 : wr.cell? ⟨gb167, 2, none⟩ = some (.slice A0_2 l0_2.length c0_2) := (ya BK167.out 2).trans rfl
                  have hcz125_3 : wr.cell? ⟨gb167, 3, none⟩ = some (.int .i64 a0_3) := (ya BK167.out 3).trans rfl
                  have hcz125_4 : wr.cell? ⟨gb167, 4, none⟩ = some (.int .i64 a0_4) := (ya BK167.out 4).trans rfl
                  have hcz125_5 : wr.cell? ⟨gb167, 5, none⟩ = some (.int .i64 a0_5) := (ya BK167.out 5).trans rfl
                  have hcz125_6 : wr.cell? ⟨gb167, 6, none⟩ = some (.int .i64 a0_6) := (ya BK167.out 6).trans rfl
                  have hcz125_7 : wr.cell? ⟨gb167, 7, none⟩ = some (.int .i64 a0_7) := (ya BK167.out 7).trans rfl
                  have hcz125_8 : wr.cell? ⟨gb167, 8, none⟩ = some (.int .i64 a0_8) := (ya BK167.out 8).trans rfl
                  have hcz125_9 : wr.cell? ⟨gb167, 9, none⟩ = some (.int .i64 a0_9) := (ya BK167.out 9).trans rfl
                  have hcz125_10 : wr.cell? ⟨gb167, 10, none⟩ = some (.slice A0_10 l0_10.length c0_10) := (ya BK167.out 10).trans rfl
                  have hfz125_0 := yb BK167.out 0
                  have hfz125_1 := yb BK167.out 1
                  have hfz125_2 := yb BK167.out 2
                  have hfz125_3 := yb BK167.out 3
                  have hfz125_4 := yb BK167.out 4
                  have hfz125_5 := yb BK167.out 5
                  have hfz125_6 := yb BK167.out 6
                  have hfz125_7 := yb BK167.out 7
                  have hfz125_8 := yb BK167.out 8
                  have hfz125_9 := yb BK167.out 9
                  have hfz125_10 := yb BK167.out 10
                  have hnb126 := NB188_168.out
                  have hnc126 := NB168_188.out
                  have hcz127_0 : wr.cell? ⟨gb188, 0, none⟩ = some (.int .i64 t171) := (ya BK188.out 0).trans rfl
                  have hcz127_1 : wr.cell? ⟨gb188, 1, none⟩ = some (u189001) := (ya BK188.out 1).trans rfl
                  have hcz127_2 : wr.cell? ⟨gb188, 2, none⟩ = some (u189002) := (ya BK188.out 2).trans rfl
                  have hcz127_3 : wr.cell? ⟨gb188, 3, none⟩ = some (.int .i64 t178) := (ya BK188.out 3).trans rfl
                  have hcz127_4 : wr.cell? ⟨gb188, 4, none⟩ = some (.int .i64 t179) := (ya BK188.out 4).trans rfl
                  have hcz127_5 : wr.cell? ⟨gb188, 5, none⟩ = some (.int .i64 t180) := (ya BK188.out 5).trans rfl
                  have hcz127_6 : wr.cell? ⟨gb188, 6, none⟩ = some (.int .i64 t181) := (ya BK188.out 6).trans rfl
                  have hcz127_7 : wr.cell? ⟨gb188, 7, none⟩ = some (.int .i64 t182) := (ya BK188.out 7).trans rfl
                  have hcz127_8 : wr.cell? ⟨gb188, 8, none⟩ = some (.int .i64 t183) := (ya BK188.out 8).trans rfl
                  have hcz127_9 : wr.cell? ⟨gb188, 9, none⟩ = some (.int .i64 t184) := (ya BK188.out 9).trans rfl
                  have hcz127_10 : wr.cell? ⟨gb188, 10, none⟩ = some (u189010) := (ya BK188.out 10).trans rfl
                  have hfz127_0 := yb BK188.out 0
                  have hfz127_1 := yb BK188.out 1
                  have hfz127_2 := yb BK188.out 2
                  have hfz127_3 := yb BK188.out 3
                  have hfz127_4 := yb BK188.out 4
                  have hfz127_5 := yb BK188.out 5
                  have hfz127_6 := yb BK188.out 6
                  have hfz127_7 := yb BK188.out 7
                  have hfz127_8 := yb BK188.out 8
                  have hfz127_9 := yb BK188.out 9
                  have hfz127_10 := yb BK188.out 10
                  obtain ⟨Ao128, co128, eo128⟩ := Kd.R_slice HO_189001.out
                  subst eo128
                  obtain ⟨Ao129, co129, eo129⟩ := Kd.R_slice HO_189002.out
                  subst eo129
                  obtain ⟨Ao130, co130, eo130⟩ := Kd.S_slice HO_189010.out
                  subst eo130
                  go_wp2_with (first | ((with_reducible refine gate_callee (f := 19) rfl ?_); refine goesL_ (some 101) rfl rfl Tryz.func19 (by kernel_rfl) rfl #[.agg #[.int .i64 a0_0, .slice A0_1 l0_1.length c0_1, .slice A0_2 l0_2.length c0_2, .int .i64 a0_3, .int .i64 a0_4, .int .i64 a0_5, .int .i64 a0_6, .int .i64 a0_7, .int .i64 a0_8, .int .i64 a0_9, .slice A0_10 l0_10.length c0_10], .agg #[.int .i64 t171, .slice Ao128 x189001_3.length co128, .slice Ao129 x189002_4.length co129, .int .i64 t178, .int .i64 t179, .int .i64 t180, .int .i64 t181, .int .i64 t182, .int .i64 t183, .int .i64 t184, .slice Ao130 x189010_5.length co130]] rfl (by (try simp only [List.map_toArray, List.map_cons, List.map_nil]); first | done | rfl | (simp only [List.length_drop, List.length_take]; rfl)) ?_; (with_reducible refine (outriderref17_Same.calls k5 a0_0 _ _ l0_1 _ _ l0_2 a0_3 a0_4 a0_5 a0_6 a0_7 a0_8 a0_9 _ _ l0_10 t171 _ _ x189001_3 _ _ x189002_4 t178 t179 t180 t181 t182 t183 t184 _ _ x189010_5 true _ ?side1 ?side2 ?side3 ?side4 ?side5 ?side6 ?side7 ?side8 ?side9 ?side10 ?side11 ?side12 A115.out).mono ?_); (case side1 => repeat (first | exact (Kd.C_below HR0_1.out HB.out) | (with_reducible refine Kd.C_alloc ?_ _) | (with_reducible refine Kd.C_drewN ?_ _) | (with_reducible refine Kd.C_drew ?_))); (case side2 => exact HC0_1.out); (case side3 => repeat (first | exact (Kd.C_below HR0_2.out HB.out) | (with_reducible refine Kd.C_alloc ?_ _) | (with_reducible refine Kd.C_drewN ?_ _) | (with_reducible refine Kd.C_drew ?_))); (case side4 => exact HC0_2.out); (case side5 => repeat (first | exact (Kd.C_below HR0_10.out HB.out) | (with_reducible refine Kd.C_alloc ?_ _) | (with_reducible refine Kd.C_drewN ?_ _) | (with_reducible refine Kd.C_drew ?_))); (case side6 => exact HC0_10.out); (case side7 => repeat (first | exact (Kd.R_reads' HO_189001.out).2.2 | (with_reducible refine Kd.C_alloc ?_ _) | (with_reducible refine Kd.C_drewN ?_ _) | (with_reducible refine Kd.C_drew ?_))); (case side8 => exact (Kd.R_reads' HO_189001.out).2.1); (case side9 => repeat (first | exact (Kd.R_reads' HO_189002.out).2.2 | (with_reducible refine Kd.C_alloc ?_ _) | (with_reducible refine Kd.C_drewN ?_ _) | (with_reducible refine Kd.C_drew ?_))); (case side10 => exact (Kd.R_reads' HO_189002.out).2.1); (case side11 => repeat (first | exact (Kd.S_reads' HO_189010.out).2.2 | (with_reducible refine Kd.C_alloc ?_ _) | (with_reducible refine Kd.C_drewN ?_ _) | (with_reducible refine Kd.C_drew ?_))); (case side12 => exact (Kd.S_reads' HO_189010.out).2.1); rintro e w131 ⟨rfl, hb⟩; refine ⟨_, rfl, ?_⟩; have n0_ := yc (Kd.R_below (by (with_reducible repeat (first | apply Kd.R_alloc | apply Kd.R_drewN | apply Kd.R_drew)); exact HO_189001.out) hb); have n1_ := yc (Kd.R_below (by (with_reducible repeat (first | apply Kd.R_alloc | apply Kd.R_drewN | apply Kd.R_drew)); exact HO_189002.out) hb); have n2_ := yc (Kd.S_below (by (with_reducible repeat (first | apply Kd.S_alloc | apply Kd.S_drewN | apply Kd.S_drew)); exact HO_189010.out) hb); have n3_ := yc (Kd.R_below (by (with_reducible repeat (first | apply Kd.R_alloc | apply Kd.R_drewN | apply Kd.R_drew)); exact HO_210001.out) hb); have n4_ := yc (Kd.R_below (by (with_reducible repeat (first | apply Kd.R_alloc | apply Kd.R_drewN | apply Kd.R_drew)); exact HO_210002.out) hb); have n5_ := yc (Kd.S_below (by (with_reducible repeat (first | apply Kd.S_alloc | apply Kd.S_drewN | apply Kd.S_drew)); exact HO_210010.out) hb); have n6_ := yc (blk_below (g := gb167) (o := .cells #[.int .i64 a0_0, .slice A0_1 l0_1.length c0_1, .slice A0_2 l0_2.length c0_2, .int .i64 a0_3, .int .i64 a0_4, .int .i64 a0_5, .int .i64 a0_6, .int .i64 a0_7, .int .i64 a0_8, .int .i64 a0_9, .slice A0_10 l0_10.length c0_10] 29 (0, 0)) (by (with_reducible repeat (first | refine yh ?_ _ | refine yj ?_ | refine yi ?_ _)); exact BK167.out) hb); have n7_ := yc (blk_below (g := gb168) (o := .cells #[.int .i64 a1_0, .slice A1_1 l1_1.length c1_1, .slice A1_2 l1_2.length c1_2, .int .i64 a1_3, .int .i64 a1_4, .int .i64 a1_5, .int .i64 a1_6, .int .i64 a1_7, .int .i64 a1_8, .int .i64 a1_9, .slice A1_10 l1_10.length c1_10] 29 (0, 0)) (by (with_reducible repeat (first | refine yh ?_ _ | refine yj ?_ | refine yi ?_ _)); exact BK168.out) hb); have n8_ := yc (blk_below (g := gb188) (o := .cells #[.int .i64 t171, .slice Ao128 x189001_3.length co128, .slice Ao129 x189002_4.length co129, .int .i64 t178, .int .i64 t179, .int .i64 t180, .int .i64 t181, .int .i64 t182, .int .i64 t183, .int .i64 t184, .slice Ao130 x189010_5.length co130] 29 (0, 0)) (by (with_reducible repeat (first | refine yh ?_ _ | refine yj ?_ | refine yi ?_ _)); exact BK188.out) hb); have n9_ := yc (blk_below (g := gb209) (o := .cells #[.int .i64 t192, .slice Ao76 x210001_3.length co76, .slice Ao91 x210002_4.length co91, .int .i64 t199, .int .i64 t200, .int .i64 t201, .int .i64 t202, .int .i64 t203, .int .i64 t204, .int .i64 t205, .slice Ao122 x210010_5.length co122] 29 (0, 0)) (by (with_reducible repeat (first | refine yh ?_ _ | refine yj ?_ | refine yi ?_ _)); exact BK209.out) hb); have n10_ := yc (below_step (by repeat (first | (with_reducible first | exact HB.out | apply yd | apply ye | apply yf | refine yg ?_ GE167.out | refine yg ?_ GE168.out | refine yg ?_ GE188.out | refine yg ?_ GE209.out) | exact HB.out)) hb); clear HO_189001; clear HO_189002; clear HO_189010; clear HO_210001; clear HO_210002; clear HO_210010; clear BK167; clear BK168; clear BK188; clear BK209; clear HB; have HO_189001 := n0_; have HO_189002 := n1_; have HO_189010 := n2_; have HO_210001 := n3_; have HO_210002 := n4_; have HO_210010 := n5_; have BK167 := n6_; have BK168 := n7_; have BK188 := n8_; have BK209 := n9_; have HB := n10_; clear n0_ n1_ n2_ n3_ n4_ n5_ n6_ n7_ n8_ n9_ n10_; (try clear hb); (try clear hb2); (try clear hk); (try clear hi)) | (go_at_call 14; (with_reducible refine (outriderlaw17_alive.calls  true _ A117.out).mono ?_); rintro e w132 ⟨rfl, hb⟩; have n0_ := yc (Kd.R_below (by (with_reducible repeat (first | apply Kd.R_alloc | apply Kd.R_drewN | apply Kd.R_drew)); exact HO_189001.out) hb); have n1_ := yc (Kd.R_below (by (with_reducible repeat (first | apply Kd.R_alloc | apply Kd.R_drewN | apply Kd.R_drew)); exact HO_189002.out) hb); have n2_ := yc (Kd.S_below (by (with_reducible repeat (first | apply Kd.S_alloc | apply Kd.S_drewN | apply Kd.S_drew)); exact HO_189010.out) hb); have n3_ := yc (Kd.R_below (by (with_reducible repeat (first | apply Kd.R_alloc | apply Kd.R_drewN | apply Kd.R_drew)); exact HO_210001.out) hb); have n4_ := yc (Kd.R_below (by (with_reducible repeat (first | apply Kd.R_alloc | apply Kd.R_drewN | apply Kd.R_drew)); exact HO_210002.out) hb); have n5_ := yc (Kd.S_below (by (with_reducible repeat (first | apply Kd.S_alloc | apply Kd.S_drewN | apply Kd.S_drew)); exact HO_210010.out) hb); have n6_ := yc (blk_below (g := gb167) (o := .cells #[.int .i64 a0_0, .slice A0_1 l0_1.length c0_1, .slice A0_2 l0_2.length c0_2, .int .i64 a0_3, .int .i64 a0_4, .int .i64 a0_5, .int .i64 a0_6, .int .i64 a0_7, .int .i64 a0_8, .int .i64 a0_9, .slice A0_10 l0_10.length c0_10] 29 (0, 0)) (by (with_reducible repeat (first | refine yh ?_ _ | refine yj ?_ | refine yi ?_ _)); exact BK167.out) hb); have n7_ := yc (blk_below (g := gb168) (o := .cells #[.int .i64 a1_0, .slice A1_1 l1_1.length c1_1, .slice A1_2 l1_2.length c1_2, .int .i64 a1_3, .int .i64 a1_4, .int .i64 a1_5, .int .i64 a1_6, .int .i64 a1_7, .int .i64 a1_8, .int .i64 a1_9, .slice A1_10 l1_10.length c1_10] 29 (0, 0)) (by (with_reducible repeat (first | refine yh ?_ _ | refine yj ?_ | refine yi ?_ _)); exact BK168.out) hb); have n8_ := yc (blk_below (g := gb188) (o := .cells #[.int .i64 t171, .slice Ao128 x189001_3.length co128, .slice Ao129 x189002_4.length co129, .int .i64 t178, .int .i64 t179, .int .i64 t180, .int .i64 t181, .int .i64 t182, .int .i64 t183, .int .i64 t184, .slice Ao130 x189010_5.length co130] 29 (0, 0)) (by (with_reducible repeat (first | refine yh ?_ _ | refine yj ?_ | refine yi ?_ _)); exact BK188.out) hb); have n9_ := yc (blk_below (g := gb209) (o := .cells #[.int .i64 t192, .slice Ao76 x210001_3.length co76, .slice Ao91 x210002_4.length co91, .int .i64 t199, .int .i64 t200, .int .i64 t201, .int .i64 t202, .int .i64 t203, .int .i64 t204, .int .i64 t205, .slice Ao122 x210010_5.length co122] 29 (0, 0)) (by (with_reducible repeat (first | refine yh ?_ _ | refine yj ?_ | refine yi ?_ _)); exact BK209.out) hb); have n10_ := yc (below_step (by repeat (first | (with_reducible first | exact HB.out | apply yd | apply ye | apply yf | refine yg ?_ GE167.out | refine yg ?_ GE168.out | refine yg ?_ GE188.out | refine yg ?_ GE209.out) | exact HB.out)) hb); clear HO_189001; clear HO_189002; clear HO_189010; clear HO_210001; clear HO_210002; clear HO_210010; clear BK167; clear BK168; clear BK188; clear BK209; clear HB; have HO_189001 := n0_; have HO_189002 := n1_; have HO_189010 := n2_; have HO_210001 := n3_; have HO_210002 := n4_; have HO_210010 := n5_; have BK167 := n6_; have BK168 := n7_; have BK188 := n8_; have BK209 := n9_; have HB := n10_; clear n0_ n1_ n2_ n3_ n4_ n5_ n6_ n7_ n8_ n9_ n10_; (try clear hb); (try clear hb2); (try clear hk); (try clear hi)))
                  go_ret
                  exact ⟨by first | rfl | (simp [errW_none, errW_some] <;> rfl) | (simp [*, errW_none, errW_some] <;> rfl), by repeat (first | (with_reducible first | exact HB.out | apply yd | apply ye | apply yf | refine yg ?_ GE167.out | refine yg ?_ GE168.out | refine yg ?_ GE188.out | refine yg ?_ GE209.out) | exact HB.out)⟩
                 ·replace c116 := Bool.eq_false_iff.mpr c116
                  subst c116
                  have H1 : (some false) = some true := by rw [if_neg (show ¬ (false = true) by decide)] at H; exact H
                  clear H
                  have H := H1
                  clear H1
                  cases H
       ·replace c46 := Bool.eq_false_iff.mpr c46
        subst c46
        have H1 : (some false) = some true := by rw [if_neg (show ¬ (false = true) by decide)] at H; exact H
        clear H
        have H := H1
        clear H1
        cases H
end Go.Proofs.YtgkchcbnbbgdpaaGreatDoor.QJobCopies
