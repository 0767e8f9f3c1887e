/- Joined out of: QJobCopiesx6. -/
import Derived.Test.YtgkchcbnbbgdpaaGreatDoorJcE
import Derived.Test.YtgkchcbnbbgdpaaGreatDoorJcF
set_option linter.unusedVariables false
set_option linter.unusedSimpArgs false
namespace Go.Proofs.YtgkchcbnbbgdpaaGreatDoor.QJobCopies
open Go.RowKit Go.Proofs.YtgkchcbnbbgdpaaGreatDoorW.PrintWords Go.Proofs.YtgkchcbnbbgdpaaGreatDoorW.PrintLast
attribute [local go_sem high] eqA26 eqA61
mutual
def outriderref17_Same.j0 : Nat → Bool → Int → List (S58) → List (S61) → Int → Int → Int → Int → Int → Int → Int → List (List (S66)) → Int → List (S58) → List (S61) → Int → Int → Int → Int → Int → Int → Int → List (List (S66)) → Option (Bool)
 | 0, _, _, _, _, _, _, _, _, _, _, _, _, _, _, _, _, _, _, _, _, _, _, _ => none
 | k + 1, x51, x109000, x109001, x109002, x109003, x109004, x109005, x109006, x109007, x109008, x109009, x109010, x110000, x110001, x110002, x110003, x110004, x110005, x110006, x110007, x110008, x110009, x110010 => if x51 = true then (some false) else (outriderref17_Same.l0 k 0 x109000 x109001 x109002 x109003 x109004 x109005 x109006 x109007 x109008 x109009 x109010 x110000 x110001 x110002 x110003 x110004 x110005 x110006 x110007 x110008 x110009 x110010)
def outriderref17_Same.l0 : Nat → Int → Int → List (S58) → List (S61) → Int → Int → Int → Int → Int → Int → Int → List (List (S66)) → Int → List (S58) → List (S61) → Int → Int → Int → Int → Int → Int → Int → List (List (S66)) → Option (Bool)
 | 0, _, _, _, _, _, _, _, _, _, _, _, _, _, _, _, _, _, _, _, _, _, _, _ => none
 | k + 1, x5, x109000, x109001, x109002, x109003, x109004, x109005, x109006, x109007, x109008, x109009, x109010, x110000, x110001, x110002, x110003, x110004, x110005, x110006, x110007, x110008, x110009, x110010 => if x5 < (x109002.length : Int) then (if 0 ≤ x5 then (if x5 < (x110002.length : Int) then (if (!(((rd_T61 x109002 x5).f0) == ((rd_T61 x110002 x5).f0)) || (!(((rd_T61 x109002 x5).f1) == ((rd_T61 x110002 x5).f1)))) = true then (some false) else (outriderref17_Same.l0 k (wrap64 (x5 + 1)) x109000 x109001 x109002 x109003 x109004 x109005 x109006 x109007 x109008 x109009 x109010 x110000 x110001 x110002 x110003 x110004 x110005 x110006 x110007 x110008 x110009 x110010)) else (none)) else (none)) else (outriderref17_Same.l1 k 0 x109000 x109001 x109002 x109003 x109004 x109005 x109006 x109007 x109008 x109009 x109010 x110000 x110001 x110002 x110003 x110004 x110005 x110006 x110007 x110008 x110009 x110010)
def outriderref17_Same.l1 : Nat → Int → Int → List (S58) → List (S61) → Int → Int → Int → Int → Int → Int → Int → List (List (S66)) → Int → List (S58) → List (S61) → Int → Int → Int → Int → Int → Int → Int → List (List (S66)) → Option (Bool)
 | 0, _, _, _, _, _, _, _, _, _, _, _, _, _, _, _, _, _, _, _, _, _, _, _ => none
 | k + 1, x6, x109000, x109001, x109002, x109003, x109004, x109005, x109006, x109007, x109008, x109009, x109010, x110000, x110001, x110002, x110003, x110004, x110005, x110006, x110007, x110008, x110009, x110010 => if x6 < (x109010.length : Int) then (if 0 ≤ x6 then (if x6 < (x110010.length : Int) then ((outriderref08_Same.f k (rd_L2 x109010 x6) (rd_L2 x110010 x6)).bind fun t115 => (if t115 = true then (outriderref17_Same.l1 k (wrap64 (x6 + 1)) x109000 x109001 x109002 x109003 x109004 x109005 x109006 x109007 x109008 x109009 x109010 x110000 x110001 x110002 x110003 x110004 x110005 x110006 x110007 x110008 x110009 x110010) else (some false))) else (none)) else (none)) else (some true)
end
def outriderref17_Same.f (k : Nat) (a0_0 : Int) (l0_1 : List (S58)) (l0_2 : List (S61)) (a0_3 : Int) (a0_4 : Int) (a0_5 : Int) (a0_6 : Int) (a0_7 : Int) (a0_8 : Int) (a0_9 : Int) (l0_10 : List (List (S66))) (a1_0 : Int) (l1_1 : List (S58)) (l1_2 : List (S61)) (a1_3 : Int) (a1_4 : Int) (a1_5 : Int) (a1_6 : Int) (a1_7 : Int) (a1_8 : Int) (a1_9 : Int) (l1_10 : List (List (S66))) : Option (Bool) := if a0_0 = a1_0 then (if a0_3 = a1_3 then (if (!(a0_4 == a1_4) || (!(a0_5 == a1_5) || (!(a0_6 == a1_6) || (!(a0_7 == a1_7) || (!(a0_8 == a1_8) || (!(a0_9 == a1_9))))))) = true then (outriderref17_Same.j0 k true a0_0 l0_1 l0_2 a0_3 a0_4 a0_5 a0_6 a0_7 a0_8 a0_9 l0_10 a1_0 l1_1 l1_2 a1_3 a1_4 a1_5 a1_6 a1_7 a1_8 a1_9 l1_10) else ((outriderref13_Same.f k l0_1 l1_1).bind fun t110 => (if t110 = true then (if (l0_2.length : Int) = (l1_2.length : Int) then (outriderref17_Same.j0 k ((l0_10.length : Int) != (l1_10.length : Int)) a0_0 l0_1 l0_2 a0_3 a0_4 a0_5 a0_6 a0_7 a0_8 a0_9 l0_10 a1_0 l1_1 l1_2 a1_3 a1_4 a1_5 a1_6 a1_7 a1_8 a1_9 l1_10) else (outriderref17_Same.j0 k true a0_0 l0_1 l0_2 a0_3 a0_4 a0_5 a0_6 a0_7 a0_8 a0_9 l0_10 a1_0 l1_1 l1_2 a1_3 a1_4 a1_5 a1_6 a1_7 a1_8 a1_9 l1_10)) else (outriderref17_Same.j0 k true a0_0 l0_1 l0_2 a0_3 a0_4 a0_5 a0_6 a0_7 a0_8 a0_9 l0_10 a1_0 l1_1 l1_2 a1_3 a1_4 a1_5 a1_6 a1_7 a1_8 a1_9 l1_10)))) else (outriderref17_Same.j0 k true a0_0 l0_1 l0_2 a0_3 a0_4 a0_5 a0_6 a0_7 a0_8 a0_9 l0_10 a1_0 l1_1 l1_2 a1_3 a1_4 a1_5 a1_6 a1_7 a1_8 a1_9 l1_10)) else (outriderref17_Same.j0 k true a0_0 l0_1 l0_2 a0_3 a0_4 a0_5 a0_6 a0_7 a0_8 a0_9 l0_10 a1_0 l1_1 l1_2 a1_3 a1_4 a1_5 a1_6 a1_7 a1_8 a1_9 l1_10)
set_option maxHeartbeats 8000000 in
set_option maxRecDepth 100000 in
theorem outriderref17_Same.calls (k : Nat) (a0_0 : Int) (A0_1 : Option Addr) (c0_1 : Nat) (l0_1 : List (S58)) (A0_2 : Option Addr) (c0_2 : Nat) (l0_2 : List (S61)) (a0_3 : Int) (a0_4 : Int) (a0_5 : Int) (a0_6 : Int) (a0_7 : Int) (a0_8 : Int) (a0_9 : Int) (A0_10 : Option Addr) (c0_10 : Nat) (l0_10 : List (List (S66))) (a1_0 : Int) (A1_1 : Option Addr) (c1_1 : Nat) (l1_1 : List (S58)) (A1_2 : Option Addr) (c1_2 : Nat) (l1_2 : List (S61)) (a1_3 : Int) (a1_4 : Int) (a1_5 : Int) (a1_6 : Int) (a1_7 : Int) (a1_8 : Int) (a1_9 : Int) (A1_10 : Option Addr) (c1_10 : Nat) (l1_10 : List (List (S66))) (r : Bool) (w : World) (hr0_1 : Kd.C k58 w A0_1 l0_1.length l0_1) (hc0_1 : l0_1.length ≤ c0_1) (hr0_2 : Kd.C k61 w A0_2 l0_2.length l0_2) (hc0_2 : l0_2.length ≤ c0_2) (hr0_10 : Kd.C (Kd.slice 66 k66) w A0_10 l0_10.length l0_10) (hc0_10 : l0_10.length ≤ c0_10) (hr1_1 : Kd.C k58 w A1_1 l1_1.length l1_1) (hc1_1 : l1_1.length ≤ c1_1) (hr1_2 : Kd.C k61 w A1_2 l1_2.length l1_2) (hc1_2 : l1_2.length ≤ c1_2) (hr1_10 : Kd.C (Kd.slice 66 k66) w A1_10 l1_10.length l1_10) (hc1_10 : l1_10.length ≤ c1_10) (h : outriderref17_Same.f k a0_0 l0_1 l0_2 a0_3 a0_4 a0_5 a0_6 a0_7 a0_8 a0_9 l0_10 a1_0 l1_1 l1_2 a1_3 a1_4 a1_5 a1_6 a1_7 a1_8 a1_9 l1_10 = some r) :
  Calls Tryz.prog 19 #[.agg #[.int .i64 a0_0, .slice A0_1 l0_1.length c0_1, .slice A0_2 l0_2.length c0_2, .int .i64 a0_3, .int .i64 a0_4, .int .i64 a0_5, .int .i64 a0_6, .int .i64 a0_7, .int .i64 a0_8, .int .i64 a0_9, .slice A0_10 l0_10.length c0_10], .agg #[.int .i64 a1_0, .slice A1_1 l1_1.length c1_1, .slice A1_2 l1_2.length c1_2, .int .i64 a1_3, .int .i64 a1_4, .int .i64 a1_5, .int .i64 a1_6, .int .i64 a1_7, .int .i64 a1_8, .int .i64 a1_9, .slice A1_10 l1_10.length c1_10]] w fun e w' => e = .returned (.bool r) ∧ Below w.heap.size w w' := by
 have hu29 := Tryz.underlying29
 have hu26 := Tryz.underlying26
 have hu61 := Tryz.underlying61
 have HR0_1 := yc hr0_1
 have HC0_1 := yc hc0_1
 clear hr0_1 hc0_1
 have HR0_2 := yc hr0_2
 have HC0_2 := yc hc0_2
 clear hr0_2 hc0_2
 have HR0_10 := yc hr0_10
 have HC0_10 := yc hc0_10
 clear hr0_10 hc0_10
 have HR1_1 := yc hr1_1
 have HC1_1 := yc hc1_1
 clear hr1_1 hc1_1
 have HR1_2 := yc hr1_2
 have HC1_2 := yc hc1_2
 clear hr1_2 hc1_2
 have HR1_10 := yc hr1_10
 have HC1_10 := yc hc1_10
 clear hr1_10 hc1_10
 have HB := yc (Below.refl w.heap.size w)
 have H : (if a0_0 = a1_0 then (if a0_3 = a1_3 then (if (!(a0_4 == a1_4) || (!(a0_5 == a1_5) || (!(a0_6 == a1_6) || (!(a0_7 == a1_7) || (!(a0_8 == a1_8) || (!(a0_9 == a1_9))))))) = true then (outriderref17_Same.j0 k true a0_0 l0_1 l0_2 a0_3 a0_4 a0_5 a0_6 a0_7 a0_8 a0_9 l0_10 a1_0 l1_1 l1_2 a1_3 a1_4 a1_5 a1_6 a1_7 a1_8 a1_9 l1_10) else ((outriderref13_Same.f k l0_1 l1_1).bind fun t110 => (if t110 = true then (if (l0_2.length : Int) = (l1_2.length : Int) then (outriderref17_Same.j0 k ((l0_10.length : Int) != (l1_10.length : Int)) a0_0 l0_1 l0_2 a0_3 a0_4 a0_5 a0_6 a0_7 a0_8 a0_9 l0_10 a1_0 l1_1 l1_2 a1_3 a1_4 a1_5 a1_6 a1_7 a1_8 a1_9 l1_10) else (outriderref17_Same.j0 k true a0_0 l0_1 l0_2 a0_3 a0_4 a0_5 a0_6 a0_7 a0_8 a0_9 l0_10 a1_0 l1_1 l1_2 a1_3 a1_4 a1_5 a1_6 a1_7 a1_8 a1_9 l1_10)) else (outriderref17_Same.j0 k true a0_0 l0_1 l0_2 a0_3 a0_4 a0_5 a0_6 a0_7 a0_8 a0_9 l0_10 a1_0 l1_1 l1_2 a1_3 a1_4 a1_5 a1_6 a1_7 a1_8 a1_9 l1_10)))) else (outriderref17_Same.j0 k true a0_0 l0_1 l0_2 a0_3 a0_4 a0_5 a0_6 a0_7 a0_8 a0_9 l0_10 a1_0 l1_1 l1_2 a1_3 a1_4 a1_5 a1_6 a1_7 a1_8 a1_9 l1_10)) else (outriderref17_Same.j0 k true a0_0 l0_1 l0_2 a0_3 a0_4 a0_5 a0_6 a0_7 a0_8 a0_9 l0_10 a1_0 l1_1 l1_2 a1_3 a1_4 a1_5 a1_6 a1_7 a1_8 a1_9 l1_10)) = some r := h
 clear h
 have HC3 := yc H
 clear H
 go_enter Tryz.func19, Tryz.ntmps19
 go_upto_region 1 with (first | ((with_reducible refine gate_dst (N := 2) rfl ?_); (try (refine gate_guard (by rfl) ?_; dsimp only)); refine box_event ?hg (N := 2) ?hd (cs := #[.int .i64 a0_0, .slice A0_1 l0_1.length c0_1, .slice A0_2 l0_2.length c0_2, .int .i64 a0_3, .int .i64 a0_4, .int .i64 a0_5, .int .i64 a0_6, .int .i64 a0_7, .int .i64 a0_8, .int .i64 a0_9, .slice A0_10 l0_10.length c0_10]) (t := 29) ?hr ?_; (case hd => rfl); (case hg => rfl); (case hr => first | (go_simp; done) | (go_simp; rfl)); intro gb108 hg w4 hbox hb; have n0_ := yc (below_step (by repeat (first | (with_reducible first | exact HB.out | apply yd | apply ye | apply yf) | exact HB.out)) hb); have n1_ := yc (hbox); have n2_ := yc ((by rw [hg]; exact (below_size (by repeat (first | (with_reducible first | exact HB.out | apply yd | apply ye | apply yf) | exact HB.out))) : w.heap.size ≤ gb108)); have n3_ := yc ((by rw [hg]; exact (below_size (by repeat (first | (with_reducible first | exact HB.out | apply yd | apply ye | apply yf) | exact HB.out))) : w.heap.size ≤ gb108)); clear HB; have HB := n0_; have BK108 := n1_; have GW108 := n2_; have GE108 := n3_; clear n0_ n1_ n2_ n3_; clear hb hbox hg) | ((with_reducible refine gate_dst (N := 3) rfl ?_); (try (refine gate_guard (by rfl) ?_; dsimp only)); refine box_event ?hg (N := 3) ?hd (cs := #[.int .i64 a1_0, .slice A1_1 l1_1.length c1_1, .slice A1_2 l1_2.length c1_2, .int .i64 a1_3, .int .i64 a1_4, .int .i64 a1_5, .int .i64 a1_6, .int .i64 a1_7, .int .i64 a1_8, .int .i64 a1_9, .slice A1_10 l1_10.length c1_10]) (t := 29) ?hr ?_; (case hd => rfl); (case hg => rfl); (case hr => first | (go_simp; done) | (go_simp; rfl)); intro gb109 hg w5 hbox hb; have n0_ := yc (blk_below (g := gb108) (o := .cells #[.int .i64 a0_0, .slice A0_1 l0_1.length c0_1, .slice A0_2 l0_2.length c0_2, .int .i64 a0_3, .int .i64 a0_4, .int .i64 a0_5, .int .i64 a0_6, .int .i64 a0_7, .int .i64 a0_8, .int .i64 a0_9, .slice A0_10 l0_10.length c0_10] 29 (0, 0)) (by (with_reducible repeat (first | refine yh ?_ _ | refine yj ?_ | refine yi ?_ _)); exact BK108.out) hb); have n1_ := yc (below_step (by repeat (first | (with_reducible first | exact HB.out | apply yd | apply ye | apply yf | refine yg ?_ GE108.out) | exact HB.out)) hb); have n2_ := yc (hbox); have n3_ := yc ((by rw [hg]; exact (below_size (by repeat (first | (with_reducible first | exact HB.out | apply yd | apply ye | apply yf | refine yg ?_ GE108.out) | exact HB.out))) : w.heap.size ≤ gb109)); have n4_ := yc ((by rw [hg]; exact (below_size (by repeat (first | (with_reducible first | exact HB.out | apply yd | apply ye | apply yf | refine yg ?_ GE108.out) | exact HB.out))) : w.heap.size ≤ gb109)); have n5_ := yc ((by rw [hg]; exact Nat.ne_of_lt (blk_lt (g := gb108) (o := .cells #[.int .i64 a0_0, .slice A0_1 l0_1.length c0_1, .slice A0_2 l0_2.length c0_2, .int .i64 a0_3, .int .i64 a0_4, .int .i64 a0_5, .int .i64 a0_6, .int .i64 a0_7, .int .i64 a0_8, .int .i64 a0_9, .slice A0_10 l0_10.length c0_10] 29 (0, 0)) (by (with_reducible repeat (first | refine yh ?_ _ | refine yj ?_ | refine yi ?_ _)); exact BK108.out)) : gb108 ≠ gb109)); have n6_ := yc ((by rw [hg]; exact Nat.ne_of_gt (blk_lt (g := gb108) (o := .cells #[.int .i64 a0_0, .slice A0_1 l0_1.length c0_1, .slice A0_2 l0_2.length c0_2, .int .i64 a0_3, .int .i64 a0_4, .int .i64 a0_5, .int .i64 a0_6, .int .i64 a0_7, .int .i64 a0_8, .int .i64 a0_9, .slice A0_10 l0_10.length c0_10] 29 (0, 0)) (by (with_reducible repeat (first | refine yh ?_ _ | refine yj ?_ | refine yi ?_ _)); exact BK108.out)) : gb109 ≠ gb108)); clear BK108; clear HB; have BK108 := n0_; have HB := n1_; have BK109 := n2_; have GW109 := n3_; have GE109 := n4_; have NB108_109 := n5_; have NB109_108 := n6_; clear n0_ n1_ n2_ n3_ n4_ n5_ n6_; clear hb hbox hg))
 repeat (go_quiet (first | ((with_reducible refine gate_dst (N := 2) rfl ?_); (try (refine gate_guard (by rfl) ?_; dsimp only)); refine box_event ?hg (N := 2) ?hd (cs := #[.int .i64 a0_0, .slice A0_1 l0_1.length c0_1, .slice A0_2 l0_2.length c0_2, .int .i64 a0_3, .int .i64 a0_4, .int .i64 a0_5, .int .i64 a0_6, .int .i64 a0_7, .int .i64 a0_8, .int .i64 a0_9, .slice A0_10 l0_10.length c0_10]) (t := 29) ?hr ?_; (case hd => rfl); (case hg => rfl); (case hr => first | (go_simp; done) | (go_simp; rfl)); intro gb108 hg w4 hbox hb; have n0_ := yc (below_step (by repeat (first | (with_reducible first | exact HB.out | apply yd | apply ye | apply yf) | exact HB.out)) hb); have n1_ := yc (hbox); have n2_ := yc ((by rw [hg]; exact (below_size (by repeat (first | (with_reducible first | exact HB.out | apply yd | apply ye | apply yf) | exact HB.out))) : w.heap.size ≤ gb108)); have n3_ := yc ((by rw [hg]; exact (below_size (by repeat (first | (with_reducible first | exact HB.out | apply yd | apply ye | apply yf) | exact HB.out))) : w.heap.size ≤ gb108)); clear HB; have HB := n0_; have BK108 := n1_; have GW108 := n2_; have GE108 := n3_; clear n0_ n1_ n2_ n3_; clear hb hbox hg) | ((with_reducible refine gate_dst (N := 3) rfl ?_); (try (refine gate_guard (by rfl) ?_; dsimp only)); refine box_event ?hg (N := 3) ?hd (cs := #[.int .i64 a1_0, .slice A1_1 l1_1.length c1_1, .slice A1_2 l1_2.length c1_2, .int .i64 a1_3, .int .i64 a1_4, .int .i64 a1_5, .int .i64 a1_6, .int .i64 a1_7, .int .i64 a1_8, .int .i64 a1_9, .slice A1_10 l1_10.length c1_10]) (t := 29) ?hr ?_; (case hd => rfl); (case hg => rfl); (case hr => first | (go_simp; done) | (go_simp; rfl)); intro gb109 hg w5 hbox hb; have n0_ := yc (blk_below (g := gb108) (o := .cells #[.int .i64 a0_0, .slice A0_1 l0_1.length c0_1, .slice A0_2 l0_2.length c0_2, .int .i64 a0_3, .int .i64 a0_4, .int .i64 a0_5, .int .i64 a0_6, .int .i64 a0_7, .int .i64 a0_8, .int .i64 a0_9, .slice A0_10 l0_10.length c0_10] 29 (0, 0)) (by (with_reducible repeat (first | refine yh ?_ _ | refine yj ?_ | refine yi ?_ _)); exact BK108.out) hb); have n1_ := yc (below_step (by repeat (first | (with_reducible first | exact HB.out | apply yd | apply ye | apply yf | refine yg ?_ GE108.out) | exact HB.out)) hb); have n2_ := yc (hbox); have n3_ := yc ((by rw [hg]; exact (below_size (by repeat (first | (with_reducible first | exact HB.out | apply yd | apply ye | apply yf | refine yg ?_ GE108.out) | exact HB.out))) : w.heap.size ≤ gb109)); have n4_ := yc ((by rw [hg]; exact (below_size (by repeat (first | (with_reducible first | exact HB.out | apply yd | apply ye | apply yf | refine yg ?_ GE108.out) | exact HB.out))) : w.heap.size ≤ gb109)); have n5_ := yc ((by rw [hg]; exact Nat.ne_of_lt (blk_lt (g := gb108) (o := .cells #[.int .i64 a0_0, .slice A0_1 l0_1.length c0_1, .slice A0_2 l0_2.length c0_2, .int .i64 a0_3, .int .i64 a0_4, .int .i64 a0_5, .int .i64 a0_6, .int .i64 a0_7, .int .i64 a0_8, .int .i64 a0_9, .slice A0_10 l0_10.length c0_10] 29 (0, 0)) (by (with_reducible repeat (first | refine yh ?_ _ | refine yj ?_ | refine yi ?_ _)); exact BK108.out)) : gb108 ≠ gb109)); have n6_ := yc ((by rw [hg]; exact Nat.ne_of_gt (blk_lt (g := gb108) (o := .cells #[.int .i64 a0_0, .slice A0_1 l0_1.length c0_1, .slice A0_2 l0_2.length c0_2, .int .i64 a0_3, .int .i64 a0_4, .int .i64 a0_5, .int .i64 a0_6, .int .i64 a0_7, .int .i64 a0_8, .int .i64 a0_9, .slice A0_10 l0_10.length c0_10] 29 (0, 0)) (by (with_reducible repeat (first | refine yh ?_ _ | refine yj ?_ | refine yi ?_ _)); exact BK108.out)) : gb109 ≠ gb108)); clear BK108; clear HB; have BK108 := n0_; have HB := n1_; have BK109 := n2_; have GW109 := n3_; have GE109 := n4_; have NB108_109 := n5_; have NB109_108 := n6_; clear n0_ n1_ n2_ n3_ n4_ n5_ n6_; clear hb hbox hg)); go_upto_region 1 with (first | ((with_reducible refine gate_dst (N := 2) rfl ?_); (try (refine gate_guard (by rfl) ?_; dsimp only)); refine box_event ?hg (N := 2) ?hd (cs := #[.int .i64 a0_0, .slice A0_1 l0_1.length c0_1, .slice A0_2 l0_2.length c0_2, .int .i64 a0_3, .int .i64 a0_4, .int .i64 a0_5, .int .i64 a0_6, .int .i64 a0_7, .int .i64 a0_8, .int .i64 a0_9, .slice A0_10 l0_10.length c0_10]) (t := 29) ?hr ?_; (case hd => rfl); (case hg => rfl); (case hr => first | (go_simp; done) | (go_simp; rfl)); intro gb108 hg w4 hbox hb; have n0_ := yc (below_step (by repeat (first | (with_reducible first | exact HB.out | apply yd | apply ye | apply yf) | exact HB.out)) hb); have n1_ := yc (hbox); have n2_ := yc ((by rw [hg]; exact (below_size (by repeat (first | (with_reducible first | exact HB.out | apply yd | apply ye | apply yf) | exact HB.out))) : w.heap.size ≤ gb108)); have n3_ := yc ((by rw [hg]; exact (below_size (by repeat (first | (with_reducible first | exact HB.out | apply yd | apply ye | apply yf) | exact HB.out))) : w.heap.size ≤ gb108)); clear HB; have HB := n0_; have BK108 := n1_; have GW108 := n2_; have GE108 := n3_; clear n0_ n1_ n2_ n3_; clear hb hbox hg) | ((with_reducible refine gate_dst (N := 3) rfl ?_); (try (refine gate_guard (by rfl) ?_; dsimp only)); refine box_event ?hg (N := 3) ?hd (cs := #[.int .i64 a1_0, .slice A1_1 l1_1.length c1_1, .slice A1_2 l1_2.length c1_2, .int .i64 a1_3, .int .i64 a1_4, .int .i64 a1_5, .int .i64 a1_6, .int .i64 a1_7, .int .i64 a1_8, .int .i64 a1_9, .slice A1_10 l1_10.length c1_10]) (t := 29) ?hr ?_; (case hd => rfl); (case hg => rfl); (case hr => first | (go_simp; done) | (go_simp; rfl)); intro gb109 hg w5 hbox hb; have n0_ := yc (blk_below (g := gb108) (o := .cells #[.int .i64 a0_0, .slice A0_1 l0_1.length c0_1, .slice A0_2 l0_2.length c0_2, .int .i64 a0_3, .int .i64 a0_4, .int .i64 a0_5, .int .i64 a0_6, .int .i64 a0_7, .int .i64 a0_8, .int .i64 a0_9, .slice A0_10 l0_10.length c0_10] 29 (0, 0)) (by (with_reducible repeat (first | refine yh ?_ _ | refine yj ?_ | refine yi ?_ _)); exact BK108.out) hb); have n1_ := yc (below_step (by repeat (first | (with_reducible first | exact HB.out | apply yd | apply ye | apply yf | refine yg ?_ GE108.out) | exact HB.out)) hb); have n2_ := yc (hbox); have n3_ := yc ((by rw [hg]; exact (below_size (by repeat (first | (with_reducible first | exact HB.out | apply yd | apply ye | apply yf | refine yg ?_ GE108.out) | exact HB.out))) : w.heap.size ≤ gb109)); have n4_ := yc ((by rw [hg]; exact (below_size (by repeat (first | (with_reducible first | exact HB.out | apply yd | apply ye | apply yf | refine yg ?_ GE108.out) | exact HB.out))) : w.heap.size ≤ gb109)); have n5_ := yc ((by rw [hg]; exact Nat.ne_of_lt (blk_lt (g := gb108) (o := .cells #[.int .i64 a0_0, .slice A0_1 l0_1.length c0_1, .slice A0_2 l0_2.length c0_2, .int .i64 a0_3, .int .i64 a0_4, .int .i64 a0_5, .int .i64 a0_6, .int .i64 a0_7, .int .i64 a0_8, .int .i64 a0_9, .slice A0_10 l0_10.length c0_10] 29 (0, 0)) (by (with_reducible repeat (first | refine yh ?_ _ | refine yj ?_ | refine yi ?_ _)); exact BK108.out)) : gb108 ≠ gb109)); have n6_ := yc ((by rw [hg]; exact Nat.ne_of_gt (blk_lt (g := gb108) (o := .cells #[.int .i64 a0_0, .slice A0_1 l0_1.length c0_1, .slice A0_2 l0_2.length c0_2, .int .i64 a0_3, .int .i64 a0_4, .int .i64 a0_5, .int .i64 a0_6, .int .i64 a0_7, .int .i64 a0_8, .int .i64 a0_9, .slice A0_10 l0_10.length c0_10] 29 (0, 0)) (by (with_reducible repeat (first | refine yh ?_ _ | refine yj ?_ | refine yi ?_ _)); exact BK108.out)) : gb109 ≠ gb108)); clear BK108; clear HB; have BK108 := n0_; have HB := n1_; have BK109 := n2_; have GW109 := n3_; have GE109 := n4_; have NB108_109 := n5_; have NB109_108 := n6_; clear n0_ n1_ n2_ n3_ n4_ n5_ n6_; clear hb hbox hg)))
 (try simp only [Act.put, List.setIfInBounds_toArray, List.set_cons_zero, List.set_cons_succ])
 go_cut [51] (fun v51 wc => ∃ (kq : Nat) (x51_2 : Bool), v51 = .bool x51_2 ∧ Aside0 (outriderref17_Same.j0 kq x51_2 a0_0 l0_1 l0_2 a0_3 a0_4 a0_5 a0_6 a0_7 a0_8 a0_9 l0_10 a1_0 l1_1 l1_2 a1_3 a1_4 a1_5 a1_6 a1_7 a1_8 a1_9 l1_10 = some r) ∧ Aside0 (kq ≤ k) ∧ Aside0 (wc.heap[gb108]? = some (.cells #[.int .i64 a0_0, (.slice A0_1 l0_1.length c0_1), (.slice A0_2 l0_2.length c0_2), .int .i64 a0_3, .int .i64 a0_4, .int .i64 a0_5, .int .i64 a0_6, .int .i64 a0_7, .int .i64 a0_8, .int .i64 a0_9, (.slice A0_10 l0_10.length c0_10)] 29 (0, 0))) ∧ Aside0 (wc.heap[gb109]? = some (.cells #[.int .i64 a1_0, (.slice A1_1 l1_1.length c1_1), (.slice A1_2 l1_2.length c1_2), .int .i64 a1_3, .int .i64 a1_4, .int .i64 a1_5, .int .i64 a1_6, .int .i64 a1_7, .int .i64 a1_8, .int .i64 a1_9, (.slice A1_10 l1_10.length c1_10)] 29 (0, 0))) ∧ Aside0 (Below w.heap.size w wc))
 case first =>
  have H := HC3.out
  clear HC3
  by_cases c6 : a0_0 = a1_0
  ·rw [if_pos c6] at H
   have c6b0 : (a0_0 == a1_0) = true := beq_iff_eq.mpr c6
   have c6b1 : (a0_0 != a1_0) = false := bne_eq_false_iff_eq.mpr c6
   clear c6
   (first | rw [c6b0] | (simp only [i64_w, i32_w]; rw [c6b0]) | skip)
   by_cases c7 : a0_3 = a1_3
   ·rw [if_pos c7] at H
    have c7b0 : (a0_3 == a1_3) = true := beq_iff_eq.mpr c7
    have c7b1 : (a0_3 != a1_3) = false := bne_eq_false_iff_eq.mpr c7
    clear c7
    by_cases c8 : (!(a0_4 == a1_4) || (!(a0_5 == a1_5) || (!(a0_6 == a1_6) || (!(a0_7 == a1_7) || (!(a0_8 == a1_8) || (!(a0_9 == a1_9))))))) = true
    ·rw [if_pos c8] at H
     have c8b0 : (!(a0_4 == a1_4) || (!(a0_5 == a1_5) || (!(a0_6 == a1_6) || (!(a0_7 == a1_7) || (!(a0_8 == a1_8) || (!(a0_9 == a1_9))))))) = true := c8
     clear c8
     have H' := yc H
     clear H
     have hnb9 := NB108_109.out
     have hnc9 := NB109_108.out
     have hcz10_0 : w5.cell? ⟨gb108, 0, none⟩ = some (.int .i64 a0_0) := (ya BK108.out 0).trans rfl
     have hcz10_1 : w5.cell? ⟨gb108, 1, none⟩ = some (.slice A0_1 l0_1.length c0_1) := (ya BK108.out 1).trans rfl
     have hcz10_2 : w5.cell? ⟨gb108, 2, none⟩ = some (.slice A0_2 l0_2.length c0_2) := (ya BK108.out 2).trans rfl
     have hcz10_3 : w5.cell? ⟨gb108, 3, none⟩ = some (.int .i64 a0_3) := (ya BK108.out 3).trans rfl
     have hcz10_4 : w5.cell? ⟨gb108, 4, none⟩ = some (.int .i64 a0_4) := (ya BK108.out 4).trans rfl
     have hcz10_5 : w5.cell? ⟨gb108, 5, none⟩ = some (.int .i64 a0_5) := (ya BK108.out 5).trans rfl
     have hcz10_6 : w5.cell? ⟨gb108, 6, none⟩ = some (.int .i64 a0_6) := (ya BK108.out 6).trans rfl
     have hcz10_7 : w5.cell? ⟨gb108, 7, none⟩ = some (.int .i64 a0_7) := (ya BK108.out 7).trans rfl
     have hcz10_8 : w5.cell? ⟨gb108, 8, none⟩ = some (.int .i64 a0_8) := (ya BK108.out 8).trans rfl
     have hcz10_9 : w5.cell? ⟨gb108, 9, none⟩ = some (.int .i64 a0_9) := (ya BK108.out 9).trans rfl
     have hcz10_10 : w5.cell? ⟨gb108, 10, none⟩ = some (.slice A0_10 l0_10.length c0_10) := (ya BK108.out 10).trans rfl
     have hfz10_0 := yb BK108.out 0
     have hfz10_1 := yb BK108.out 1
     have hfz10_2 := yb BK108.out 2
     have hfz10_3 := yb BK108.out 3
     have hfz10_4 := yb BK108.out 4
     have hfz10_5 := yb BK108.out 5
     have hfz10_6 := yb BK108.out 6
     have hfz10_7 := yb BK108.out 7
     have hfz10_8 := yb BK108.out 8
     have hfz10_9 := yb BK108.out 9
     have hfz10_10 := yb BK108.out 10
     have hcz11_0 : w5.cell? ⟨gb109, 0, none⟩ = some (.int .i64 a1_0) := (ya BK109.out 0).trans rfl
     have hcz11_1 : w5.cell? ⟨gb109, 1, none⟩ = some (.slice A1_1 l1_1.length c1_1) := (ya BK109.out 1).trans rfl
     have hcz11_2 : w5.cell? ⟨gb109, 2, none⟩ = some (.slice A1_2 l1_2.length c1_2) := (ya BK109.out 2).trans rfl
     have hcz11_3 : w5.cell? ⟨gb109, 3, none⟩ = some (.int .i64 a1_3) := (ya BK109.out 3).trans rfl
     have hcz11_4 : w5.cell? ⟨gb109, 4, none⟩ = some (.int .i64 a1_4) := (ya BK109.out 4).trans rfl
     have hcz11_5 : w5.cell? ⟨gb109, 5, none⟩ = some (.int .i64 a1_5) := (ya BK109.out 5).trans rfl
     have hcz11_6 : w5.cell? ⟨gb109, 6, none⟩ = some (.int .i64 a1_6) := (ya BK109.out 6).trans rfl
     have hcz11_7 : w5.cell? ⟨gb109, 7, none⟩ = some (.int .i64 a1_7) := (ya BK109.out 7).trans rfl
     have hcz11_8 : w5.cell? ⟨gb109, 8, none⟩ = some (.int .i64 a1_8) := (ya BK109.out 8).trans rfl
     have hcz11_9 : w5.cell? ⟨gb109, 9, none⟩ = some (.int .i64 a1_9) := (ya BK109.out 9).trans rfl
     have hcz11_10 : w5.cell? ⟨gb109, 10, none⟩ = some (.slice A1_10 l1_10.length c1_10) := (ya BK109.out 10).trans rfl
     have hfz11_0 := yb BK109.out 0
     have hfz11_1 := yb BK109.out 1
     have hfz11_2 := yb BK109.out 2
     have hfz11_3 := yb BK109.out 3
     have hfz11_4 := yb BK109.out 4
     have hfz11_5 := yb BK109.out 5
     have hfz11_6 := yb BK109.out 6
     have hfz11_7 := yb BK109.out 7
     have hfz11_8 := yb BK109.out 8
     have hfz11_9 := yb BK109.out 9
     have hfz11_10 := yb BK109.out 10
     go_wp2
     repeat (go_quiet (fail); try go_wp2)
     go_meet
     case rel => exact ⟨_, (true), (by first | rfl | (simp; done) | (simp [*]; done)), H', ⟨by first | omega | exact Nat.le_refl _⟩, ⟨by (with_reducible repeat (first | refine yh ?_ _ | refine yj ?_ | refine yi ?_ _)); exact BK108.out⟩, ⟨by (with_reducible repeat (first | refine yh ?_ _ | refine yj ?_ | refine yi ?_ _)); exact BK109.out⟩, ⟨by repeat (first | (with_reducible first | exact HB.out | apply yd | apply ye | apply yf | refine yg ?_ GE108.out | refine yg ?_ GE109.out) | exact HB.out)⟩⟩
    ·rw [if_neg c8] at H
     have c8b0 : (!(a0_4 == a1_4) || (!(a0_5 == a1_5) || (!(a0_6 == a1_6) || (!(a0_7 == a1_7) || (!(a0_8 == a1_8) || (!(a0_9 == a1_9))))))) = false := by simpa using c8
     clear c8
     replace H := Option.bind_eq_some_iff.mp H
     obtain ⟨t110, A120, H⟩ := H
     replace H : (if t110 = true then (if (l0_2.length : Int) = (l1_2.length : Int) then (outriderref17_Same.j0 k ((l0_10.length : Int) != (l1_10.length : Int)) a0_0 l0_1 l0_2 a0_3 a0_4 a0_5 a0_6 a0_7 a0_8 a0_9 l0_10 a1_0 l1_1 l1_2 a1_3 a1_4 a1_5 a1_6 a1_7 a1_8 a1_9 l1_10) else (outriderref17_Same.j0 k true a0_0 l0_1 l0_2 a0_3 a0_4 a0_5 a0_6 a0_7 a0_8 a0_9 l0_10 a1_0 l1_1 l1_2 a1_3 a1_4 a1_5 a1_6 a1_7 a1_8 a1_9 l1_10)) else (outriderref17_Same.j0 k true a0_0 l0_1 l0_2 a0_3 a0_4 a0_5 a0_6 a0_7 a0_8 a0_9 l0_10 a1_0 l1_1 l1_2 a1_3 a1_4 a1_5 a1_6 a1_7 a1_8 a1_9 l1_10)) = some r := H
     have A12 := yc A120
     clear A120
     by_cases c13 : t110 = true
     ·subst c13
      have H1 : (if (l0_2.length : Int) = (l1_2.length : Int) then (outriderref17_Same.j0 k ((l0_10.length : Int) != (l1_10.length : Int)) a0_0 l0_1 l0_2 a0_3 a0_4 a0_5 a0_6 a0_7 a0_8 a0_9 l0_10 a1_0 l1_1 l1_2 a1_3 a1_4 a1_5 a1_6 a1_7 a1_8 a1_9 l1_10) else (outriderref17_Same.j0 k true a0_0 l0_1 l0_2 a0_3 a0_4 a0_5 a0_6 a0_7 a0_8 a0_9 l0_10 a1_0 l1_1 l1_2 a1_3 a1_4 a1_5 a1_6 a1_7 a1_8 a1_9 l1_10)) = some r := by rw [if_pos rfl] at H; exact H
      clear H
      have H := H1
      clear H1
      by_cases c14 : (l0_2.length : Int) = (l1_2.length : Int)
      ·rw [if_pos c14] at H
       have c14b0 : ((l0_2.length : Int) == (l1_2.length : Int)) = true := beq_iff_eq.mpr c14
       have c14b1 : ((l0_2.length : Int) != (l1_2.length : Int)) = false := bne_eq_false_iff_eq.mpr c14
       have c14b2 : (l0_2.length == l1_2.length) = true := by first | simpa using c14 | (simp at c14 ⊢; omega)
       clear c14
       have H' := yc H
       clear H
       have hnb15 := NB108_109.out
       have hnc15 := NB109_108.out
       have hcz16_0 : w5.cell? ⟨gb108, 0, none⟩ = some (.int .i64 a0_0) := (ya BK108.out 0).trans rfl
       have hcz16_1 : w5.cell? ⟨gb108, 1, none⟩ = some (.slice A0_1 l0_1.length c0_1) := (ya BK108.out 1).trans rfl
       have hcz16_2 : w5.cell? ⟨gb108, 2, none⟩ = some (.slice A0_2 l0_2.length c0_2) := (ya BK108.out 2).trans rfl
       have hcz16_3 : w5.cell? ⟨gb108, 3, none⟩ = some (.int .i64 a0_3) := (ya BK108.out 3).trans rfl
       have hcz16_4 : w5.cell? ⟨gb108, 4, none⟩ = some (.int .i64 a0_4) := (ya BK108.out 4).trans rfl
       have hcz16_5 : w5.cell? ⟨gb108, 5, none⟩ = some (.int .i64 a0_5) := (ya BK108.out 5).trans rfl
       have hcz16_6 : w5.cell? ⟨gb108, 6, none⟩ = some (.int .i64 a0_6) := (ya BK108.out 6).trans rfl
       have hcz16_7 : w5.cell? ⟨gb108, 7, none⟩ = some (.int .i64 a0_7) := (ya BK108.out 7).trans rfl
       have hcz16_8 : w5.cell? ⟨gb108, 8, none⟩ = some (.int .i64 a0_8) := (ya BK108.out 8).trans rfl
       have hcz16_9 : w5.cell? ⟨gb108, 9, none⟩ = some (.int .i64 a0_9) := (ya BK108.out 9).trans rfl
       have hcz16_10 : w5.cell? ⟨gb108, 10, none⟩ = some (.slice A0_10 l0_10.length c0_10) := (ya BK108.out 10).trans rfl
       have hfz16_0 := yb BK108.out 0
       have hfz16_1 := yb BK108.out 1
       have hfz16_2 := yb BK108.out 2
       have hfz16_3 := yb BK108.out 3
       have hfz16_4 := yb BK108.out 4
       have hfz16_5 := yb BK108.out 5
       have hfz16_6 := yb BK108.out 6
       have hfz16_7 := yb BK108.out 7
       have hfz16_8 := yb BK108.out 8
       have hfz16_9 := yb BK108.out 9
       have hfz16_10 := yb BK108.out 10
       have hcz17_0 : w5.cell? ⟨gb109, 0, none⟩ = some (.int .i64 a1_0) := (ya BK109.out 0).trans rfl
       have hcz17_1 : w5.cell? ⟨gb109, 1, none⟩ = some (.slice A1_1 l1_1.length c1_1) := (ya BK109.out 1).trans rfl
       have hcz17_2 : w5.cell? ⟨gb109, 2, none⟩ = some (.slice A1_2 l1_2.length c1_2) := (ya BK109.out 2).trans rfl
       have hcz17_3 : w5.cell? ⟨gb109, 3, none⟩ = some (.int .i64 a1_3) := (ya BK109.out 3).trans rfl
       have hcz17_4 : w5.cell? ⟨gb109, 4, none⟩ = some (.int .i64 a1_4) := (ya BK109.out 4).trans rfl
       have hcz17_5 : w5.cell? ⟨gb109, 5, none⟩ = some (.int .i64 a1_5) := (ya BK109.out 5).trans rfl
       have hcz17_6 : w5.cell? ⟨gb109, 6, none⟩ = some (.int .i64 a1_6) := (ya BK109.out 6).trans rfl
       have hcz17_7 : w5.cell? ⟨gb109, 7, none⟩ = some (.int .i64 a1_7) := (ya BK109.out 7).trans rfl
       have hcz17_8 : w5.cell? ⟨gb109, 8, none⟩ = some (.int .i64 a1_8) := (ya BK109.out 8).trans rfl
       have hcz17_9 : w5.cell? ⟨gb109, 9, none⟩ = some (.int .i64 a1_9) := (ya BK109.out 9).trans rfl
       have hcz17_10 : w5.cell? ⟨gb109, 10, none⟩ = some (.slice A1_10 l1_10.length c1_10) := (ya BK109.out 10).trans rfl
       have hfz17_0 := yb BK109.out 0
       have hfz17_1 := yb BK109.out 1
       have hfz17_2 := yb BK109.out 2
       have hfz17_3 := yb BK109.out 3
       have hfz17_4 := yb BK109.out 4
       have hfz17_5 := yb BK109.out 5
       have hfz17_6 := yb BK109.out 6
       have hfz17_7 := yb BK109.out 7
       have hfz17_8 := yb BK109.out 8
       have hfz17_9 := yb BK109.out 9
       have hfz17_10 := yb BK109.out 10
       go_wp2_with (first | (go_at_call 51; (with_reducible refine (outriderref13_Same.calls k _ _ l0_1 _ _ l1_1 true _ ?side1 ?side2 ?side3 ?side4 A12.out).mono ?_); (case side1 => repeat (first | exact (Kd.C_below HR0_1.out HB.out) | (with_reducible refine Kd.C_alloc ?_ _) | (with_reducible refine Kd.C_drewN ?_ _) | (with_reducible refine Kd.C_drew ?_))); (case side2 => exact HC0_1.out); (case side3 => repeat (first | exact (Kd.C_below HR1_1.out HB.out) | (with_reducible refine Kd.C_alloc ?_ _) | (with_reducible refine Kd.C_drewN ?_ _) | (with_reducible refine Kd.C_drew ?_))); (case side4 => exact HC1_1.out); rintro e w' ⟨rfl, ⟨nd, rfl⟩⟩; (try first | exact ⟨rfl, _, World.drewN_drewN _ _ _⟩ | exact ⟨rfl, _, Eq.trans (World.drewN_drewN _ _ _) (congrArg (World.drewN _) (Nat.add_assoc _ _ _))⟩)))
       repeat (go_quiet (first | (go_at_call 51; (with_reducible refine (outriderref13_Same.calls k _ _ l0_1 _ _ l1_1 true _ ?side1 ?side2 ?side3 ?side4 A12.out).mono ?_); (case side1 => repeat (first | exact (Kd.C_below HR0_1.out HB.out) | (with_reducible refine Kd.C_alloc ?_ _) | (with_reducible refine Kd.C_drewN ?_ _) | (with_reducible refine Kd.C_drew ?_))); (case side2 => exact HC0_1.out); (case side3 => repeat (first | exact (Kd.C_below HR1_1.out HB.out) | (with_reducible refine Kd.C_alloc ?_ _) | (with_reducible refine Kd.C_drewN ?_ _) | (with_reducible refine Kd.C_drew ?_))); (case side4 => exact HC1_1.out); rintro e w' ⟨rfl, ⟨nd, rfl⟩⟩; (try first | exact ⟨rfl, _, World.drewN_drewN _ _ _⟩ | exact ⟨rfl, _, Eq.trans (World.drewN_drewN _ _ _) (congrArg (World.drewN _) (Nat.add_assoc _ _ _))⟩))); try go_wp2_with (first | (go_at_call 51; (with_reducible refine (outriderref13_Same.calls k _ _ l0_1 _ _ l1_1 true _ ?side1 ?side2 ?side3 ?side4 A12.out).mono ?_); (case side1 => repeat (first | exact (Kd.C_below HR0_1.out HB.out) | (with_reducible refine Kd.C_alloc ?_ _) | (with_reducible refine Kd.C_drewN ?_ _) | (with_reducible refine Kd.C_drew ?_))); (case side2 => exact HC0_1.out); (case side3 => repeat (first | exact (Kd.C_below HR1_1.out HB.out) | (with_reducible refine Kd.C_alloc ?_ _) | (with_reducible refine Kd.C_drewN ?_ _) | (with_reducible refine Kd.C_drew ?_))); (case side4 => exact HC1_1.out); rintro e w' ⟨rfl, ⟨nd, rfl⟩⟩; (try first | exact ⟨rfl, _, World.drewN_drewN _ _ _⟩ | exact ⟨rfl, _, Eq.trans (World.drewN_drewN _ _ _) (congrArg (World.drewN _) (Nat.add_assoc _ _ _))⟩))))
       go_meet
       case rel => exact ⟨_, (((l0_10.length : Int) != (l1_10.length : Int))), (by first | rfl | (simp; done) | (simp [*]; done)), H', ⟨by first | omega | exact Nat.le_refl _⟩, ⟨by (with_reducible repeat (first | refine yh ?_ _ | refine yj ?_ | refine yi ?_ _)); exact BK108.out⟩, ⟨by (with_reducible repeat (first | refine yh ?_ _ | refine yj ?_ | refine yi ?_ _)); exact BK109.out⟩, ⟨by repeat (first | (with_reducible first | exact HB.out | apply yd | apply ye | apply yf | refine yg ?_ GE108.out | refine yg ?_ GE109.out) | exact HB.out)⟩⟩
      ·rw [if_neg c14] at H
       have c14b0 : ((l0_2.length : Int) == (l1_2.length : Int)) = false := beq_eq_false_iff_ne.mpr c14
       have c14b1 : ((l0_2.length : Int) != (l1_2.length : Int)) = true := bne_iff_ne.mpr c14
       have c14b2 : (l0_2.length == l1_2.length) = false := by first | simpa using c14 | (simp at c14 ⊢; omega)
       have H' := yc H
       clear H
       have hnb18 := NB108_109.out
       have hnc18 := NB109_108.out
       have hcz19_0 : w5.cell? ⟨gb108, 0, none⟩ = some (.int .i64 a0_0) := (ya BK108.out 0).trans rfl
       have hcz19_1 : w5.cell? ⟨gb108, 1, none⟩ = some (.slice A0_1 l0_1.length c0_1) := (ya BK108.out 1).trans rfl
       have hcz19_2 : w5.cell? ⟨gb108, 2, none⟩ = some (.slice A0_2 l0_2.length c0_2) := (ya BK108.out 2).trans rfl
       have hcz19_3 : w5.cell? ⟨gb108, 3, none⟩ = some (.int .i64 a0_3) := (ya BK108.out 3).trans rfl
       have hcz19_4 : w5.cell? ⟨gb108, 4, none⟩ = some (.int .i64 a0_4) := (ya BK108.out 4).trans rfl
       have hcz19_5 : w5.cell? ⟨gb108, 5, none⟩ = some (.int .i64 a0_5) := (ya BK108.out 5).trans rfl
       have hcz19_6 : w5.cell? ⟨gb108, 6, none⟩ = some (.int .i64 a0_6) := (ya BK108.out 6).trans rfl
       have hcz19_7 : w5.cell? ⟨gb108, 7, none⟩ = some (.int .i64 a0_7) := (ya BK108.out 7).trans rfl
       have hcz19_8 : w5.cell? ⟨gb108, 8, none⟩ = some (.int .i64 a0_8) := (ya BK108.out 8).trans rfl
       have hcz19_9 : w5.cell? ⟨gb108, 9, none⟩ = some (.int .i64 a0_9) := (ya BK108.out 9).trans rfl
       have hcz19_10 : w5.cell? ⟨gb108, 10, none⟩ = some (.slice A0_10 l0_10.length c0_10) := (ya BK108.out 10).trans rfl
       have hfz19_0 := yb BK108.out 0
       have hfz19_1 := yb BK108.out 1
       have hfz19_2 := yb BK108.out 2
       have hfz19_3 := yb BK108.out 3
       have hfz19_4 := yb BK108.out 4
       have hfz19_5 := yb BK108.out 5
       have hfz19_6 := yb BK108.out 6
       have hfz19_7 := yb BK108.out 7
       have hfz19_8 := yb BK108.out 8
       have hfz19_9 := yb BK108.out 9
       have hfz19_10 := yb BK108.out 10
       have hcz20_0 : w5.cell? ⟨gb109, 0, none⟩ = some (.int .i64 a1_0) := (ya BK109.out 0).trans rfl
       have hcz20_1 : w5.cell? ⟨gb109, 1, none⟩ = some (.slice A1_1 l1_1.length c1_1) := (ya BK109.out 1).trans rfl
       have hcz20_2 : w5.cell? ⟨gb109, 2, none⟩ = some (.slice A1_2 l1_2.length c1_2) := (ya BK109.out 2).trans rfl
       have hcz20_3 : w5.cell? ⟨gb109, 3, none⟩ = some (.int .i64 a1_3) := (ya BK109.out 3).trans rfl
       have hcz20_4 : w5.cell? ⟨gb109, 4, none⟩ = some (.int .i64 a1_4) := (ya BK109.out 4).trans rfl
       have hcz20_5 : w5.cell? ⟨gb109, 5, none⟩ = some (.int .i64 a1_5) := (ya BK109.out 5).trans rfl
       have hcz20_6 : w5.cell? ⟨gb109, 6, none⟩ = some (.int .i64 a1_6) := (ya BK109.out 6).trans rfl
       have hcz20_7 : w5.cell? ⟨gb109, 7, none⟩ = some (.int .i64 a1_7) := (ya BK109.out 7).trans rfl
       have hcz20_8 : w5.cell? ⟨gb109, 8, none⟩ = some (.int .i64 a1_8) := (ya BK109.out 8).trans rfl
       have hcz20_9 : w5.cell? ⟨gb109, 9, none⟩ = some (.int .i64 a1_9) := (ya BK109.out 9).trans rfl
       have hcz20_10 : w5.cell? ⟨gb109, 10, none⟩ = some (.slice A1_10 l1_10.length c1_10) := (ya BK109.out 10).trans rfl
       have hfz20_0 := yb BK109.out 0
       have hfz20_1 := yb BK109.out 1
       have hfz20_2 := yb BK109.out 2
       have hfz20_3 := yb BK109.out 3
       have hfz20_4 := yb BK109.out 4
       have hfz20_5 := yb BK109.out 5
       have hfz20_6 := yb BK109.out 6
       have hfz20_7 := yb BK109.out 7
       have hfz20_8 := yb BK109.out 8
       have hfz20_9 := yb BK109.out 9
       have hfz20_10 := yb BK109.out 10
       go_wp2_with (first | (go_at_call 51; (with_reducible refine (outriderref13_Same.calls k _ _ l0_1 _ _ l1_1 true _ ?side1 ?side2 ?side3 ?side4 A12.out).mono ?_); (case side1 => repeat (first | exact (Kd.C_below HR0_1.out HB.out) | (with_reducible refine Kd.C_alloc ?_ _) | (with_reducible refine Kd.C_drewN ?_ _) | (with_reducible refine Kd.C_drew ?_))); (case side2 => exact HC0_1.out); (case side3 => repeat (first | exact (Kd.C_below HR1_1.out HB.out) | (with_reducible refine Kd.C_alloc ?_ _) | (with_reducible refine Kd.C_drewN ?_ _) | (with_reducible refine Kd.C_drew ?_))); (case side4 => exact HC1_1.out); rintro e w' ⟨rfl, ⟨nd, rfl⟩⟩; (try first | exact ⟨rfl, _, World.drewN_drewN _ _ _⟩ | exact ⟨rfl, _, Eq.trans (World.drewN_drewN _ _ _) (congrArg (World.drewN _) (Nat.add_assoc _ _ _))⟩)))
       repeat (go_quiet (first | (go_at_call 51; (with_reducible refine (outriderref13_Same.calls k _ _ l0_1 _ _ l1_1 true _ ?side1 ?side2 ?side3 ?side4 A12.out).mono ?_); (case side1 => repeat (first | exact (Kd.C_below HR0_1.out HB.out) | (with_reducible refine Kd.C_alloc ?_ _) | (with_reducible refine Kd.C_drewN ?_ _) | (with_reducible refine Kd.C_drew ?_))); (case side2 => exact HC0_1.out); (case side3 => repeat (first | exact (Kd.C_below HR1_1.out HB.out) | (with_reducible refine Kd.C_alloc ?_ _) | (with_reducible refine Kd.C_drewN ?_ _) | (with_reducible refine Kd.C_drew ?_))); (case side4 => exact HC1_1.out); rintro e w' ⟨rfl, ⟨nd, rfl⟩⟩; (try first | exact ⟨rfl, _, World.drewN_drewN _ _ _⟩ | exact ⟨rfl, _, Eq.trans (World.drewN_drewN _ _ _) (congrArg (World.drewN _) (Nat.add_assoc _ _ _))⟩))); try go_wp2_with (first | (go_at_call 51; (with_reducible refine (outriderref13_Same.calls k _ _ l0_1 _ _ l1_1 true _ ?side1 ?side2 ?side3 ?side4 A12.out).mono ?_); (case side1 => repeat (first | exact (Kd.C_below HR0_1.out HB.out) | (with_reducible refine Kd.C_alloc ?_ _) | (with_reducible refine Kd.C_drewN ?_ _) | (with_reducible refine Kd.C_drew ?_))); (case side2 => exact HC0_1.out); (case side3 => repeat (first | exact (Kd.C_below HR1_1.out HB.out) | (with_reducible refine Kd.C_alloc ?_ _) | (with_reducible refine Kd.C_drewN ?_ _) | (with_reducible refine Kd.C_drew ?_))); (case side4 => exact HC1_1.out); rintro e w' ⟨rfl, ⟨nd, rfl⟩⟩; (try first | exact ⟨rfl, _, World.drewN_drewN _ _ _⟩ | exact ⟨rfl, _, Eq.trans (World.drewN_drewN _ _ _) (congrArg (World.drewN _) (Nat.add_assoc _ _ _))⟩))))
       go_meet
       case rel => exact ⟨_, (true), (by first | rfl | (simp; done) | (simp [*]; done)), H', ⟨by first | omega | exact Nat.le_refl _⟩, ⟨by (with_reducible repeat (first | refine yh ?_ _ | refine yj ?_ | refine yi ?_ _)); exact BK108.out⟩, ⟨by (with_reducible repeat (first | refine yh ?_ _ | refine yj ?_ | refine yi ?_ _)); exact BK109.out⟩, ⟨by repeat (first | (with_reducible first | exact HB.out | apply yd | apply ye | apply yf | refine yg ?_ GE108.out | refine yg ?_ GE109.out) | exact HB.out)⟩⟩
     ·replace c13 := Bool.eq_false_iff.mpr c13
      subst c13
      have H1 : (outriderref17_Same.j0 k true a0_0 l0_1 l0_2 a0_3 a0_4 a0_5 a0_6 a0_7 a0_8 a0_9 l0_10 a1_0 l1_1 l1_2 a1_3 a1_4 a1_5 a1_6 a1_7 a1_8 a1_9 l1_10) = some r := by rw [if_neg (show ¬ (false = true) by decide)] at H; exact H
      clear H
      have H := H1
      clear H1
      have H' := yc H
      clear H
      have hnb21 := NB108_109.out
      have hnc21 := NB109_108.out
      have hcz22_0 : w5.cell? ⟨gb108, 0, none⟩ = some (.int .i64 a0_0) := (ya BK108.out 0).trans rfl
      have hcz22_1 : w5.cell? ⟨gb108, 1, none⟩ = some (.slice A0_1 l0_1.length c0_1) := (ya BK108.out 1).trans rfl
      have hcz22_2 : w5.cell? ⟨gb108, 2, none⟩ = some (.slice A0_2 l0_2.length c0_2) := (ya BK108.out 2).trans rfl
      have hcz22_3 : w5.cell? ⟨gb108, 3, none⟩ = some (.int .i64 a0_3) := (ya BK108.out 3).trans rfl
      have hcz22_4 : w5.cell? ⟨gb108, 4, none⟩ = some (.int .i64 a0_4) := (ya BK108.out 4).trans rfl
      have hcz22_5 : w5.cell? ⟨gb108, 5, none⟩ = some (.int .i64 a0_5) := (ya BK108.out 5).trans rfl
      have hcz22_6 : w5.cell? ⟨gb108, 6, none⟩ = some (.int .i64 a0_6) := (ya BK108.out 6).trans rfl
      have hcz22_7 : w5.cell? ⟨gb108, 7, none⟩ = some (.int .i64 a0_7) := (ya BK108.out 7).trans rfl
      have hcz22_8 : w5.cell? ⟨gb108, 8, none⟩ = some (.int .i64 a0_8) := (ya BK108.out 8).trans rfl
      have hcz22_9 : w5.cell? ⟨gb108, 9, none⟩ = some (.int .i64 a0_9) := (ya BK108.out 9).trans rfl
      have hcz22_10 : w5.cell? ⟨gb108, 10, none⟩ = some (.slice A0_10 l0_10.length c0_10) := (ya BK108.out 10).trans rfl
      have hfz22_0 := yb BK108.out 0
      have hfz22_1 := yb BK108.out 1
      have hfz22_2 := yb BK108.out 2
      have hfz22_3 := yb BK108.out 3
      have hfz22_4 := yb BK108.out 4
      have hfz22_5 := yb BK108.out 5
      have hfz22_6 := yb BK108.out 6
      have hfz22_7 := yb BK108.out 7
      have hfz22_8 := yb BK108.out 8
      have hfz22_9 := yb BK108.out 9
      have hfz22_10 := yb BK108.out 10
      have hcz23_0 : w5.cell? ⟨gb109, 0, none⟩ = some (.int .i64 a1_0) := (ya BK109.out 0).trans rfl
      have hcz23_1 : w5.cell? ⟨gb109, 1, none⟩ = some (.slice A1_1 l1_1.length c1_1) := (ya BK109.out 1).trans rfl
      have hcz23_2 : w5.cell? ⟨gb109, 2, none⟩ = some (.slice A1_2 l1_2.length c1_2) := (ya BK109.out 2).trans rfl
      have hcz23_3 : w5.cell? ⟨gb109, 3, none⟩ = some (.int .i64 a1_3) := (ya BK109.out 3).trans rfl
      have hcz23_4 : w5.cell? ⟨gb109, 4, none⟩ = some (.int .i64 a1_4) := (ya BK109.out 4).trans rfl
      have hcz23_5 : w5.cell? ⟨gb109, 5, none⟩ = some (.int .i64 a1_5) := (ya BK109.out 5).trans rfl
      have hcz23_6 : w5.cell? ⟨gb109, 6, none⟩ = some (.int .i64 a1_6) := (ya BK109.out 6).trans rfl
      have hcz23_7 : w5.cell? ⟨gb109, 7, none⟩ = some (.int .i64 a1_7) := (ya BK109.out 7).trans rfl
      have hcz23_8 : w5.cell? ⟨gb109, 8, none⟩ = some (.int .i64 a1_8) := (ya BK109.out 8).trans rfl
      have hcz23_9 : w5.cell? ⟨gb109, 9, none⟩ = some (.int .i64 a1_9) := (ya BK109.out 9).trans rfl
      have hcz23_10 : w5.cell? ⟨gb109, 10, none⟩ = some (.slice A1_10 l1_10.length c1_10) := (ya BK109.out 10).trans rfl
      have hfz23_0 := yb BK109.out 0
      have hfz23_1 := yb BK109.out 1
      have hfz23_2 := yb BK109.out 2
      have hfz23_3 := yb BK109.out 3
      have hfz23_4 := yb BK109.out 4
      have hfz23_5 := yb BK109.out 5
      have hfz23_6 := yb BK109.out 6
      have hfz23_7 := yb BK109.out 7
      have hfz23_8 := yb BK109.out 8
      have hfz23_9 := yb BK109.out 9
      have hfz23_10 := yb BK109.out 10
      go_wp2_with (first | (go_at_call 51; (with_reducible refine (outriderref13_Same.calls k _ _ l0_1 _ _ l1_1 false _ ?side1 ?side2 ?side3 ?side4 A12.out).mono ?_); (case side1 => repeat (first | exact (Kd.C_below HR0_1.out HB.out) | (with_reducible refine Kd.C_alloc ?_ _) | (with_reducible refine Kd.C_drewN ?_ _) | (with_reducible refine Kd.C_drew ?_))); (case side2 => exact HC0_1.out); (case side3 => repeat (first | exact (Kd.C_below HR1_1.out HB.out) | (with_reducible refine Kd.C_alloc ?_ _) | (with_reducible refine Kd.C_drewN ?_ _) | (with_reducible refine Kd.C_drew ?_))); (case side4 => exact HC1_1.out); rintro e w' ⟨rfl, ⟨nd, rfl⟩⟩; (try first | exact ⟨rfl, _, World.drewN_drewN _ _ _⟩ | exact ⟨rfl, _, Eq.trans (World.drewN_drewN _ _ _) (congrArg (World.drewN _) (Nat.add_assoc _ _ _))⟩)))
      repeat (go_quiet (first | (go_at_call 51; (with_reducible refine (outriderref13_Same.calls k _ _ l0_1 _ _ l1_1 false _ ?side1 ?side2 ?side3 ?side4 A12.out).mono ?_); (case side1 => repeat (first | exact (Kd.C_below HR0_1.out HB.out) | (with_reducible refine Kd.C_alloc ?_ _) | (with_reducible refine Kd.C_drewN ?_ _) | (with_reducible refine Kd.C_drew ?_))); (case side2 => exact HC0_1.out); (case side3 => repeat (first | exact (Kd.C_below HR1_1.out HB.out) | (with_reducible refine Kd.C_alloc ?_ _) | (with_reducible refine Kd.C_drewN ?_ _) | (with_reducible refine Kd.C_drew ?_))); (case side4 => exact HC1_1.out); rintro e w' ⟨rfl, ⟨nd, rfl⟩⟩; (try first | exact ⟨rfl, _, World.drewN_drewN _ _ _⟩ | exact ⟨rfl, _, Eq.trans (World.drewN_drewN _ _ _) (congrArg (World.drewN _) (Nat.add_assoc _ _ _))⟩))); try go_wp2_with (first | (go_at_call 51; (with_reducible refine (outriderref13_Same.calls k _ _ l0_1 _ _ l1_1 false _ ?side1 ?side2 ?side3 ?side4 A12.out).mono ?_); (case side1 => repeat (first | exact (Kd.C_below HR0_1.out HB.out) | (with_reducible refine Kd.C_alloc ?_ _) | (with_reducible refine Kd.C_drewN ?_ _) | (with_reducible refine Kd.C_drew ?_))); (case side2 => exact HC0_1.out); (case side3 => repeat (first | exact (Kd.C_below HR1_1.out HB.out) | (with_reducible refine Kd.C_alloc ?_ _) | (with_reducible refine Kd.C_drewN ?_ _) | (with_reducible refine Kd.C_drew ?_))); (case side4 => exact HC1_1.out); rintro e w' ⟨rfl, ⟨nd, rfl⟩⟩; (try first | exact ⟨rfl, _, World.drewN_drewN _ _ _⟩ | exact ⟨rfl, _, Eq.trans (World.drewN_drewN _ _ _) (congrArg (World.drewN _) (Nat.add_assoc _ _ _))⟩))))
      go_meet
      case rel => exact ⟨_, (true), (by first | rfl | (simp; done) | (simp [*]; done)), H', ⟨by first | omega | exact Nat.le_refl _⟩, ⟨by (with_reducible repeat (first | refine yh ?_ _ | refine yj ?_ | refine yi ?_ _)); exact BK108.out⟩, ⟨by (with_reducible repeat (first | refine yh ?_ _ | refine yj ?_ | refine yi ?_ _)); exact BK109.out⟩, ⟨by repeat (first | (with_reducible first | exact HB.out | apply yd | apply ye | apply yf | refine yg ?_ GE108.out | refine yg ?_ GE109.out) | exact HB.out)⟩⟩
   ·rw [if_neg c7] at H
    have c7b0 : (a0_3 == a1_3) = false := beq_eq_false_iff_ne.mpr c7
    have c7b1 : (a0_3 != a1_3) = true := bne_iff_ne.mpr c7
    have H' := yc H
    clear H
    have hnb24 := NB108_109.out
    have hnc24 := NB109_108.out
    have hcz25_0 : w5.cell? ⟨gb108, 0, none⟩ = some (.int .i64 a0_0) := (ya BK108.out 0).trans rfl
    have hcz25_1 : w5.cell? ⟨gb108, 1, none⟩ = some (.slice A0_1 l0_1.length c0_1) := (ya BK108.out 1).trans rfl
    have hcz25_2 : w5.cell? ⟨gb108, 2, none⟩ = some (.slice A0_2 l0_2.length c0_2) := (ya BK108.out 2).trans rfl
    have hcz25_3 : w5.cell? ⟨gb108, 3, none⟩ = some (.int .i64 a0_3) := (ya BK108.out 3).trans rfl
    have hcz25_4 : w5.cell? ⟨gb108, 4, none⟩ = some (.int .i64 a0_4) := (ya BK108.out 4).trans rfl
    have hcz25_5 : w5.cell? ⟨gb108, 5, none⟩ = some (.int .i64 a0_5) := (ya BK108.out 5).trans rfl
    have hcz25_6 : w5.cell? ⟨gb108, 6, none⟩ = some (.int .i64 a0_6) := (ya BK108.out 6).trans rfl
    have hcz25_7 : w5.cell? ⟨gb108, 7, none⟩ = some (.int .i64 a0_7) := (ya BK108.out 7).trans rfl
    have hcz25_8 : w5.cell? ⟨gb108, 8, none⟩ = some (.int .i64 a0_8) := (ya BK108.out 8).trans rfl
    have hcz25_9 : w5.cell? ⟨gb108, 9, none⟩ = some (.int .i64 a0_9) := (ya BK108.out 9).trans rfl
    have hcz25_10 : w5.cell? ⟨gb108, 10, none⟩ = some (.slice A0_10 l0_10.length c0_10) := (ya BK108.out 10).trans rfl
    have hfz25_0 := yb BK108.out 0
    have hfz25_1 := yb BK108.out 1
    have hfz25_2 := yb BK108.out 2
    have hfz25_3 := yb BK108.out 3
    have hfz25_4 := yb BK108.out 4
    have hfz25_5 := yb BK108.out 5
    have hfz25_6 := yb BK108.out 6
    have hfz25_7 := yb BK108.out 7
    have hfz25_8 := yb BK108.out 8
    have hfz25_9 := yb BK108.out 9
    have hfz25_10 := yb BK108.out 10
    have hcz26_0 : w5.cell? ⟨gb109, 0, none⟩ = some (.int .i64 a1_0) := (ya BK109.out 0).trans rfl
    have hcz26_1 : w5.cell? ⟨gb109, 1, none⟩ = some (.slice A1_1 l1_1.length c1_1) := (ya BK109.out 1).trans rfl
    have hcz26_2 : w5.cell? ⟨gb109, 2, none⟩ = some (.slice A1_2 l1_2.length c1_2) := (ya BK109.out 2).trans rfl
    have hcz26_3 : w5.cell? ⟨gb109, 3, none⟩ = some (.int .i64 a1_3) := (ya BK109.out 3).trans rfl
    have hcz26_4 : w5.cell? ⟨gb109, 4, none⟩ = some (.int .i64 a1_4) := (ya BK109.out 4).trans rfl
    have hcz26_5 : w5.cell? ⟨gb109, 5, none⟩ = some (.int .i64 a1_5) := (ya BK109.out 5).trans rfl
    have hcz26_6 : w5.cell? ⟨gb109, 6, none⟩ = some (.int .i64 a1_6) := (ya BK109.out 6).trans rfl
    have hcz26_7 : w5.cell? ⟨gb109, 7, none⟩ = some (.int .i64 a1_7) := (ya BK109.out 7).trans rfl
    have hcz26_8 : w5.cell? ⟨gb109, 8, none⟩ = some (.int .i64 a1_8) := (ya BK109.out 8).trans rfl
    have hcz26_9 : w5.cell? ⟨gb109, 9, none⟩ = some (.int .i64 a1_9) := (ya BK109.out 9).trans rfl
    have hcz26_10 : w5.cell? ⟨gb109, 10, none⟩ = some (.slice A1_10 l1_10.length c1_10) := (ya BK109.out 10).trans rfl
    have hfz26_0 := yb BK109.out 0
    have hfz26_1 := yb BK109.out 1
    have hfz26_2 := yb BK109.out 2
    have hfz26_3 := yb BK109.out 3
    have hfz26_4 := yb BK109.out 4
    have hfz26_5 := yb BK109.out 5
    have hfz26_6 := yb BK109.out 6
    have hfz26_7 := yb BK109.out 7
    have hfz26_8 := yb BK109.out 8
    have hfz26_9 := yb BK109.out 9
    have hfz26_10 := yb BK109.out 10
    go_wp2
    repeat (go_quiet (fail); try go_wp2)
    go_meet
    case rel => exact ⟨_, (true), (by first | rfl | (simp; done) | (simp [*]; done)), H', ⟨by first | omega | exact Nat.le_refl _⟩, ⟨by (with_reducible repeat (first | refine yh ?_ _ | refine yj ?_ | refine yi ?_ _)); exact BK108.out⟩, ⟨by (with_reducible repeat (first | refine yh ?_ _ | refine yj ?_ | refine yi ?_ _)); exact BK109.out⟩, ⟨by repeat (first | (with_reducible first | exact HB.out | apply yd | apply ye | apply yf | refine yg ?_ GE108.out | refine yg ?_ GE109.out) | exact HB.out)⟩⟩
  ·rw [if_neg c6] at H
   have c6b0 : (a0_0 == a1_0) = false := beq_eq_false_iff_ne.mpr c6
   have c6b1 : (a0_0 != a1_0) = true := bne_iff_ne.mpr c6
   (first | rw [c6b0] | (simp only [i64_w, i32_w]; rw [c6b0]) | skip)
   have H' := yc H
   clear H
   have hnb27 := NB108_109.out
   have hnc27 := NB109_108.out
   have hcz28_0 : w5.cell? ⟨gb108, 0, none⟩ = some (.int .i64 a0_0) := (ya BK108.out 0).trans rfl
   have hcz28_1 : w5.cell? ⟨gb108, 1, none⟩ = some (.slice A0_1 l0_1.length c0_1) := (ya BK108.out 1).trans rfl
   have hcz28_2 : w5.cell? ⟨gb108, 2, none⟩ = some (.slice A0_2 l0_2.length c0_2) := (ya BK108.out 2).trans rfl
   have hcz28_3 : w5.cell? ⟨gb108, 3, none⟩ = some (.int .i64 a0_3) := (ya BK108.out 3).trans rfl
   have hcz28_4 : w5.cell? ⟨gb108, 4, none⟩ = some (.int .i64 a0_4) := (ya BK108.out 4).trans rfl
   have hcz28_5 : w5.cell? ⟨gb108, 5, none⟩ = some (.int .i64 a0_5) := (ya BK108.out 5).trans rfl
   have hcz28_6 : w5.cell? ⟨gb108, 6, none⟩ = some (.int .i64 a0_6) := (ya BK108.out 6).trans rfl
   have hcz28_7 : w5.cell? ⟨gb108, 7, none⟩ = some (.int .i64 a0_7) := (ya BK108.out 7).trans rfl
   have hcz28_8 : w5.cell? ⟨gb108, 8, none⟩ = some (.int .i64 a0_8) := (ya BK108.out 8).trans rfl
   have hcz28_9 : w5.cell? ⟨gb108, 9, none⟩ = some (.int .i64 a0_9) := (ya BK108.out 9).trans rfl
   have hcz28_10 : w5.cell? ⟨gb108, 10, none⟩ = some (.slice A0_10 l0_10.length c0_10) := (ya BK108.out 10).trans rfl
   have hfz28_0 := yb BK108.out 0
   have hfz28_1 := yb BK108.out 1
   have hfz28_2 := yb BK108.out 2
   have hfz28_3 := yb BK108.out 3
   have hfz28_4 := yb BK108.out 4
   have hfz28_5 := yb BK108.out 5
   have hfz28_6 := yb BK108.out 6
   have hfz28_7 := yb BK108.out 7
   have hfz28_8 := yb BK108.out 8
   have hfz28_9 := yb BK108.out 9
   have hfz28_10 := yb BK108.out 10
   have hcz29_0 : w5.cell? ⟨gb109, 0, none⟩ = some (.int .i64 a1_0) := (ya BK109.out 0).trans rfl
   have hcz29_1 : w5.cell? ⟨gb109, 1, none⟩ = some (.slice A1_1 l1_1.length c1_1) := (ya BK109.out 1).trans rfl
   have hcz29_2 : w5.cell? ⟨gb109, 2, none⟩ = some (.slice A1_2 l1_2.length c1_2) := (ya BK109.out 2).trans rfl
   have hcz29_3 : w5.cell? ⟨gb109, 3, none⟩ = some (.int .i64 a1_3) := (ya BK109.out 3).trans rfl
   have hcz29_4 : w5.cell? ⟨gb109, 4, none⟩ = some (.int .i64 a1_4) := (ya BK109.out 4).trans rfl
   have hcz29_5 : w5.cell? ⟨gb109, 5, none⟩ = some (.int .i64 a1_5) := (ya BK109.out 5).trans rfl
   have hcz29_6 : w5.cell? ⟨gb109, 6, none⟩ = some (.int .i64 a1_6) := (ya BK109.out 6).trans rfl
   have hcz29_7 : w5.cell? ⟨gb109, 7, none⟩ = some (.int .i64 a1_7) := (ya BK109.out 7).trans rfl
   have hcz29_8 : w5.cell? ⟨gb109, 8, none⟩ = some (.int .i64 a1_8) := (ya BK109.out 8).trans rfl
   have hcz29_9 : w5.cell? ⟨gb109, 9, none⟩ = some (.int .i64 a1_9) := (ya BK109.out 9).trans rfl
   have hcz29_10 : w5.cell? ⟨gb109, 10, none⟩ = some (.slice A1_10 l1_10.length c1_10) := (ya BK109.out 10).trans rfl
   have hfz29_0 := yb BK109.out 0
   have hfz29_1 := yb BK109.out 1
   have hfz29_2 := yb BK109.out 2
   have hfz29_3 := yb BK109.out 3
   have hfz29_4 := yb BK109.out 4
   have hfz29_5 := yb BK109.out 5
   have hfz29_6 := yb BK109.out 6
   have hfz29_7 := yb BK109.out 7
   have hfz29_8 := yb BK109.out 8
   have hfz29_9 := yb BK109.out 9
   have hfz29_10 := yb BK109.out 10
   go_wp2
   repeat (go_quiet (fail); try go_wp2)
   go_meet
   case rel => exact ⟨_, (true), (by first | rfl | (simp; done) | (simp [*]; done)), H', ⟨by first | omega | exact Nat.le_refl _⟩, ⟨by (with_reducible repeat (first | refine yh ?_ _ | refine yj ?_ | refine yi ?_ _)); exact BK108.out⟩, ⟨by (with_reducible repeat (first | refine yh ?_ _ | refine yj ?_ | refine yi ?_ _)); exact BK109.out⟩, ⟨by repeat (first | (with_reducible first | exact HB.out | apply yd | apply ye | apply yf | refine yg ?_ GE108.out | refine yg ?_ GE109.out) | exact HB.out)⟩⟩
 case rest =>
  clear HC3
  try clear c1; try clear c2; try clear p2; try clear c6; try clear c6b0; try clear c6b1; try clear c7; try clear c7b0; try clear c7b1; try clear c8; try clear c8b0; try clear c9; try clear c13; try clear c14; try clear c14b0; try clear c14b1; try clear c14b2; try clear c15; try clear c18; try clear c19; try clear c21; try clear c24; try clear c27; try clear hcz10_0; try clear hcz10_1; try clear hcz10_10; try clear hcz10_2; try clear hcz10_3; try clear hcz10_4; try clear hcz10_5; try clear hcz10_6; try clear hcz10_7; try clear hcz10_8; try clear hcz10_9; try clear hcz11_0; try clear hcz11_1; try clear hcz11_10; try clear hcz11_2; try clear hcz11_3; try clear hcz11_4; try clear hcz11_5; try clear hcz11_6; try clear hcz11_7; try clear hcz11_8; try clear hcz11_9; try clear hcz16_0; try clear hcz16_1; try clear hcz16_10; try clear hcz16_2; try clear hcz16_3; try clear hcz16_4; try clear hcz16_5; try clear hcz16_6; try clear hcz16_7; try clear hcz16_8; try clear hcz16_9; try clear hcz17_0; try clear hcz17_1; try clear hcz17_10; try clear hcz17_2; try clear hcz17_3; try clear hcz17_4; try clear hcz17_5; try clear hcz17_6; try clear hcz17_7; try clear hcz17_8; try clear hcz17_9; try clear hcz19_0; try clear hcz19_1; try clear hcz19_10; try clear hcz19_2; try clear hcz19_3; try clear hcz19_4; try clear hcz19_5; try clear hcz19_6; try clear hcz19_7; try clear hcz19_8; try clear hcz19_9; try clear hcz20_0; try clear hcz20_1; try clear hcz20_10; try clear hcz20_2; try clear hcz20_3; try clear hcz20_4; try clear hcz20_5; try clear hcz20_6; try clear hcz20_7; try clear hcz20_8; try clear hcz20_9; try clear hcz22_0; try clear hcz22_1; try clear hcz22_10; try clear hcz22_2; try clear hcz22_3; try clear hcz22_4; try clear hcz22_5; try clear hcz22_6; try clear hcz22_7; try clear hcz22_8; try clear hcz22_9; try clear hcz23_0; try clear hcz23_1; try clear hcz23_10; try clear hcz23_2; try clear hcz23_3; try clear hcz23_4; try clear hcz23_5; try clear hcz23_6; try clear hcz23_7; try clear hcz23_8; try clear hcz23_9; try clear hcz25_0; try clear hcz25_1; try clear hcz25_10; try clear hcz25_2; try clear hcz25_3; try clear hcz25_4; try clear hcz25_5; try clear hcz25_6; try clear hcz25_7; try clear hcz25_8; try clear hcz25_9; try clear hcz26_0; try clear hcz26_1; try clear hcz26_10; try clear hcz26_2; try clear hcz26_3; try clear hcz26_4; try clear hcz26_5; try clear hcz26_6; try clear hcz26_7; try clear hcz26_8; try clear hcz26_9; try clear hcz28_0; try clear hcz28_1; try clear hcz28_10; try clear hcz28_2; try clear hcz28_3; try clear hcz28_4; try clear hcz28_5; try clear hcz28_6; try clear hcz28_7; try clear hcz28_8; try clear hcz28_9; try clear hcz29_0; try clear hcz29_1; try clear hcz29_10; try clear hcz29_2; try clear hcz29_3; try clear hcz29_4; try clear hcz29_5; try clear hcz29_6; try clear hcz29_7; try clear hcz29_8; try clear hcz29_9; try clear hfz10_0; try clear hfz10_1; try clear hfz10_10; try clear hfz10_2; try clear hfz10_3; try clear hfz10_4; try clear hfz10_5
  try clear hfz10_6; try clear hfz10_7; try clear hfz10_8; try clear hfz10_9; try clear hfz11_0; try clear hfz11_1; try clear hfz11_10; try clear hfz11_2; try clear hfz11_3; try clear hfz11_4; try clear hfz11_5; try clear hfz11_6; try clear hfz11_7; try clear hfz11_8; try clear hfz11_9; try clear hfz16_0; try clear hfz16_1; try clear hfz16_10; try clear hfz16_2; try clear hfz16_3; try clear hfz16_4; try clear hfz16_5; try clear hfz16_6; try clear hfz16_7; try clear hfz16_8; try clear hfz16_9; try clear hfz17_0; try clear hfz17_1; try clear hfz17_10; try clear hfz17_2; try clear hfz17_3; try clear hfz17_4; try clear hfz17_5; try clear hfz17_6; try clear hfz17_7; try clear hfz17_8; try clear hfz17_9; try clear hfz19_0; try clear hfz19_1; try clear hfz19_10; try clear hfz19_2; try clear hfz19_3; try clear hfz19_4; try clear hfz19_5; try clear hfz19_6; try clear hfz19_7; try clear hfz19_8; try clear hfz19_9; try clear hfz20_0; try clear hfz20_1; try clear hfz20_10; try clear hfz20_2; try clear hfz20_3; try clear hfz20_4; try clear hfz20_5; try clear hfz20_6; try clear hfz20_7; try clear hfz20_8; try clear hfz20_9; try clear hfz22_0; try clear hfz22_1; try clear hfz22_10; try clear hfz22_2; try clear hfz22_3; try clear hfz22_4; try clear hfz22_5; try clear hfz22_6; try clear hfz22_7; try clear hfz22_8; try clear hfz22_9; try clear hfz23_0; try clear hfz23_1; try clear hfz23_10; try clear hfz23_2; try clear hfz23_3; try clear hfz23_4; try clear hfz23_5; try clear hfz23_6; try clear hfz23_7; try clear hfz23_8; try clear hfz23_9; try clear hfz25_0; try clear hfz25_1; try clear hfz25_10; try clear hfz25_2; try clear hfz25_3; try clear hfz25_4; try clear hfz25_5; try clear hfz25_6; try clear hfz25_7; try clear hfz25_8; try clear hfz25_9; try clear hfz26_0; try clear hfz26_1; try clear hfz26_10; try clear hfz26_2; try clear hfz26_3; try clear hfz26_4; try clear hfz26_5; try clear hfz26_6; try clear hfz26_7; try clear hfz26_8; try clear hfz26_9; try clear hfz28_0; try clear hfz28_1; try clear hfz28_10; try clear hfz28_2; try clear hfz28_3; try clear hfz28_4; try clear hfz28_5; try clear hfz28_6; try clear hfz28_7; try clear hfz28_8; try clear hfz28_9; try clear hfz29_0; try clear hfz29_1; try clear hfz29_10; try clear hfz29_2; try clear hfz29_3; try clear hfz29_4; try clear hfz29_5; try clear hfz29_6; try clear hfz29_7; try clear hfz29_8; try clear hfz29_9
  obtain ⟨kq, x51_2, rfl, HA, HJ2, BK108, BK109, HB⟩ := hcut
  cases kq with
  | zero => exact absurd HA.out (by simp [outriderref17_Same.j0])
  | succ kj2 =>
   have H := HA.out
   clear HA
   simp only [outriderref17_Same.j0] at H
   by_cases c30 : x51_2 = true
   ·subst c30
    have H1 : (some false) = some r := by rw [if_pos rfl] at H; exact H
    clear H
    have H := H1
    clear H1
    obtain rfl := Option.some.inj H
    go_wp2
    repeat (go_quiet (fail); try go_wp2)
    go_ret
    exact ⟨by first | rfl | (simp [errW_none, errW_some] <;> rfl) | (simp [*, errW_none, errW_some] <;> rfl), by repeat (first | (with_reducible first | exact HB.out | apply yd | apply ye | apply yf | refine yg ?_ GE108.out | refine yg ?_ GE109.out) | exact HB.out)⟩
   ·replace c30 := Bool.eq_false_iff.mpr c30
    subst c30
    have H1 : (outriderref17_Same.l0 kj2 0 a0_0 l0_1 l0_2 a0_3 a0_4 a0_5 a0_6 a0_7 a0_8 a0_9 l0_10 a1_0 l1_1 l1_2 a1_3 a1_4 a1_5 a1_6 a1_7 a1_8 a1_9 l1_10) = some r := by rw [if_neg (show ¬ (false = true) by decide)] at H; exact H
    clear H
    have H := H1
    clear H1
    have H' := yc H
    clear H
    go_wp2
    repeat (go_quiet (fail); try go_wp2)
    go_loopg [5] kj2 (fun kq v5 w' => ∃ (x5_2 : Int), v5 = .int .i64 x5_2 ∧ Aside0 (outriderref17_Same.l0 kq x5_2 a0_0 l0_1 l0_2 a0_3 a0_4 a0_5 a0_6 a0_7 a0_8 a0_9 l0_10 a1_0 l1_1 l1_2 a1_3 a1_4 a1_5 a1_6 a1_7 a1_8 a1_9 l1_10 = some r) ∧ Aside0 (kq ≤ kj2) ∧ Aside0 (w'.heap[gb108]? = some (.cells #[.int .i64 a0_0, (.slice A0_1 l0_1.length c0_1), (.slice A0_2 l0_2.length c0_2), .int .i64 a0_3, .int .i64 a0_4, .int .i64 a0_5, .int .i64 a0_6, .int .i64 a0_7, .int .i64 a0_8, .int .i64 a0_9, (.slice A0_10 l0_10.length c0_10)] 29 (0, 0))) ∧ Aside0 (w'.heap[gb109]? = some (.cells #[.int .i64 a1_0, (.slice A1_1 l1_1.length c1_1), (.slice A1_2 l1_2.length c1_2), .int .i64 a1_3, .int .i64 a1_4, .int .i64 a1_5, .int .i64 a1_6, .int .i64 a1_7, .int .i64 a1_8, .int .i64 a1_9, (.slice A1_10 l1_10.length c1_10)] 29 (0, 0))) ∧ Aside0 (Below w.heap.size w w'))
    case atStart => exact ⟨(0), (by first | rfl | (simp; done) | (simp [*]; done)), H', ⟨Nat.le_refl _⟩, ⟨by (with_reducible repeat (first | refine yh ?_ _ | refine yj ?_ | refine yi ?_ _)); exact BK108.out⟩, ⟨by (with_reducible repeat (first | refine yh ?_ _ | refine yj ?_ | refine yi ?_ _)); exact BK109.out⟩, ⟨by repeat (first | (with_reducible first | exact HB.out | apply yd | apply ye | apply yf | refine yg ?_ GE108.out | refine yg ?_ GE109.out) | exact HB.out)⟩⟩
    case round =>
     clear H'
     try clear c1; try clear c2; try clear p2; try clear c3; try clear c6; try clear c6b0; try clear c6b1; try clear c7; try clear c7b0; try clear c7b1; try clear c8; try clear c8b0; try clear c9; try clear c13; try clear c14; try clear c14b0; try clear c14b1; try clear c14b2; try clear c15; try clear c18; try clear c19; try clear c21; try clear c24; try clear c27; try clear c30; try clear hcz10_0; try clear hcz10_1; try clear hcz10_10; try clear hcz10_2; try clear hcz10_3; try clear hcz10_4; try clear hcz10_5; try clear hcz10_6; try clear hcz10_7; try clear hcz10_8; try clear hcz10_9; try clear hcz11_0; try clear hcz11_1; try clear hcz11_10; try clear hcz11_2; try clear hcz11_3; try clear hcz11_4; try clear hcz11_5; try clear hcz11_6; try clear hcz11_7; try clear hcz11_8; try clear hcz11_9; try clear hcz16_0; try clear hcz16_1; try clear hcz16_10; try clear hcz16_2; try clear hcz16_3; try clear hcz16_4; try clear hcz16_5; try clear hcz16_6; try clear hcz16_7; try clear hcz16_8; try clear hcz16_9; try clear hcz17_0; try clear hcz17_1; try clear hcz17_10; try clear hcz17_2; try clear hcz17_3; try clear hcz17_4; try clear hcz17_5; try clear hcz17_6; try clear hcz17_7; try clear hcz17_8; try clear hcz17_9; try clear hcz19_0; try clear hcz19_1; try clear hcz19_10; try clear hcz19_2; try clear hcz19_3; try clear hcz19_4; try clear hcz19_5; try clear hcz19_6; try clear hcz19_7; try clear hcz19_8; try clear hcz19_9; try clear hcz20_0; try clear hcz20_1; try clear hcz20_10; try clear hcz20_2; try clear hcz20_3; try clear hcz20_4; try clear hcz20_5; try clear hcz20_6; try clear hcz20_7; try clear hcz20_8; try clear hcz20_9; try clear hcz22_0; try clear hcz22_1; try clear hcz22_10; try clear hcz22_2; try clear hcz22_3; try clear hcz22_4; try clear hcz22_5; try clear hcz22_6; try clear hcz22_7; try clear hcz22_8; try clear hcz22_9; try clear hcz23_0; try clear hcz23_1; try clear hcz23_10; try clear hcz23_2; try clear hcz23_3; try clear hcz23_4; try clear hcz23_5; try clear hcz23_6; try clear hcz23_7; try clear hcz23_8; try clear hcz23_9; try clear hcz25_0; try clear hcz25_1; try clear hcz25_10; try clear hcz25_2; try clear hcz25_3; try clear hcz25_4; try clear hcz25_5; try clear hcz25_6; try clear hcz25_7; try clear hcz25_8; try clear hcz25_9; try clear hcz26_0; try clear hcz26_1; try clear hcz26_10; try clear hcz26_2; try clear hcz26_3; try clear hcz26_4; try clear hcz26_5; try clear hcz26_6; try clear hcz26_7; try clear hcz26_8; try clear hcz26_9; try clear hcz28_0; try clear hcz28_1; try clear hcz28_10; try clear hcz28_2; try clear hcz28_3; try clear hcz28_4; try clear hcz28_5; try clear hcz28_6; try clear hcz28_7; try clear hcz28_8; try clear hcz28_9; try clear hcz29_0; try clear hcz29_1; try clear hcz29_10; try clear hcz29_2; try clear hcz29_3; try clear hcz29_4; try clear hcz29_5; try clear hcz29_6; try clear hcz29_7; try clear hcz29_8; try clear hcz29_9; try clear hfz10_0; try clear hfz10_1; try clear hfz10_10; try clear hfz10_2; try clear hfz10_3
     try clear hfz10_4; try clear hfz10_5; try clear hfz10_6; try clear hfz10_7; try clear hfz10_8; try clear hfz10_9; try clear hfz11_0; try clear hfz11_1; try clear hfz11_10; try clear hfz11_2; try clear hfz11_3; try clear hfz11_4; try clear hfz11_5; try clear hfz11_6; try clear hfz11_7; try clear hfz11_8; try clear hfz11_9; try clear hfz16_0; try clear hfz16_1; try clear hfz16_10; try clear hfz16_2; try clear hfz16_3; try clear hfz16_4; try clear hfz16_5; try clear hfz16_6; try clear hfz16_7; try clear hfz16_8; try clear hfz16_9; try clear hfz17_0; try clear hfz17_1; try clear hfz17_10; try clear hfz17_2; try clear hfz17_3; try clear hfz17_4; try clear hfz17_5; try clear hfz17_6; try clear hfz17_7; try clear hfz17_8; try clear hfz17_9; try clear hfz19_0; try clear hfz19_1; try clear hfz19_10; try clear hfz19_2; try clear hfz19_3; try clear hfz19_4; try clear hfz19_5; try clear hfz19_6; try clear hfz19_7; try clear hfz19_8; try clear hfz19_9; try clear hfz20_0; try clear hfz20_1; try clear hfz20_10; try clear hfz20_2; try clear hfz20_3; try clear hfz20_4; try clear hfz20_5; try clear hfz20_6; try clear hfz20_7; try clear hfz20_8; try clear hfz20_9; try clear hfz22_0; try clear hfz22_1; try clear hfz22_10; try clear hfz22_2; try clear hfz22_3; try clear hfz22_4; try clear hfz22_5; try clear hfz22_6; try clear hfz22_7; try clear hfz22_8; try clear hfz22_9; try clear hfz23_0; try clear hfz23_1; try clear hfz23_10; try clear hfz23_2; try clear hfz23_3; try clear hfz23_4; try clear hfz23_5; try clear hfz23_6; try clear hfz23_7; try clear hfz23_8; try clear hfz23_9; try clear hfz25_0; try clear hfz25_1; try clear hfz25_10; try clear hfz25_2; try clear hfz25_3; try clear hfz25_4; try clear hfz25_5; try clear hfz25_6; try clear hfz25_7; try clear hfz25_8; try clear hfz25_9; try clear hfz26_0; try clear hfz26_1; try clear hfz26_10; try clear hfz26_2; try clear hfz26_3; try clear hfz26_4; try clear hfz26_5; try clear hfz26_6; try clear hfz26_7; try clear hfz26_8; try clear hfz26_9; try clear hfz28_0; try clear hfz28_1; try clear hfz28_10; try clear hfz28_2; try clear hfz28_3; try clear hfz28_4; try clear hfz28_5; try clear hfz28_6; try clear hfz28_7; try clear hfz28_8; try clear hfz28_9; try clear hfz29_0; try clear hfz29_1; try clear hfz29_10; try clear hfz29_2; try clear hfz29_3; try clear hfz29_4; try clear hfz29_5; try clear hfz29_6; try clear hfz29_7; try clear hfz29_8; try clear hfz29_9; try clear p2
     obtain ⟨x5_2, rfl, HA, HK2, BK108, BK109, HB⟩ := hrel
     cases gk with
     | zero => exact absurd HA.out (by simp [outriderref17_Same.l0])
     | succ k2 =>
      have H := HA.out
      clear HA
      simp only [outriderref17_Same.l0] at H
      by_cases c31 : x5_2 < (l0_2.length : Int)
      ·rw [if_pos c31] at H
       have c31b0 : decide (x5_2 < (l0_2.length : Int)) = true := decide_eq_true c31
       clear c31
       by_cases c32 : 0 ≤ x5_2
       ·rw [if_pos c32] at H
        have c32b0 : decide (0 ≤ x5_2) = true := decide_eq_true c32
        clear c32
        by_cases c33 : x5_2 < (l1_2.length : Int)
        ·rw [if_pos c33] at H
         have c33b0 : decide (x5_2 < (l1_2.length : Int)) = true := decide_eq_true c33
         clear c33
         by_cases c34 : (!(((rd_T61 l0_2 x5_2).f0) == ((rd_T61 l1_2 x5_2).f0)) || (!(((rd_T61 l0_2 x5_2).f1) == ((rd_T61 l1_2 x5_2).f1)))) = true
         ·rw [if_pos c34] at H
          have c34b0 : (!(((rd_T61 l0_2 x5_2).f0) == ((rd_T61 l1_2 x5_2).f0)) || (!(((rd_T61 l0_2 x5_2).f1) == ((rd_T61 l1_2 x5_2).f1)))) = true := c34
          clear c34
          obtain rfl := Option.some.inj H
          have hnb35 := NB108_109.out
          have hnc35 := NB109_108.out
          have hcz36_0 : wr.cell? ⟨gb108, 0, none⟩ = some (.int .i64 a0_0) := (ya BK108.out 0).trans rfl
          have hcz36_1 : wr.cell? ⟨gb108, 1, none⟩ = some (.slice A0_1 l0_1.length c0_1) := (ya BK108.out 1).trans rfl
          have hcz36_2 : wr.cell? ⟨gb108, 2, none⟩ = some (.slice A0_2 l0_2.length c0_2) := (ya BK108.out 2).trans rfl
          have hcz36_3 : wr.cell? ⟨gb108, 3, none⟩ = some (.int .i64 a0_3) := (ya BK108.out 3).trans rfl
          have hcz36_4 : wr.cell? ⟨gb108, 4, none⟩ = some (.int .i64 a0_4) := (ya BK108.out 4).trans rfl
          have hcz36_5 : wr.cell? ⟨gb108, 5, none⟩ = some (.int .i64 a0_5) := (ya BK108.out 5).trans rfl
          have hcz36_6 : wr.cell? ⟨gb108, 6, none⟩ = some (.int .i64 a0_6) := (ya BK108.out 6).trans rfl
          have hcz36_7 : wr.cell? ⟨gb108, 7, none⟩ = some (.int .i64 a0_7) := (ya BK108.out 7).trans rfl
          have hcz36_8 : wr.cell? ⟨gb108, 8, none⟩ = some (.int .i64 a0_8) := (ya BK108.out 8).trans rfl
          have hcz36_9 : wr.cell? ⟨gb108, 9, none⟩ = some (.int .i64 a0_9) := (ya BK108.out 9).trans rfl
          have hcz36_10 : wr.cell? ⟨gb108, 10, none⟩ = some (.slice A0_10 l0_10.length c0_10) := (ya BK108.out 10).trans rfl
          have hfz36_0 := yb BK108.out 0
          have hfz36_1 := yb BK108.out 1
          have hfz36_2 := yb BK108.out 2
          have hfz36_3 := yb BK108.out 3
          have hfz36_4 := yb BK108.out 4
          have hfz36_5 := yb BK108.out 5
          have hfz36_6 := yb BK108.out 6
          have hfz36_7 := yb BK108.out 7
          have hfz36_8 := yb BK108.out 8
          have hfz36_9 := yb BK108.out 9
          have hfz36_10 := yb BK108.out 10
          have p111 : 0 ≤ (x5_2 : Int) := of_decide_eq_true (by first | (with_reducible assumption) | assumption)
          have q111 : x5_2 < (l0_2.length : Int) := of_decide_eq_true (by first | (with_reducible assumption) | assumption)
          obtain ⟨ad111, e111, hx111_0, hx111_1⟩ := at_T61 HR0_2.out x5_2 p111 q111
          cases e111
          replace hx111_0 := (HB.out.cell (yk w _ hx111_0)).trans hx111_0
          replace hx111_1 := (HB.out.cell (yk w _ hx111_1)).trans hx111_1
          replace p111 := eq_true p111
          replace q111 := eq_true q111
          have hcz37_0 : wr.cell? ⟨gb109, 0, none⟩ = some (.int .i64 a1_0) := (ya BK109.out 0).trans rfl
          have hcz37_1 : wr.cell? ⟨gb109, 1, none⟩ = some (.slice A1_1 l1_1.length c1_1) := (ya BK109.out 1).trans rfl
          have hcz37_2 : wr.cell? ⟨gb109, 2, none⟩ = some (.slice A1_2 l1_2.length c1_2) := (ya BK109.out 2).trans rfl
          have hcz37_3 : wr.cell? ⟨gb109, 3, none⟩ = some (.int .i64 a1_3) := (ya BK109.out 3).trans rfl
          have hcz37_4 : wr.cell? ⟨gb109, 4, none⟩ = some (.int .i64 a1_4) := (ya BK109.out 4).trans rfl
          have hcz37_5 : wr.cell? ⟨gb109, 5, none⟩ = some (.int .i64 a1_5) := (ya BK109.out 5).trans rfl
          have hcz37_6 : wr.cell? ⟨gb109, 6, none⟩ = some (.int .i64 a1_6) := (ya BK109.out 6).trans rfl
          have hcz37_7 : wr.cell? ⟨gb109, 7, none⟩ = some (.int .i64 a1_7) := (ya BK109.out 7).trans rfl
          have hcz37_8 : wr.cell? ⟨gb109, 8, none⟩ = some (.int .i64 a1_8) := (ya BK109.out 8).trans rfl
          have hcz37_9 : wr.cell? ⟨gb109, 9, none⟩ = some (.int .i64 a1_9) := (ya BK109.out 9).trans rfl
          have hcz37_10 : wr.cell? ⟨gb109, 10, none⟩ = some (.slice A1_10 l1_10.length c1_10) := (ya BK109.out 10).trans rfl
          have hfz37_0 := yb BK109.out 0
          have hfz37_1 := yb BK109.out 1
          have hfz37_2 := yb BK109.out 2
          have hfz37_3 := yb BK109.out 3
          have hfz37_4 := yb BK109.out 4
          have hfz37_5 := yb BK109.out 5
          have hfz37_6 := yb BK109.out 6
          have hfz37_7 := yb BK109.out 7
          have hfz37_8 := yb BK109.out 8
          have hfz37_9 := yb BK109.out 9
          have hfz37_10 := yb BK109.out 10
          have p112 : 0 ≤ (x5_2 : Int) := of_decide_eq_true (by first | (with_reducible assumption) | assumption)
          have q112 : x5_2 < (l1_2.length : Int) := of_decide_eq_true (by first | (with_reducible assumption) | assumption)
          obtain ⟨ad112, e112, hx112_0, hx112_1⟩ := at_T61 HR1_2.out x5_2 p112 q112
          cases e112
          replace hx112_0 := (HB.out.cell (yk w _ hx112_0)).trans hx112_0
          replace hx112_1 := (HB.out.cell (yk w _ hx112_1)).trans hx112_1
          replace p112 := eq_true p112
          replace q112 := eq_true q112
          go_wp2
          repeat (go_quiet (fail); try go_wp2)
          go_ret
          exact ⟨by first | rfl | (simp [errW_none, errW_some] <;> rfl) | (simp [*, errW_none, errW_some] <;> rfl), by repeat (first | (with_reducible first | exact HB.out | apply yd | apply ye | apply yf | refine yg ?_ GE108.out | refine yg ?_ GE109.out) | exact HB.out)⟩
         ·rw [if_neg c34] at H
          have c34b0 : (!(((rd_T61 l0_2 x5_2).f0) == ((rd_T61 l1_2 x5_2).f0)) || (!(((rd_T61 l0_2 x5_2).f1) == ((rd_T61 l1_2 x5_2).f1)))) = false := by simpa using c34
          clear c34
          have H' := yc H
          clear H
          have hnb38 := NB108_109.out
          have hnc38 := NB109_108.out
          have hcz39_0 : wr.cell? ⟨gb108, 0, none⟩ = some (.int .i64 a0_0) := (ya BK108.out 0).trans rfl
          have hcz39_1 : wr.cell? ⟨gb108, 1, none⟩ = some (.slice A0_1 l0_1.length c0_1) := (ya BK108.out 1).trans rfl
          have hcz39_2 : wr.cell? ⟨gb108, 2, none⟩ = some (.slice A0_2 l0_2.length c0_2) := (ya BK108.out 2).trans rfl
          have hcz39_3 : wr.cell? ⟨gb108, 3, none⟩ = some (.int .i64 a0_3) := (ya BK108.out 3).trans rfl
          have hcz39_4 : wr.cell? ⟨gb108, 4, none⟩ = some (.int .i64 a0_4) := (ya BK108.out 4).trans rfl
          have hcz39_5 : wr.cell? ⟨gb108, 5, none⟩ = some (.int .i64 a0_5) := (ya BK108.out 5).trans rfl
          have hcz39_6 : wr.cell? ⟨gb108, 6, none⟩ = some (.int .i64 a0_6) := (ya BK108.out 6).trans rfl
          have hcz39_7 : wr.cell? ⟨gb108, 7, none⟩ = some (.int .i64 a0_7) := (ya BK108.out 7).trans rfl
          have hcz39_8 : wr.cell? ⟨gb108, 8, none⟩ = some (.int .i64 a0_8) := (ya BK108.out 8).trans rfl
          have hcz39_9 : wr.cell? ⟨gb108, 9, none⟩ = some (.int .i64 a0_9) := (ya BK108.out 9).trans rfl
          have hcz39_10 : wr.cell? ⟨gb108, 10, none⟩ = some (.slice A0_10 l0_10.length c0_10) := (ya BK108.out 10).trans rfl
          have hfz39_0 := yb BK108.out 0
          have hfz39_1 := yb BK108.out 1
          have hfz39_2 := yb BK108.out 2
          have hfz39_3 := yb BK108.out 3
          have hfz39_4 := yb BK108.out 4
          have hfz39_5 := yb BK108.out 5
          have hfz39_6 := yb BK108.out 6
          have hfz39_7 := yb BK108.out 7
          have hfz39_8 := yb BK108.out 8
          have hfz39_9 := yb BK108.out 9
          have hfz39_10 := yb BK108.out 10
          have p111 : 0 ≤ (x5_2 : Int) := of_decide_eq_true (by first | (with_reducible assumption) | assumption)
          have q111 : x5_2 < (l0_2.length : Int) := of_decide_eq_true (by first | (with_reducible assumption) | assumption)
          obtain ⟨ad111, e111, hx111_0, hx111_1⟩ := at_T61 HR0_2.out x5_2 p111 q111
          cases e111
          replace hx111_0 := (HB.out.cell (yk w _ hx111_0)).trans hx111_0
          replace hx111_1 := (HB.out.cell (yk w _ hx111_1)).trans hx111_1
          replace p111 := eq_true p111
          replace q111 := eq_true q111
          have hcz40_0 : wr.cell? ⟨gb109, 0, none⟩ = some (.int .i64 a1_0) := (ya BK109.out 0).trans rfl
          have hcz40_1 : wr.cell? ⟨gb109, 1, none⟩ = some (.slice A1_1 l1_1.length c1_1) := (ya BK109.out 1).trans rfl
          have hcz40_2 : wr.cell? ⟨gb109, 2, none⟩ = some (.slice A1_2 l1_2.length c1_2) := (ya BK109.out 2).trans rfl
          have hcz40_3 : wr.cell? ⟨gb109, 3, none⟩ = some (.int .i64 a1_3) := (ya BK109.out 3).trans rfl
          have hcz40_4 : wr.cell? ⟨gb109, 4, none⟩ = some (.int .i64 a1_4) := (ya BK109.out 4).trans rfl
          have hcz40_5 : wr.cell? ⟨gb109, 5, none⟩ = some (.int .i64 a1_5) := (ya BK109.out 5).trans rfl
          have hcz40_6 : wr.cell? ⟨gb109, 6, none⟩ = some (.int .i64 a1_6) := (ya BK109.out 6).trans rfl
          have hcz40_7 : wr.cell? ⟨gb109, 7, none⟩ = some (.int .i64 a1_7) := (ya BK109.out 7).trans rfl
          have hcz40_8 : wr.cell? ⟨gb109, 8, none⟩ = some (.int .i64 a1_8) := (ya BK109.out 8).trans rfl
          have hcz40_9 : wr.cell? ⟨gb109, 9, none⟩ = some (.int .i64 a1_9) := (ya BK109.out 9).trans rfl
          have hcz40_10 : wr.cell? ⟨gb109, 10, none⟩ = some (.slice A1_10 l1_10.length c1_10) := (ya BK109.out 10).trans rfl
          have hfz40_0 := yb BK109.out 0
          have hfz40_1 := yb BK109.out 1
          have hfz40_2 := yb BK109.out 2
          have hfz40_3 := yb BK109.out 3
          have hfz40_4 := yb BK109.out 4
          have hfz40_5 := yb BK109.out 5
          have hfz40_6 := yb BK109.out 6
          have hfz40_7 := yb BK109.out 7
          have hfz40_8 := yb BK109.out 8
          have hfz40_9 := yb BK109.out 9
          have hfz40_10 := yb BK109.out 10
          have p112 : 0 ≤ (x5_2 : Int) := of_decide_eq_true (by first | (with_reducible assumption) | assumption)
          have q112 : x5_2 < (l1_2.length : Int) := of_decide_eq_true (by first | (with_reducible assumption) | assumption)
          obtain ⟨ad112, e112, hx112_0, hx112_1⟩ := at_T61 HR1_2.out x5_2 p112 q112
          cases e112
          replace hx112_0 := (HB.out.cell (yk w _ hx112_0)).trans hx112_0
          replace hx112_1 := (HB.out.cell (yk w _ hx112_1)).trans hx112_1
          replace p112 := eq_true p112
          replace q112 := eq_true q112
          go_wp2
          repeat (go_quiet (fail); try go_wp2)
          go_roundg k2
          case measure => have := HJ2.out; have := HK2.out; omega
          case rel => exact ⟨(wrap64 (x5_2 + 1)), (by first | rfl | (simp; done) | (simp [*]; done)), H', ⟨by have := HJ2.out; have := HK2.out; omega⟩, ⟨by (with_reducible repeat (first | refine yh ?_ _ | refine yj ?_ | refine yi ?_ _)); exact BK108.out⟩, ⟨by (with_reducible repeat (first | refine yh ?_ _ | refine yj ?_ | refine yi ?_ _)); exact BK109.out⟩, ⟨by repeat (first | (with_reducible first | exact HB.out | apply yd | apply ye | apply yf | refine yg ?_ GE108.out | refine yg ?_ GE109.out) | exact HB.out)⟩⟩
        ·rw [if_neg c33] at H
         exact absurd H (by simp)
       ·rw [if_neg c32] at H
        exact absurd H (by simp)
      ·rw [if_neg c31] at H
       have c31b0 : decide (x5_2 < (l0_2.length : Int)) = false := decide_eq_false c31
       clear c31
       have H' := yc H
       clear H
       have hnb41 := NB108_109.out
       have hnc41 := NB109_108.out
       have hcz42_0 : wr.cell? ⟨gb108, 0, none⟩ = some (.int .i64 a0_0) := (ya BK108.out 0).trans rfl
       have hcz42_1 : wr.cell? ⟨gb108, 1, none⟩ = some (.slice A0_1 l0_1.length c0_1) := (ya BK108.out 1).trans rfl
       have hcz42_2 : wr.cell? ⟨gb108, 2, none⟩ = some (.slice A0_2 l0_2.length c0_2) := (ya BK108.out 2).trans rfl
       have hcz42_3 : wr.cell? ⟨gb108, 3, none⟩ = some (.int .i64 a0_3) := (ya BK108.out 3).trans rfl
       have hcz42_4 : wr.cell? ⟨gb108, 4, none⟩ = some (.int .i64 a0_4) := (ya BK108.out 4).trans rfl
       have hcz42_5 : wr.cell? ⟨gb108, 5, none⟩ = some (.int .i64 a0_5) := (ya BK108.out 5).trans rfl
       have hcz42_6 : wr.cell? ⟨gb108, 6, none⟩ = some (.int .i64 a0_6) := (ya BK108.out 6).trans rfl
       have hcz42_7 : wr.cell? ⟨gb108, 7, none⟩ = some (.int .i64 a0_7) := (ya BK108.out 7).trans rfl
       have hcz42_8 : wr.cell? ⟨gb108, 8, none⟩ = some (.int .i64 a0_8) := (ya BK108.out 8).trans rfl
       have hcz42_9 : wr.cell? ⟨gb108, 9, none⟩ = some (.int .i64 a0_9) := (ya BK108.out 9).trans rfl
       have hcz42_10 : wr.cell? ⟨gb108, 10, none⟩ = some (.slice A0_10 l0_10.length c0_10) := (ya BK108.out 10).trans rfl
       have hfz42_0 := yb BK108.out 0
       have hfz42_1 := yb BK108.out 1
       have hfz42_2 := yb BK108.out 2
       have hfz42_3 := yb BK108.out 3
       have hfz42_4 := yb BK108.out 4
       have hfz42_5 := yb BK108.out 5
       have hfz42_6 := yb BK108.out 6
       have hfz42_7 := yb BK108.out 7
       have hfz42_8 := yb BK108.out 8
       have hfz42_9 := yb BK108.out 9
       have hfz42_10 := yb BK108.out 10
       go_wp2
       repeat (go_quiet (fail); try go_wp2)
       go_loopg [6] k2 (fun kq v6 w' => ∃ (x6_3 : Int), v6 = .int .i64 x6_3 ∧ Aside0 (outriderref17_Same.l1 kq x6_3 a0_0 l0_1 l0_2 a0_3 a0_4 a0_5 a0_6 a0_7 a0_8 a0_9 l0_10 a1_0 l1_1 l1_2 a1_3 a1_4 a1_5 a1_6 a1_7 a1_8 a1_9 l1_10 = some r) ∧ Aside0 (kq ≤ k2) ∧ Aside0 (w'.heap[gb108]? = some (.cells #[.int .i64 a0_0, (.slice A0_1 l0_1.length c0_1), (.slice A0_2 l0_2.length c0_2), .int .i64 a0_3, .int .i64 a0_4, .int .i64 a0_5, .int .i64 a0_6, .int .i64 a0_7, .int .i64 a0_8, .int .i64 a0_9, (.slice A0_10 l0_10.length c0_10)] 29 (0, 0))) ∧ Aside0 (w'.heap[gb109]? = some (.cells #[.int .i64 a1_0, (.slice A1_1 l1_1.length c1_1), (.slice A1_2 l1_2.length c1_2), .int .i64 a1_3, .int .i64 a1_4, .int .i64 a1_5, .int .i64 a1_6, .int .i64 a1_7, .int .i64 a1_8, .int .i64 a1_9, (.slice A1_10 l1_10.length c1_10)] 29 (0, 0))) ∧ Aside0 (Below w.heap.size w w'))
       case atStart => exact ⟨(0), (by first | rfl | (simp; done) | (simp [*]; done)), H', ⟨Nat.le_refl _⟩, ⟨by (with_reducible repeat (first | refine yh ?_ _ | refine yj ?_ | refine yi ?_ _)); exact BK108.out⟩, ⟨by (with_reducible repeat (first | refine yh ?_ _ | refine yj ?_ | refine yi ?_ _)); exact BK109.out⟩, ⟨by repeat (first | (with_reducible first | exact HB.out | apply yd | apply ye | apply yf | refine yg ?_ GE108.out | refine yg ?_ GE109.out) | exact HB.out)⟩⟩
       case round =>
        clear H'
        try clear c1; try clear p1; try clear q1; try clear hx1; try clear c2; try clear p2; try clear c3; try clear c4; try clear c6; try clear c6b0; try clear c6b1; try clear p6; try clear c7; try clear c7b0; try clear c7b1; try clear c8; try clear c8b0; try clear c9; try clear p11; try clear q11; try clear hx11; try clear c13; try clear c14; try clear c14b0; try clear c14b1; try clear c14b2; try clear c15; try clear c18; try clear c19; try clear c21; try clear c24; try clear c27; try clear c30; try clear c31; try clear c31b0; try clear c32; try clear c32b0; try clear c33; try clear c33b0; try clear c34; try clear c34b0; try clear c35; try clear c38; try clear c41; try clear hcz10_0; try clear hcz10_1; try clear hcz10_10; try clear hcz10_2; try clear hcz10_3; try clear hcz10_4; try clear hcz10_5; try clear hcz10_6; try clear hcz10_7; try clear hcz10_8; try clear hcz10_9; try clear hcz11_0; try clear hcz11_1; try clear hcz11_10; try clear hcz11_2; try clear hcz11_3; try clear hcz11_4; try clear hcz11_5; try clear hcz11_6; try clear hcz11_7; try clear hcz11_8; try clear hcz11_9; try clear hcz16_0; try clear hcz16_1; try clear hcz16_10; try clear hcz16_2; try clear hcz16_3; try clear hcz16_4; try clear hcz16_5; try clear hcz16_6; try clear hcz16_7; try clear hcz16_8; try clear hcz16_9; try clear hcz17_0; try clear hcz17_1; try clear hcz17_10; try clear hcz17_2; try clear hcz17_3; try clear hcz17_4; try clear hcz17_5; try clear hcz17_6; try clear hcz17_7; try clear hcz17_8; try clear hcz17_9; try clear hcz19_0; try clear hcz19_1; try clear hcz19_10; try clear hcz19_2; try clear hcz19_3; try clear hcz19_4; try clear hcz19_5; try clear hcz19_6; try clear hcz19_7; try clear hcz19_8; try clear hcz19_9; try clear hcz20_0; try clear hcz20_1; try clear hcz20_10; try clear hcz20_2; try clear hcz20_3; try clear hcz20_4; try clear hcz20_5; try clear hcz20_6; try clear hcz20_7; try clear hcz20_8; try clear hcz20_9; try clear hcz22_0; try clear hcz22_1; try clear hcz22_10; try clear hcz22_2; try clear hcz22_3; try clear hcz22_4; try clear hcz22_5; try clear hcz22_6; try clear hcz22_7; try clear hcz22_8; try clear hcz22_9; try clear hcz23_0; try clear hcz23_1; try clear hcz23_10; try clear hcz23_2; try clear hcz23_3; try clear hcz23_4; try clear hcz23_5; try clear hcz23_6; try clear hcz23_7; try clear hcz23_8; try clear hcz23_9; try clear hcz25_0; try clear hcz25_1; try clear hcz25_10; try clear hcz25_2; try clear hcz25_3; try clear hcz25_4; try clear hcz25_5; try clear hcz25_6; try clear hcz25_7; try clear hcz25_8; try clear hcz25_9; try clear hcz26_0; try clear hcz26_1; try clear hcz26_10; try clear hcz26_2; try clear hcz26_3; try clear hcz26_4; try clear hcz26_5; try clear hcz26_6; try clear hcz26_7; try clear hcz26_8; try clear hcz26_9; try clear hcz28_0; try clear hcz28_1; try clear hcz28_10; try clear hcz28_2; try clear hcz28_3; try clear hcz28_4; try clear hcz28_5; try clear hcz28_6; try clear hcz28_7; try clear hcz28_8; try clear hcz28_9; try clear hcz29_0
        try clear hcz29_1; try clear hcz29_10; try clear hcz29_2; try clear hcz29_3; try clear hcz29_4; try clear hcz29_5; try clear hcz29_6; try clear hcz29_7; try clear hcz29_8; try clear hcz29_9; try clear hcz36_0; try clear hcz36_1; try clear hcz36_10; try clear hcz36_2; try clear hcz36_3; try clear hcz36_4; try clear hcz36_5; try clear hcz36_6; try clear hcz36_7; try clear hcz36_8; try clear hcz36_9; try clear hcz37_0; try clear hcz37_1; try clear hcz37_10; try clear hcz37_2; try clear hcz37_3; try clear hcz37_4; try clear hcz37_5; try clear hcz37_6; try clear hcz37_7; try clear hcz37_8; try clear hcz37_9; try clear hcz39_0; try clear hcz39_1; try clear hcz39_10; try clear hcz39_2; try clear hcz39_3; try clear hcz39_4; try clear hcz39_5; try clear hcz39_6; try clear hcz39_7; try clear hcz39_8; try clear hcz39_9; try clear hcz40_0; try clear hcz40_1; try clear hcz40_10; try clear hcz40_2; try clear hcz40_3; try clear hcz40_4; try clear hcz40_5; try clear hcz40_6; try clear hcz40_7; try clear hcz40_8; try clear hcz40_9; try clear hcz42_0; try clear hcz42_1; try clear hcz42_10; try clear hcz42_2; try clear hcz42_3; try clear hcz42_4; try clear hcz42_5; try clear hcz42_6; try clear hcz42_7; try clear hcz42_8; try clear hcz42_9; try clear hfz10_0; try clear hfz10_1; try clear hfz10_10; try clear hfz10_2; try clear hfz10_3; try clear hfz10_4; try clear hfz10_5; try clear hfz10_6; try clear hfz10_7; try clear hfz10_8; try clear hfz10_9; try clear hfz11_0; try clear hfz11_1; try clear hfz11_10; try clear hfz11_2; try clear hfz11_3; try clear hfz11_4; try clear hfz11_5; try clear hfz11_6; try clear hfz11_7; try clear hfz11_8; try clear hfz11_9; try clear hfz16_0; try clear hfz16_1; try clear hfz16_10; try clear hfz16_2; try clear hfz16_3; try clear hfz16_4; try clear hfz16_5; try clear hfz16_6; try clear hfz16_7; try clear hfz16_8; try clear hfz16_9; try clear hfz17_0; try clear hfz17_1; try clear hfz17_10; try clear hfz17_2; try clear hfz17_3; try clear hfz17_4; try clear hfz17_5; try clear hfz17_6; try clear hfz17_7; try clear hfz17_8; try clear hfz17_9; try clear hfz19_0; try clear hfz19_1; try clear hfz19_10; try clear hfz19_2; try clear hfz19_3; try clear hfz19_4; try clear hfz19_5; try clear hfz19_6; try clear hfz19_7; try clear hfz19_8; try clear hfz19_9; try clear hfz20_0; try clear hfz20_1; try clear hfz20_10; try clear hfz20_2; try clear hfz20_3; try clear hfz20_4; try clear hfz20_5; try clear hfz20_6; try clear hfz20_7; try clear hfz20_8; try clear hfz20_9; try clear hfz22_0; try clear hfz22_1; try clear hfz22_10; try clear hfz22_2; try clear hfz22_3; try clear hfz22_4; try clear hfz22_5; try clear hfz22_6; try clear hfz22_7; try clear hfz22_8; try clear hfz22_9; try clear hfz23_0; try clear hfz23_1; try clear hfz23_10; try clear hfz23_2; try clear hfz23_3; try clear hfz23_4; try clear hfz23_5; try clear hfz23_6; try clear hfz23_7; try clear hfz23_8; try clear hfz23_9; try clear hfz25_0; try clear hfz25_1; try clear hfz25_10; try clear hfz25_2
        try clear hfz25_3; try clear hfz25_4; try clear hfz25_5; try clear hfz25_6; try clear hfz25_7; try clear hfz25_8; try clear hfz25_9; try clear hfz26_0; try clear hfz26_1; try clear hfz26_10; try clear hfz26_2; try clear hfz26_3; try clear hfz26_4; try clear hfz26_5; try clear hfz26_6; try clear hfz26_7; try clear hfz26_8; try clear hfz26_9; try clear hfz28_0; try clear hfz28_1; try clear hfz28_10; try clear hfz28_2; try clear hfz28_3; try clear hfz28_4; try clear hfz28_5; try clear hfz28_6; try clear hfz28_7; try clear hfz28_8; try clear hfz28_9; try clear hfz29_0; try clear hfz29_1; try clear hfz29_10; try clear hfz29_2; try clear hfz29_3; try clear hfz29_4; try clear hfz29_5; try clear hfz29_6; try clear hfz29_7; try clear hfz29_8; try clear hfz29_9; try clear hfz36_0; try clear hfz36_1; try clear hfz36_10; try clear hfz36_2; try clear hfz36_3; try clear hfz36_4; try clear hfz36_5; try clear hfz36_6; try clear hfz36_7; try clear hfz36_8; try clear hfz36_9; try clear hfz37_0; try clear hfz37_1; try clear hfz37_10; try clear hfz37_2; try clear hfz37_3; try clear hfz37_4; try clear hfz37_5; try clear hfz37_6; try clear hfz37_7; try clear hfz37_8; try clear hfz37_9; try clear hfz39_0; try clear hfz39_1; try clear hfz39_10; try clear hfz39_2; try clear hfz39_3; try clear hfz39_4; try clear hfz39_5; try clear hfz39_6; try clear hfz39_7; try clear hfz39_8; try clear hfz39_9; try clear hfz40_0; try clear hfz40_1; try clear hfz40_10; try clear hfz40_2; try clear hfz40_3; try clear hfz40_4; try clear hfz40_5; try clear hfz40_6; try clear hfz40_7; try clear hfz40_8; try clear hfz40_9; try clear hfz42_0; try clear hfz42_1; try clear hfz42_10; try clear hfz42_2; try clear hfz42_3; try clear hfz42_4; try clear hfz42_5; try clear hfz42_6; try clear hfz42_7; try clear hfz42_8; try clear hfz42_9; try clear hx111_0; try clear hx111_1; try clear hx112_0; try clear hx112_1; try clear p111; try clear p112; try clear p2; try clear q111; try clear q112
        obtain ⟨x6_3, rfl, HA, HK3, BK108, BK109, HB⟩ := hrel
        cases gk with
        | zero => exact absurd HA.out (by simp [outriderref17_Same.l1])
        | succ k3 =>
         have H := HA.out
         clear HA
         simp only [outriderref17_Same.l1] at H
         by_cases c43 : x6_3 < (l0_10.length : Int)
         ·rw [if_pos c43] at H
          have c43b0 : decide (x6_3 < (l0_10.length : Int)) = true := decide_eq_true c43
          clear c43
          by_cases c44 : 0 ≤ x6_3
          ·rw [if_pos c44] at H
           have c44b0 : decide (0 ≤ x6_3) = true := decide_eq_true c44
           clear c44
           by_cases c45 : x6_3 < (l1_10.length : Int)
           ·rw [if_pos c45] at H
            have c45b0 : decide (x6_3 < (l1_10.length : Int)) = true := decide_eq_true c45
            clear c45
            replace H := Option.bind_eq_some_iff.mp H
            obtain ⟨t115, A460, H⟩ := H
            replace H : (if t115 = true then (outriderref17_Same.l1 k3 (wrap64 (x6_3 + 1)) a0_0 l0_1 l0_2 a0_3 a0_4 a0_5 a0_6 a0_7 a0_8 a0_9 l0_10 a1_0 l1_1 l1_2 a1_3 a1_4 a1_5 a1_6 a1_7 a1_8 a1_9 l1_10) else (some false)) = some r := H
            have A46 := yc A460
            clear A460
            by_cases c47 : t115 = true
            ·subst c47
             have H1 : (outriderref17_Same.l1 k3 (wrap64 (x6_3 + 1)) a0_0 l0_1 l0_2 a0_3 a0_4 a0_5 a0_6 a0_7 a0_8 a0_9 l0_10 a1_0 l1_1 l1_2 a1_3 a1_4 a1_5 a1_6 a1_7 a1_8 a1_9 l1_10) = some r := by rw [if_pos rfl] at H; exact H
             clear H
             have H := H1
             clear H1
             have H' := yc H
             clear H
             have hnb48 := NB108_109.out
             have hnc48 := NB109_108.out
             have hcz49_0 : wr.cell? ⟨gb108, 0, none⟩ = some (.int .i64 a0_0) := (ya BK108.out 0).trans rfl
             have hcz49_1 : wr.cell? ⟨gb108, 1, none⟩ = some (.slice A0_1 l0_1.length c0_1) := (ya BK108.out 1).trans rfl
             have hcz49_2 : wr.cell? ⟨gb108, 2, none⟩ = some (.slice A0_2 l0_2.length c0_2) := (ya BK108.out 2).trans rfl
             have hcz49_3 : wr.cell? ⟨gb108, 3, none⟩ = some (.int .i64 a0_3) := (ya BK108.out 3).trans rfl
             have hcz49_4 : wr.cell? ⟨gb108, 4, none⟩ = some (.int .i64 a0_4) := (ya BK108.out 4).trans rfl
             have hcz49_5 : wr.cell? ⟨gb108, 5, none⟩ = some (.int .i64 a0_5) := (ya BK108.out 5).trans rfl
             have hcz49_6 : wr.cell? ⟨gb108, 6, none⟩ = some (.int .i64 a0_6) := (ya BK108.out 6).trans rfl
             have hcz49_7 : wr.cell? ⟨gb108, 7, none⟩ = some (.int .i64 a0_7) := (ya BK108.out 7).trans rfl
             have hcz49_8 : wr.cell? ⟨gb108, 8, none⟩ = some (.int .i64 a0_8) := (ya BK108.out 8).trans rfl
             have hcz49_9 : wr.cell? ⟨gb108, 9, none⟩ = some (.int .i64 a0_9) := (ya BK108.out 9).trans rfl
             have hcz49_10 : wr.cell? ⟨gb108, 10, none⟩ = some (.slice A0_10 l0_10.length c0_10) := (ya BK108.out 10).trans rfl
             have hfz49_0 := yb BK108.out 0
             have hfz49_1 := yb BK108.out 1
             have hfz49_2 := yb BK108.out 2
             have hfz49_3 := yb BK108.out 3
             have hfz49_4 := yb BK108.out 4
             have hfz49_5 := yb BK108.out 5
             have hfz49_6 := yb BK108.out 6
             have hfz49_7 := yb BK108.out 7
             have hfz49_8 := yb BK108.out 8
             have hfz49_9 := yb BK108.out 9
             have hfz49_10 := yb BK108.out 10
             have p113 : 0 ≤ (x6_3 : Int) := of_decide_eq_true (by first | (with_reducible assumption) | assumption)
             have q113 : x6_3 < (l0_10.length : Int) := of_decide_eq_true (by first | (with_reducible assumption) | assumption)
             obtain ⟨ad113, A113_0, c113_0, e113, hx113_0, hl113_0, hi113_0⟩ := at_L2 HR0_10.out x6_3 p113 q113
             cases e113
             replace hx113_0 := (HB.out.cell (yk w _ hx113_0)).trans hx113_0
             have HR113_0 := yc hi113_0
             have HC113_0 := yc hl113_0
             clear hi113_0 hl113_0
             replace p113 := eq_true p113
             replace q113 := eq_true q113
             have hcz50_0 : wr.cell? ⟨gb109, 0, none⟩ = some (.int .i64 a1_0) := (ya BK109.out 0).trans rfl
             have hcz50_1 : wr.cell? ⟨gb109, 1, none⟩ = some (.slice A1_1 l1_1.length c1_1) := (ya BK109.out 1).trans rfl
             have hcz50_2 : wr.cell? ⟨gb109, 2, none⟩ = some (.slice A1_2 l1_2.length c1_2) := (ya BK109.out 2).trans rfl
             have hcz50_3 : wr.cell? ⟨gb109, 3, none⟩ = some (.int .i64 a1_3) := (ya BK109.out 3).trans rfl
             have hcz50_4 : wr.cell? ⟨gb109, 4, none⟩ = some (.int .i64 a1_4) := (ya BK109.out 4).trans rfl
             have hcz50_5 : wr.cell? ⟨gb109, 5, none⟩ = some (.int .i64 a1_5) := (ya BK109.out 5).trans rfl
             have hcz50_6 : wr.cell? ⟨gb109, 6, none⟩ = some (.int .i64 a1_6) := (ya BK109.out 6).trans rfl
             have hcz50_7 : wr.cell? ⟨gb109, 7, none⟩ = some (.int .i64 a1_7) := (ya BK109.out 7).trans rfl
             have hcz50_8 : wr.cell? ⟨gb109, 8, none⟩ = some (.int .i64 a1_8) := (ya BK109.out 8).trans rfl
             have hcz50_9 : wr.cell? ⟨gb109, 9, none⟩ = some (.int .i64 a1_9) := (ya BK109.out 9).trans rfl
             have hcz50_10 : wr.cell? ⟨gb109, 10, none⟩ = some (.slice A1_10 l1_10.length c1_10) := (ya BK109.out 10).trans rfl
             have hfz50_0 := yb BK109.out 0
             have hfz50_1 := yb BK109.out 1
             have hfz50_2 := yb BK109.out 2
             have hfz50_3 := yb BK109.out 3
             have hfz50_4 := yb BK109.out 4
             have hfz50_5 := yb BK109.out 5
             have hfz50_6 := yb BK109.out 6
             have hfz50_7 := yb BK109.out 7
             have hfz50_8 := yb BK109.out 8
             have hfz50_9 := yb BK109.out 9
             have hfz50_10 := yb BK109.out 10
             have p114 : 0 ≤ (x6_3 : Int) := of_decide_eq_true (by first | (with_reducible assumption) | assumption)
             have q114 : x6_3 < (l1_10.length : Int) := of_decide_eq_true (by first | (with_reducible assumption) | assumption)
             obtain ⟨ad114, A114_0, c114_0, e114, hx114_0, hl114_0, hi114_0⟩ := at_L2 HR1_10.out x6_3 p114 q114
             cases e114
             replace hx114_0 := (HB.out.cell (yk w _ hx114_0)).trans hx114_0
             have HR114_0 := yc hi114_0
             have HC114_0 := yc hl114_0
             clear hi114_0 hl114_0
             replace p114 := eq_true p114
             replace q114 := eq_true q114
             go_wp2_with (first | (go_at_call 52; (with_reducible refine (outriderref08_Same.calls k3 _ _ (rd_L2 l0_10 x6_3) _ _ (rd_L2 l1_10 x6_3) true _ ?side1 ?side2 ?side3 ?side4 A46.out).mono ?_); (case side1 => repeat (first | exact (Kd.C_below HR113_0.out HB.out) | (with_reducible refine Kd.C_alloc ?_ _) | (with_reducible refine Kd.C_drewN ?_ _) | (with_reducible refine Kd.C_drew ?_))); (case side2 => exact HC113_0.out); (case side3 => repeat (first | exact (Kd.C_below HR114_0.out HB.out) | (with_reducible refine Kd.C_alloc ?_ _) | (with_reducible refine Kd.C_drewN ?_ _) | (with_reducible refine Kd.C_drew ?_))); (case side4 => exact HC114_0.out); rintro e w' ⟨rfl, ⟨nd, rfl⟩⟩; (try first | exact ⟨rfl, _, World.drewN_drewN _ _ _⟩ | exact ⟨rfl, _, Eq.trans (World.drewN_drewN _ _ _) (congrArg (World.drewN _) (Nat.add_assoc _ _ _))⟩)))
             repeat (go_quiet (first | (go_at_call 52; (with_reducible refine (outriderref08_Same.calls k3 _ _ (rd_L2 l0_10 x6_3) _ _ (rd_L2 l1_10 x6_3) true _ ?side1 ?side2 ?side3 ?side4 A46.out).mono ?_); (case side1 => repeat (first | exact (Kd.C_below HR113_0.out HB.out) | (with_reducible refine Kd.C_alloc ?_ _) | (with_reducible refine Kd.C_drewN ?_ _) | (with_reducible refine Kd.C_drew ?_))); (case side2 => exact HC113_0.out); (case side3 => repeat (first | exact (Kd.C_below HR114_0.out HB.out) | (with_reducible refine Kd.C_alloc ?_ _) | (with_reducible refine Kd.C_drewN ?_ _) | (with_reducible refine Kd.C_drew ?_))); (case side4 => exact HC114_0.out); rintro e w' ⟨rfl, ⟨nd, rfl⟩⟩; (try first | exact ⟨rfl, _, World.drewN_drewN _ _ _⟩ | exact ⟨rfl, _, Eq.trans (World.drewN_drewN _ _ _) (congrArg (World.drewN _) (Nat.add_assoc _ _ _))⟩))); try go_wp2_with (first | (go_at_call 52; (with_reducible refine (outriderref08_Same.calls k3 _ _ (rd_L2 l0_10 x6_3) _ _ (rd_L2 l1_10 x6_3) true _ ?side1 ?side2 ?side3 ?side4 A46.out).mono ?_); (case side1 => repeat (first | exact (Kd.C_below HR113_0.out HB.out) | (with_reducible refine Kd.C_alloc ?_ _) | (with_reducible refine Kd.C_drewN ?_ _) | (with_reducible refine Kd.C_drew ?_))); (case side2 => exact HC113_0.out); (case side3 => repeat (first | exact (Kd.C_below HR114_0.out HB.out) | (with_reducible refine Kd.C_alloc ?_ _) | (with_reducible refine Kd.C_drewN ?_ _) | (with_reducible refine Kd.C_drew ?_))); (case side4 => exact HC114_0.out); rintro e w' ⟨rfl, ⟨nd, rfl⟩⟩; (try first | exact ⟨rfl, _, World.drewN_drewN _ _ _⟩ | exact ⟨rfl, _, Eq.trans (World.drewN_drewN _ _ _) (congrArg (World.drewN _) (Nat.add_assoc _ _ _))⟩))))
             go_roundg k3
             case measure => have := HJ2.out; have := HK2.out; have := HK3.out; omega
             case rel => exact ⟨(wrap64 (x6_3 + 1)), (by first | rfl | (simp; done) | (simp [*]; done)), H', ⟨by have := HJ2.out; have := HK2.out; have := HK3.out; omega⟩, ⟨by (with_reducible repeat (first | refine yh ?_ _ | refine yj ?_ | refine yi ?_ _)); exact BK108.out⟩, ⟨by (with_reducible repeat (first | refine yh ?_ _ | refine yj ?_ | refine yi ?_ _)); exact BK109.out⟩, ⟨by repeat (first | (with_reducible first | exact HB.out | apply yd | apply ye | apply yf | refine yg ?_ GE108.out | refine yg ?_ GE109.out) | exact HB.out)⟩⟩
            ·replace c47 := Bool.eq_false_iff.mpr c47
             subst c47
             have H1 : (some false) = some r := by rw [if_neg (show ¬ (false = true) by decide)] at H; exact H
             clear H
             have H := H1
             clear H1
             obtain rfl := Option.some.inj H
             have hnb51 := NB108_109.out
             have hnc51 := NB109_108.out
             have hcz52_0 : wr.cell? ⟨gb108, 0, none⟩ = some (.int .i64 a0_0) := (ya BK108.out 0).trans rfl
             have hcz52_1 : wr.cell? ⟨gb108, 1, none⟩ = some (.slice A0_1 l0_1.length c0_1) := (ya BK108.out 1).trans rfl
             have hcz52_2 : wr.cell? ⟨gb108, 2, none⟩ = some (.slice A0_2 l0_2.length c0_2) := (ya BK108.out 2).trans rfl
             have hcz52_3 : wr.cell? ⟨gb108, 3, none⟩ = some (.int .i64 a0_3) := (ya BK108.out 3).trans rfl
             have hcz52_4 : wr.cell? ⟨gb108, 4, none⟩ = some (.int .i64 a0_4) := (ya BK108.out 4).trans rfl
             have hcz52_5 : wr.cell? ⟨gb108, 5, none⟩ = some (.int .i64 a0_5) := (ya BK108.out 5).trans rfl
             have hcz52_6 : wr.cell? ⟨gb108, 6, none⟩ = some (.int .i64 a0_6) := (ya BK108.out 6).trans rfl
             have hcz52_7 : wr.cell? ⟨gb108, 7, none⟩ = some (.int .i64 a0_7) := (ya BK108.out 7).trans rfl
             have hcz52_8 : wr.cell? ⟨gb108, 8, none⟩ = some (.int .i64 a0_8) := (ya BK108.out 8).trans rfl
             have hcz52_9 : wr.cell? ⟨gb108, 9, none⟩ = some (.int .i64 a0_9) := (ya BK108.out 9).trans rfl
             have hcz52_10 : wr.cell? ⟨gb108, 10, none⟩ = some (.slice A0_10 l0_10.length c0_10) := (ya BK108.out 10).trans rfl
             have hfz52_0 := yb BK108.out 0
             have hfz52_1 := yb BK108.out 1
             have hfz52_2 := yb BK108.out 2
             have hfz52_3 := yb BK108.out 3
             have hfz52_4 := yb BK108.out 4
             have hfz52_5 := yb BK108.out 5
             have hfz52_6 := yb BK108.out 6
             have hfz52_7 := yb BK108.out 7
             have hfz52_8 := yb BK108.out 8
             have hfz52_9 := yb BK108.out 9
             have hfz52_10 := yb BK108.out 10
             have p113 : 0 ≤ (x6_3 : Int) := of_decide_eq_true (by first | (with_reducible assumption) | assumption)
             have q113 : x6_3 < (l0_10.length : Int) := of_decide_eq_true (by first | (with_reducible assumption) | assumption)
             obtain ⟨ad113, A113_0, c113_0, e113, hx113_0, hl113_0, hi113_0⟩ := at_L2 HR0_10.out x6_3 p113 q113
             cases e113
             replace hx113_0 := (HB.out.cell (yk w _ hx113_0)).trans hx113_0
             have HR113_0 := yc hi113_0
             have HC113_0 := yc hl113_0
             clear hi113_0 hl113_0
             replace p113 := eq_true p113
             replace q113 := eq_true q113
             have hcz53_0 : wr.cell? ⟨gb109, 0, none⟩ = some (.int .i64 a1_0) := (ya BK109.out 0).trans rfl
             have hcz53_1 : wr.cell? ⟨gb109, 1, none⟩ = some (.slice A1_1 l1_1.length c1_1) := (ya BK109.out 1).trans rfl
             have hcz53_2 : wr.cell? ⟨gb109, 2, none⟩ = some (.slice A1_2 l1_2.length c1_2) := (ya BK109.out 2).trans rfl
             have hcz53_3 : wr.cell? ⟨gb109, 3, none⟩ = some (.int .i64 a1_3) := (ya BK109.out 3).trans rfl
             have hcz53_4 : wr.cell? ⟨gb109, 4, none⟩ = some (.int .i64 a1_4) := (ya BK109.out 4).trans rfl
             have hcz53_5 : wr.cell? ⟨gb109, 5, none⟩ = some (.int .i64 a1_5) := (ya BK109.out 5).trans rfl
             have hcz53_6 : wr.cell? ⟨gb109, 6, none⟩ = some (.int .i64 a1_6) := (ya BK109.out 6).trans rfl
             have hcz53_7 : wr.cell? ⟨gb109, 7, none⟩ = some (.int .i64 a1_7) := (ya BK109.out 7).trans rfl
             have hcz53_8 : wr.cell? ⟨gb109, 8, none⟩ = some (.int .i64 a1_8) := (ya BK109.out 8).trans rfl
             have hcz53_9 : wr.cell? ⟨gb109, 9, none⟩ = some (.int .i64 a1_9) := (ya BK109.out 9).trans rfl
             have hcz53_10 : wr.cell? ⟨gb109, 10, none⟩ = some (.slice A1_10 l1_10.length c1_10) := (ya BK109.out 10).trans rfl
             have hfz53_0 := yb BK109.out 0
             have hfz53_1 := yb BK109.out 1
             have hfz53_2 := yb BK109.out 2
             have hfz53_3 := yb BK109.out 3
             have hfz53_4 := yb BK109.out 4
             have hfz53_5 := yb BK109.out 5
             have hfz53_6 := yb BK109.out 6
             have hfz53_7 := yb BK109.out 7
             have hfz53_8 := yb BK109.out 8
             have hfz53_9 := yb BK109.out 9
             have hfz53_10 := yb BK109.out 10
             have p114 : 0 ≤ (x6_3 : Int) := of_decide_eq_true (by first | (with_reducible assumption) | assumption)
             have q114 : x6_3 < (l1_10.length : Int) := of_decide_eq_true (by first | (with_reducible assumption) | assumption)
             obtain ⟨ad114, A114_0, c114_0, e114, hx114_0, hl114_0, hi114_0⟩ := at_L2 HR1_10.out x6_3 p114 q114
             cases e114
             replace hx114_0 := (HB.out.cell (yk w _ hx114_0)).trans hx114_0
             have HR114_0 := yc hi114_0
             have HC114_0 := yc hl114_0
             clear hi114_0 hl114_0
             replace p114 := eq_true p114
             replace q114 := eq_true q114
             go_wp2_with (first | (go_at_call 52; (with_reducible refine (outriderref08_Same.calls k3 _ _ (rd_L2 l0_10 x6_3) _ _ (rd_L2 l1_10 x6_3) false _ ?side1 ?side2 ?side3 ?side4 A46.out).mono ?_); (case side1 => repeat (first | exact (Kd.C_below HR113_0.out HB.out) | (with_reducible refine Kd.C_alloc ?_ _) | (with_reducible refine Kd.C_drewN ?_ _) | (with_reducible refine Kd.C_drew ?_))); (case side2 => exact HC113_0.out); (case side3 => repeat (first | exact (Kd.C_below HR114_0.out HB.out) | (with_reducible refine Kd.C_alloc ?_ _) | (with_reducible refine Kd.C_drewN ?_ _) | (with_reducible refine Kd.C_drew ?_))); (case side4 => exact HC114_0.out); rintro e w' ⟨rfl, ⟨nd, rfl⟩⟩; (try first | exact ⟨rfl, _, World.drewN_drewN _ _ _⟩ | exact ⟨rfl, _, Eq.trans (World.drewN_drewN _ _ _) (congrArg (World.drewN _) (Nat.add_assoc _ _ _))⟩)))
             repeat (go_quiet (first | (go_at_call 52; (with_reducible refine (outriderref08_Same.calls k3 _ _ (rd_L2 l0_10 x6_3) _ _ (rd_L2 l1_10 x6_3) false _ ?side1 ?side2 ?side3 ?side4 A46.out).mono ?_); (case side1 => repeat (first | exact (Kd.C_below HR113_0.out HB.out) | (with_reducible refine Kd.C_alloc ?_ _) | (with_reducible refine Kd.C_drewN ?_ _) | (with_reducible refine Kd.C_drew ?_))); (case side2 => exact HC113_0.out); (case side3 => repeat (first | exact (Kd.C_below HR114_0.out HB.out) | (with_reducible refine Kd.C_alloc ?_ _) | (with_reducible refine Kd.C_drewN ?_ _) | (with_reducible refine Kd.C_drew ?_))); (case side4 => exact HC114_0.out); rintro e w' ⟨rfl, ⟨nd, rfl⟩⟩; (try first | exact ⟨rfl, _, World.drewN_drewN _ _ _⟩ | exact ⟨rfl, _, Eq.trans (World.drewN_drewN _ _ _) (congrArg (World.drewN _) (Nat.add_assoc _ _ _))⟩))); try go_wp2_with (first | (go_at_call 52; (with_reducible refine (outriderref08_Same.calls k3 _ _ (rd_L2 l0_10 x6_3) _ _ (rd_L2 l1_10 x6_3) false _ ?side1 ?side2 ?side3 ?side4 A46.out).mono ?_); (case side1 => repeat (first | exact (Kd.C_below HR113_0.out HB.out) | (with_reducible refine Kd.C_alloc ?_ _) | (with_reducible refine Kd.C_drewN ?_ _) | (with_reducible refine Kd.C_drew ?_))); (case side2 => exact HC113_0.out); (case side3 => repeat (first | exact (Kd.C_below HR114_0.out HB.out) | (with_reducible refine Kd.C_alloc ?_ _) | (with_reducible refine Kd.C_drewN ?_ _) | (with_reducible refine Kd.C_drew ?_))); (case side4 => exact HC114_0.out); rintro e w' ⟨rfl, ⟨nd, rfl⟩⟩; (try first | exact ⟨rfl, _, World.drewN_drewN _ _ _⟩ | exact ⟨rfl, _, Eq.trans (World.drewN_drewN _ _ _) (congrArg (World.drewN _) (Nat.add_assoc _ _ _))⟩))))
             go_ret
             exact ⟨by first | rfl | (simp [errW_none, errW_some] <;> rfl) | (simp [*, errW_none, errW_some] <;> rfl), by repeat (first | (with_reducible first | exact HB.out | apply yd | apply ye | apply yf | refine yg ?_ GE108.out | refine yg ?_ GE109.out) | exact HB.out)⟩
           ·rw [if_neg c45] at H
            exact absurd H (by simp)
          ·rw [if_neg c44] at H
           exact absurd H (by simp)
         ·rw [if_neg c43] at H
          have c43b0 : decide (x6_3 < (l0_10.length : Int)) = false := decide_eq_false c43
          clear c43
          obtain rfl := Option.some.inj H
          have hnb54 := NB108_109.out
          have hnc54 := NB109_108.out
          have hcz55_0 : wr.cell? ⟨gb108, 0, none⟩ = some (.int .i64 a0_0) := (ya BK108.out 0).trans rfl
          have hcz55_1 : wr.cell? ⟨gb108, 1, none⟩ = some (.slice A0_1 l0_1.length c0_1) := (ya BK108.out 1).trans rfl
          have hcz55_2 : wr.cell? ⟨gb108, 2, none⟩ = some (.slice A0_2 l0_2.length c0_2) := (ya BK108.out 2).trans rfl
          have hcz55_3 : wr.cell? ⟨gb108, 3, none⟩ = some (.int .i64 a0_3) := (ya BK108.out 3).trans rfl
          have hcz55_4 : wr.cell? ⟨gb108, 4, none⟩ = some (.int .i64 a0_4) := (ya BK108.out 4).trans rfl
          have hcz55_5 : wr.cell? ⟨gb108, 5, none⟩ = some (.int .i64 a0_5) := (ya BK108.out 5).trans rfl
          have hcz55_6 : wr.cell? ⟨gb108, 6, none⟩ = some (.int .i64 a0_6) := (ya BK108.out 6).trans rfl
          have hcz55_7 : wr.cell? ⟨gb108, 7, none⟩ = some (.int .i64 a0_7) := (ya BK108.out 7).trans rfl
          have hcz55_8 : wr.cell? ⟨gb108, 8, none⟩ = some (.int .i64 a0_8) := (ya BK108.out 8).trans rfl
          have hcz55_9 : wr.cell? ⟨gb108, 9, none⟩ = some (.int .i64 a0_9) := (ya BK108.out 9).trans rfl
          have hcz55_10 : wr.cell? ⟨gb108, 10, none⟩ = some (.slice A0_10 l0_10.length c0_10) := (ya BK108.out 10).trans rfl
          have hfz55_0 := yb BK108.out 0
          have hfz55_1 := yb BK108.out 1
          have hfz55_2 := yb BK108.out 2
          have hfz55_3 := yb BK108.out 3
          have hfz55_4 := yb BK108.out 4
          have hfz55_5 := yb BK108.out 5
          have hfz55_6 := yb BK108.out 6
          have hfz55_7 := yb BK108.out 7
          have hfz55_8 := yb BK108.out 8
          have hfz55_9 := yb BK108.out 9
          have hfz55_10 := yb BK108.out 10
          go_wp2
          repeat (go_quiet (fail); try go_wp2)
          go_ret
          exact ⟨by first | rfl | (simp [errW_none, errW_some] <;> rfl) | (simp [*, errW_none, errW_some] <;> rfl), by repeat (first | (with_reducible first | exact HB.out | apply yd | apply ye | apply yf | refine yg ?_ GE108.out | refine yg ?_ GE109.out) | exact HB.out)⟩
end Go.Proofs.YtgkchcbnbbgdpaaGreatDoor.QJobCopies
