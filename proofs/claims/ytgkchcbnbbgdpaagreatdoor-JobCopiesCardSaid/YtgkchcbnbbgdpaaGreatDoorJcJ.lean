/- Joined out of: QJobCopiesx8. -/
import Derived.Test.YtgkchcbnbbgdpaaGreatDoorJcE
import Derived.Test.YtgkchcbnbbgdpaaGreatDoorJcI
set_option linter.unusedVariables false
set_option linter.unusedSimpArgs false
namespace Go.Proofs.YtgkchcbnbbgdpaaGreatDoor.QJobCopies
open Go.RowKit Go.Proofs.YtgkchcbnbbgdpaaGreatDoorW.PrintWords Go.Proofs.YtgkchcbnbbgdpaaGreatDoorW.PrintLast
attribute [local go_sem high] eqA26 eqA58 eqA61
mutual
def job_Same.j0 : Nat → Bool → Int → List (S58) → List (S61) → Int → Int → Int → Int → Int → Int → Int → List (List (S66)) → Int → List (S58) → List (S61) → Int → Int → Int → Int → Int → Int → Int → List (List (S66)) → Option (Bool)
 | 0, _, _, _, _, _, _, _, _, _, _, _, _, _, _, _, _, _, _, _, _, _, _, _ => none
 | k + 1, x53, x144000, x144001, x144002, x144003, x144004, x144005, x144006, x144007, x144008, x144009, x144010, x145000, x145001, x145002, x145003, x145004, x145005, x145006, x145007, x145008, x145009, x145010 => if x53 = true then (some false) else (job_Same.l0 k (x144001.length : Int) 0 x144000 x144001 x144002 x144003 x144004 x144005 x144006 x144007 x144008 x144009 x144010 x145000 x145001 x145002 x145003 x145004 x145005 x145006 x145007 x145008 x145009 x145010)
def job_Same.l0 : Nat → Int → Int → Int → List (S58) → List (S61) → Int → Int → Int → Int → Int → Int → Int → List (List (S66)) → Int → List (S58) → List (S61) → Int → Int → Int → Int → Int → Int → Int → List (List (S66)) → Option (Bool)
 | 0, _, _, _, _, _, _, _, _, _, _, _, _, _, _, _, _, _, _, _, _, _, _, _, _ => none
 | k + 1, x56, x57, x144000, x144001, x144002, x144003, x144004, x144005, x144006, x144007, x144008, x144009, x144010, x145000, x145001, x145002, x145003, x145004, x145005, x145006, x145007, x145008, x145009, x145010 => if x57 < x56 then (if 0 ≤ x57 then (if x57 < (x144001.length : Int) then (if x57 < (x145001.length : Int) then (if (!(((rd_T58 x144001 x57).f0) == ((rd_T58 x145001 x57).f0)) || (!(((rd_T58 x144001 x57).f1) == ((rd_T58 x145001 x57).f1)))) = true then (some false) else (job_Same.l0 k x56 (wrap64 (x57 + 1)) x144000 x144001 x144002 x144003 x144004 x144005 x144006 x144007 x144008 x144009 x144010 x145000 x145001 x145002 x145003 x145004 x145005 x145006 x145007 x145008 x145009 x145010)) else (none)) else (none)) else (none)) else (job_Same.l1 k (x144002.length : Int) 0 x144000 x144001 x144002 x144003 x144004 x144005 x144006 x144007 x144008 x144009 x144010 x145000 x145001 x145002 x145003 x145004 x145005 x145006 x145007 x145008 x145009 x145010)
def job_Same.l1 : Nat → Int → Int → Int → List (S58) → List (S61) → Int → Int → Int → Int → Int → Int → Int → List (List (S66)) → Int → List (S58) → List (S61) → Int → Int → Int → Int → Int → Int → Int → List (List (S66)) → Option (Bool)
 | 0, _, _, _, _, _, _, _, _, _, _, _, _, _, _, _, _, _, _, _, _, _, _, _, _ => none
 | k + 1, x74, x75, x144000, x144001, x144002, x144003, x144004, x144005, x144006, x144007, x144008, x144009, x144010, x145000, x145001, x145002, x145003, x145004, x145005, x145006, x145007, x145008, x145009, x145010 => if x75 < x74 then (if 0 ≤ x75 then (if x75 < (x144002.length : Int) then (if x75 < (x145002.length : Int) then (if (!(((rd_T61 x144002 x75).f0) == ((rd_T61 x145002 x75).f0)) || (!(((rd_T61 x144002 x75).f1) == ((rd_T61 x145002 x75).f1)))) = true then (some false) else (job_Same.l1 k x74 (wrap64 (x75 + 1)) x144000 x144001 x144002 x144003 x144004 x144005 x144006 x144007 x144008 x144009 x144010 x145000 x145001 x145002 x145003 x145004 x145005 x145006 x145007 x145008 x145009 x145010)) else (none)) else (none)) else (none)) else (job_Same.l2 k (x144010.length : Int) 0 x144000 x144001 x144002 x144003 x144004 x144005 x144006 x144007 x144008 x144009 x144010 x145000 x145001 x145002 x145003 x145004 x145005 x145006 x145007 x145008 x145009 x145010)
def job_Same.l2 : Nat → Int → Int → Int → List (S58) → List (S61) → Int → Int → Int → Int → Int → Int → Int → List (List (S66)) → Int → List (S58) → List (S61) → Int → Int → Int → Int → Int → Int → Int → List (List (S66)) → Option (Bool)
 | 0, _, _, _, _, _, _, _, _, _, _, _, _, _, _, _, _, _, _, _, _, _, _, _, _ => none
 | k + 1, x92, x93, x144000, x144001, x144002, x144003, x144004, x144005, x144006, x144007, x144008, x144009, x144010, x145000, x145001, x145002, x145003, x145004, x145005, x145006, x145007, x145008, x145009, x145010 => if x93 < x92 then (if 0 ≤ x93 then (if x93 < (x144010.length : Int) then (if x93 < (x145010.length : Int) then ((ins_Same.f k (rd_L2 x144010 x93) (rd_L2 x145010 x93)).bind fun t151 => (if t151 = true then (job_Same.l2 k x92 (wrap64 (x93 + 1)) x144000 x144001 x144002 x144003 x144004 x144005 x144006 x144007 x144008 x144009 x144010 x145000 x145001 x145002 x145003 x145004 x145005 x145006 x145007 x145008 x145009 x145010) else (some false))) else (none)) else (none)) else (none)) else (some true)
end
def job_Same.f (k : Nat) (a0_0 : Int) (l0_1 : List (S58)) (l0_2 : List (S61)) (a0_3 : Int) (a0_4 : Int) (a0_5 : Int) (a0_6 : Int) (a0_7 : Int) (a0_8 : Int) (a0_9 : Int) (l0_10 : List (List (S66))) (a1_0 : Int) (l1_1 : List (S58)) (l1_2 : List (S61)) (a1_3 : Int) (a1_4 : Int) (a1_5 : Int) (a1_6 : Int) (a1_7 : Int) (a1_8 : Int) (a1_9 : Int) (l1_10 : List (List (S66))) : Option (Bool) := if a0_0 = a1_0 then (if a0_3 = a1_3 then (if (!(a0_4 == a1_4) || (!(a0_5 == a1_5) || (!(a0_6 == a1_6) || (!(a0_7 == a1_7) || (!(a0_8 == a1_8) || (!(a0_9 == a1_9))))))) = true then (job_Same.j0 k true a0_0 l0_1 l0_2 a0_3 a0_4 a0_5 a0_6 a0_7 a0_8 a0_9 l0_10 a1_0 l1_1 l1_2 a1_3 a1_4 a1_5 a1_6 a1_7 a1_8 a1_9 l1_10) else (if (l0_1.length : Int) = (l1_1.length : Int) then (if (l0_2.length : Int) = (l1_2.length : Int) then (job_Same.j0 k ((l0_10.length : Int) != (l1_10.length : Int)) a0_0 l0_1 l0_2 a0_3 a0_4 a0_5 a0_6 a0_7 a0_8 a0_9 l0_10 a1_0 l1_1 l1_2 a1_3 a1_4 a1_5 a1_6 a1_7 a1_8 a1_9 l1_10) else (job_Same.j0 k true a0_0 l0_1 l0_2 a0_3 a0_4 a0_5 a0_6 a0_7 a0_8 a0_9 l0_10 a1_0 l1_1 l1_2 a1_3 a1_4 a1_5 a1_6 a1_7 a1_8 a1_9 l1_10)) else (job_Same.j0 k true a0_0 l0_1 l0_2 a0_3 a0_4 a0_5 a0_6 a0_7 a0_8 a0_9 l0_10 a1_0 l1_1 l1_2 a1_3 a1_4 a1_5 a1_6 a1_7 a1_8 a1_9 l1_10))) else (job_Same.j0 k true a0_0 l0_1 l0_2 a0_3 a0_4 a0_5 a0_6 a0_7 a0_8 a0_9 l0_10 a1_0 l1_1 l1_2 a1_3 a1_4 a1_5 a1_6 a1_7 a1_8 a1_9 l1_10)) else (job_Same.j0 k true a0_0 l0_1 l0_2 a0_3 a0_4 a0_5 a0_6 a0_7 a0_8 a0_9 l0_10 a1_0 l1_1 l1_2 a1_3 a1_4 a1_5 a1_6 a1_7 a1_8 a1_9 l1_10)
def job_Same.T6 : Bool × List (List Nat × List Nat) := (true, [([], []), ([0], [0]), ([], []), ([1, 2], [1, 2]), ([3], [3]), ([], []), ([5], [5]), ([], []), ([6, 7], [6, 7]), ([8], [8]), ([4, 9], [4, 9])])
def job_Same.B6 : List Nat := [0, 1, 0, 7, 15, 0, 32, 0, 224, 480, 1023]
theorem job_Same.tab6 : rtab .any (opsOf Tryz.f25 6) = job_Same.T6 := by kernel_rfl
theorem job_Same.bits6 : waitsOk job_Same.T6.2 job_Same.B6 = true := by kernel_rfl
def job_Same.T12 : Bool × List (List Nat × List Nat) := (true, [([], []), ([0], [0]), ([], []), ([1, 2], [1, 2]), ([3], [3]), ([], []), ([5], [5]), ([], []), ([6, 7], [6, 7]), ([8], [8]), ([4, 9], [4, 9])])
def job_Same.B12 : List Nat := [0, 1, 0, 7, 15, 0, 32, 0, 224, 480, 1023]
theorem job_Same.tab12 : rtab .any (opsOf Tryz.f25 12) = job_Same.T12 := by kernel_rfl
theorem job_Same.bits12 : waitsOk job_Same.T12.2 job_Same.B12 = true := by kernel_rfl
def job_Same.T18 : Bool × List (List Nat × List Nat) := (true, [([], []), ([0], [0]), ([], []), ([1, 2], [1, 2]), ([3], [3]), ([], []), ([5], [5]), ([], []), ([6, 7], [6, 7]), ([8], [8]), ([4, 9], [4, 9]), ([10], [10])])
def job_Same.B18 : List Nat := [0, 1, 0, 7, 15, 0, 32, 0, 224, 480, 1023, 2047]
theorem job_Same.tab18 : rtab .any (opsOf Tryz.f25 18) = job_Same.T18 := by kernel_rfl
theorem job_Same.bits18 : waitsOk job_Same.T18.2 job_Same.B18 = true := by kernel_rfl
set_option maxHeartbeats 8000000 in
set_option maxRecDepth 100000 in
theorem job_Same.calls (k : Nat) (a0_0 : Int) (A0_1 : Option Addr) (c0_1 : Nat) (l0_1 : List (S58)) (A0_2 : Option Addr) (c0_2 : Nat) (l0_2 : List (S61)) (a0_3 : Int) (a0_4 : Int) (a0_5 : Int) (a0_6 : Int) (a0_7 : Int) (a0_8 : Int) (a0_9 : Int) (A0_10 : Option Addr) (c0_10 : Nat) (l0_10 : List (List (S66))) (a1_0 : Int) (A1_1 : Option Addr) (c1_1 : Nat) (l1_1 : List (S58)) (A1_2 : Option Addr) (c1_2 : Nat) (l1_2 : List (S61)) (a1_3 : Int) (a1_4 : Int) (a1_5 : Int) (a1_6 : Int) (a1_7 : Int) (a1_8 : Int) (a1_9 : Int) (A1_10 : Option Addr) (c1_10 : Nat) (l1_10 : List (List (S66))) (r : Bool) (w : World) (hr0_1 : Kd.C k58 w A0_1 l0_1.length l0_1) (hc0_1 : l0_1.length ≤ c0_1) (hr0_2 : Kd.C k61 w A0_2 l0_2.length l0_2) (hc0_2 : l0_2.length ≤ c0_2) (hr0_10 : Kd.C (Kd.slice 66 k66) w A0_10 l0_10.length l0_10) (hc0_10 : l0_10.length ≤ c0_10) (hr1_1 : Kd.C k58 w A1_1 l1_1.length l1_1) (hc1_1 : l1_1.length ≤ c1_1) (hr1_2 : Kd.C k61 w A1_2 l1_2.length l1_2) (hc1_2 : l1_2.length ≤ c1_2) (hr1_10 : Kd.C (Kd.slice 66 k66) w A1_10 l1_10.length l1_10) (hc1_10 : l1_10.length ≤ c1_10) (h : job_Same.f k a0_0 l0_1 l0_2 a0_3 a0_4 a0_5 a0_6 a0_7 a0_8 a0_9 l0_10 a1_0 l1_1 l1_2 a1_3 a1_4 a1_5 a1_6 a1_7 a1_8 a1_9 l1_10 = some r) :
  Calls Tryz.prog 25 #[.agg #[.int .i64 a0_0, .slice A0_1 l0_1.length c0_1, .slice A0_2 l0_2.length c0_2, .int .i64 a0_3, .int .i64 a0_4, .int .i64 a0_5, .int .i64 a0_6, .int .i64 a0_7, .int .i64 a0_8, .int .i64 a0_9, .slice A0_10 l0_10.length c0_10], .agg #[.int .i64 a1_0, .slice A1_1 l1_1.length c1_1, .slice A1_2 l1_2.length c1_2, .int .i64 a1_3, .int .i64 a1_4, .int .i64 a1_5, .int .i64 a1_6, .int .i64 a1_7, .int .i64 a1_8, .int .i64 a1_9, .slice A1_10 l1_10.length c1_10]] w fun e w' => e = .returned (.bool r) ∧ Below w.heap.size w w' := by
 have hu29 := Tryz.underlying29
 have hu26 := Tryz.underlying26
 have hu58 := Tryz.underlying58
 have hu61 := Tryz.underlying61
 have HR0_1 := yc hr0_1
 have HC0_1 := yc hc0_1
 clear hr0_1 hc0_1
 have HR0_2 := yc hr0_2
 have HC0_2 := yc hc0_2
 clear hr0_2 hc0_2
 have HR0_10 := yc hr0_10
 have HC0_10 := yc hc0_10
 clear hr0_10 hc0_10
 have HR1_1 := yc hr1_1
 have HC1_1 := yc hc1_1
 clear hr1_1 hc1_1
 have HR1_2 := yc hr1_2
 have HC1_2 := yc hc1_2
 clear hr1_2 hc1_2
 have HR1_10 := yc hr1_10
 have HC1_10 := yc hc1_10
 clear hr1_10 hc1_10
 have HB := yc (Below.refl w.heap.size w)
 have H : (if a0_0 = a1_0 then (if a0_3 = a1_3 then (if (!(a0_4 == a1_4) || (!(a0_5 == a1_5) || (!(a0_6 == a1_6) || (!(a0_7 == a1_7) || (!(a0_8 == a1_8) || (!(a0_9 == a1_9))))))) = true then (job_Same.j0 k true a0_0 l0_1 l0_2 a0_3 a0_4 a0_5 a0_6 a0_7 a0_8 a0_9 l0_10 a1_0 l1_1 l1_2 a1_3 a1_4 a1_5 a1_6 a1_7 a1_8 a1_9 l1_10) else (if (l0_1.length : Int) = (l1_1.length : Int) then (if (l0_2.length : Int) = (l1_2.length : Int) then (job_Same.j0 k ((l0_10.length : Int) != (l1_10.length : Int)) a0_0 l0_1 l0_2 a0_3 a0_4 a0_5 a0_6 a0_7 a0_8 a0_9 l0_10 a1_0 l1_1 l1_2 a1_3 a1_4 a1_5 a1_6 a1_7 a1_8 a1_9 l1_10) else (job_Same.j0 k true a0_0 l0_1 l0_2 a0_3 a0_4 a0_5 a0_6 a0_7 a0_8 a0_9 l0_10 a1_0 l1_1 l1_2 a1_3 a1_4 a1_5 a1_6 a1_7 a1_8 a1_9 l1_10)) else (job_Same.j0 k true a0_0 l0_1 l0_2 a0_3 a0_4 a0_5 a0_6 a0_7 a0_8 a0_9 l0_10 a1_0 l1_1 l1_2 a1_3 a1_4 a1_5 a1_6 a1_7 a1_8 a1_9 l1_10))) else (job_Same.j0 k true a0_0 l0_1 l0_2 a0_3 a0_4 a0_5 a0_6 a0_7 a0_8 a0_9 l0_10 a1_0 l1_1 l1_2 a1_3 a1_4 a1_5 a1_6 a1_7 a1_8 a1_9 l1_10)) else (job_Same.j0 k true a0_0 l0_1 l0_2 a0_3 a0_4 a0_5 a0_6 a0_7 a0_8 a0_9 l0_10 a1_0 l1_1 l1_2 a1_3 a1_4 a1_5 a1_6 a1_7 a1_8 a1_9 l1_10)) = some r := h
 clear h
 have HC3 := yc H
 clear H
 go_enter Tryz.func25, Tryz.ntmps25
 go_upto_region 1 with (first | ((with_reducible refine gate_dst (N := 2) rfl ?_); (try (refine gate_guard (by rfl) ?_; dsimp only)); refine box_event ?hg (N := 2) ?hd (cs := #[.int .i64 a0_0, .slice A0_1 l0_1.length c0_1, .slice A0_2 l0_2.length c0_2, .int .i64 a0_3, .int .i64 a0_4, .int .i64 a0_5, .int .i64 a0_6, .int .i64 a0_7, .int .i64 a0_8, .int .i64 a0_9, .slice A0_10 l0_10.length c0_10]) (t := 29) ?hr ?_; (case hd => rfl); (case hg => rfl); (case hr => first | (go_simp; done) | (go_simp; rfl)); intro gb143 hg w4 hbox hb; have n0_ := yc (below_step (by repeat (first | (with_reducible first | exact HB.out | apply yd | apply ye | apply yf) | exact HB.out)) hb); have n1_ := yc (hbox); have n2_ := yc ((by rw [hg]; exact (below_size (by repeat (first | (with_reducible first | exact HB.out | apply yd | apply ye | apply yf) | exact HB.out))) : w.heap.size ≤ gb143)); have n3_ := yc ((by rw [hg]; exact (below_size (by repeat (first | (with_reducible first | exact HB.out | apply yd | apply ye | apply yf) | exact HB.out))) : w.heap.size ≤ gb143)); clear HB; have HB := n0_; have BK143 := n1_; have GW143 := n2_; have GE143 := n3_; clear n0_ n1_ n2_ n3_; clear hb hbox hg) | ((with_reducible refine gate_dst (N := 3) rfl ?_); (try (refine gate_guard (by rfl) ?_; dsimp only)); refine box_event ?hg (N := 3) ?hd (cs := #[.int .i64 a1_0, .slice A1_1 l1_1.length c1_1, .slice A1_2 l1_2.length c1_2, .int .i64 a1_3, .int .i64 a1_4, .int .i64 a1_5, .int .i64 a1_6, .int .i64 a1_7, .int .i64 a1_8, .int .i64 a1_9, .slice A1_10 l1_10.length c1_10]) (t := 29) ?hr ?_; (case hd => rfl); (case hg => rfl); (case hr => first | (go_simp; done) | (go_simp; rfl)); intro gb144 hg w5 hbox hb; have n0_ := yc (blk_below (g := gb143) (o := .cells #[.int .i64 a0_0, .slice A0_1 l0_1.length c0_1, .slice A0_2 l0_2.length c0_2, .int .i64 a0_3, .int .i64 a0_4, .int .i64 a0_5, .int .i64 a0_6, .int .i64 a0_7, .int .i64 a0_8, .int .i64 a0_9, .slice A0_10 l0_10.length c0_10] 29 (0, 0)) (by (with_reducible repeat (first | refine yh ?_ _ | refine yj ?_ | refine yi ?_ _)); exact BK143.out) hb); have n1_ := yc (below_step (by repeat (first | (with_reducible first | exact HB.out | apply yd | apply ye | apply yf | refine yg ?_ GE143.out) | exact HB.out)) hb); have n2_ := yc (hbox); have n3_ := yc ((by rw [hg]; exact (below_size (by repeat (first | (with_reducible first | exact HB.out | apply yd | apply ye | apply yf | refine yg ?_ GE143.out) | exact HB.out))) : w.heap.size ≤ gb144)); have n4_ := yc ((by rw [hg]; exact (below_size (by repeat (first | (with_reducible first | exact HB.out | apply yd | apply ye | apply yf | refine yg ?_ GE143.out) | exact HB.out))) : w.heap.size ≤ gb144)); have n5_ := yc ((by rw [hg]; exact Nat.ne_of_lt (blk_lt (g := gb143) (o := .cells #[.int .i64 a0_0, .slice A0_1 l0_1.length c0_1, .slice A0_2 l0_2.length c0_2, .int .i64 a0_3, .int .i64 a0_4, .int .i64 a0_5, .int .i64 a0_6, .int .i64 a0_7, .int .i64 a0_8, .int .i64 a0_9, .slice A0_10 l0_10.length c0_10] 29 (0, 0)) (by (with_reducible repeat (first | refine yh ?_ _ | refine yj ?_ | refine yi ?_ _)); exact BK143.out)) : gb143 ≠ gb144)); have n6_ := yc ((by rw [hg]; exact Nat.ne_of_gt (blk_lt (g := gb143) (o := .cells #[.int .i64 a0_0, .slice A0_1 l0_1.length c0_1, .slice A0_2 l0_2.length c0_2, .int .i64 a0_3, .int .i64 a0_4, .int .i64 a0_5, .int .i64 a0_6, .int .i64 a0_7, .int .i64 a0_8, .int .i64 a0_9, .slice A0_10 l0_10.length c0_10] 29 (0, 0)) (by (with_reducible repeat (first | refine yh ?_ _ | refine yj ?_ | refine yi ?_ _)); exact BK143.out)) : gb144 ≠ gb143)); clear BK143; clear HB; have BK143 := n0_; have HB := n1_; have BK144 := n2_; have GW144 := n3_; have GE144 := n4_; have NB143_144 := n5_; have NB144_143 := n6_; clear n0_ n1_ n2_ n3_ n4_ n5_ n6_; clear hb hbox hg))
 (try simp only [Act.put, List.setIfInBounds_toArray, List.set_cons_zero, List.set_cons_succ])
 go_cut [53] (fun v53 wc => ∃ (kq : Nat) (x53_2 : Bool), v53 = .bool x53_2 ∧ Aside0 (job_Same.j0 kq x53_2 a0_0 l0_1 l0_2 a0_3 a0_4 a0_5 a0_6 a0_7 a0_8 a0_9 l0_10 a1_0 l1_1 l1_2 a1_3 a1_4 a1_5 a1_6 a1_7 a1_8 a1_9 l1_10 = some r) ∧ Aside0 (kq ≤ k) ∧ Aside0 (wc.heap[gb143]? = some (.cells #[.int .i64 a0_0, (.slice A0_1 l0_1.length c0_1), (.slice A0_2 l0_2.length c0_2), .int .i64 a0_3, .int .i64 a0_4, .int .i64 a0_5, .int .i64 a0_6, .int .i64 a0_7, .int .i64 a0_8, .int .i64 a0_9, (.slice A0_10 l0_10.length c0_10)] 29 (0, 0))) ∧ Aside0 (wc.heap[gb144]? = some (.cells #[.int .i64 a1_0, (.slice A1_1 l1_1.length c1_1), (.slice A1_2 l1_2.length c1_2), .int .i64 a1_3, .int .i64 a1_4, .int .i64 a1_5, .int .i64 a1_6, .int .i64 a1_7, .int .i64 a1_8, .int .i64 a1_9, (.slice A1_10 l1_10.length c1_10)] 29 (0, 0))) ∧ Aside0 (Below w.heap.size w wc))
 case first =>
  have H := HC3.out
  clear HC3
  by_cases c6 : a0_0 = a1_0
  ·rw [if_pos c6] at H
   have c6b0 : (a0_0 == a1_0) = true := beq_iff_eq.mpr c6
   have c6b1 : (a0_0 != a1_0) = false := bne_eq_false_iff_eq.mpr c6
   clear c6
   (first | rw [c6b0] | (simp only [i64_w, i32_w]; rw [c6b0]) | skip)
   by_cases c7 : a0_3 = a1_3
   ·rw [if_pos c7] at H
    have c7b0 : (a0_3 == a1_3) = true := beq_iff_eq.mpr c7
    have c7b1 : (a0_3 != a1_3) = false := bne_eq_false_iff_eq.mpr c7
    clear c7
    by_cases c8 : (!(a0_4 == a1_4) || (!(a0_5 == a1_5) || (!(a0_6 == a1_6) || (!(a0_7 == a1_7) || (!(a0_8 == a1_8) || (!(a0_9 == a1_9))))))) = true
    ·rw [if_pos c8] at H
     have c8b0 : (!(a0_4 == a1_4) || (!(a0_5 == a1_5) || (!(a0_6 == a1_6) || (!(a0_7 == a1_7) || (!(a0_8 == a1_8) || (!(a0_9 == a1_9))))))) = true := c8
     clear c8
     have H' := yc H
     clear H
     have hnb9 := NB143_144.out
     have hnc9 := NB144_143.out
     have hcz10_0 : w5.cell? ⟨gb143, 0, none⟩ = some (.int .i64 a0_0) := (ya BK143.out 0).trans rfl
     have hcz10_1 : w5.cell? ⟨gb143, 1, none⟩ = some (.slice A0_1 l0_1.length c0_1) := (ya BK143.out 1).trans rfl
     have hcz10_2 : w5.cell? ⟨gb143, 2, none⟩ = some (.slice A0_2 l0_2.length c0_2) := (ya BK143.out 2).trans rfl
     have hcz10_3 : w5.cell? ⟨gb143, 3, none⟩ = some (.int .i64 a0_3) := (ya BK143.out 3).trans rfl
     have hcz10_4 : w5.cell? ⟨gb143, 4, none⟩ = some (.int .i64 a0_4) := (ya BK143.out 4).trans rfl
     have hcz10_5 : w5.cell? ⟨gb143, 5, none⟩ = some (.int .i64 a0_5) := (ya BK143.out 5).trans rfl
     have hcz10_6 : w5.cell? ⟨gb143, 6, none⟩ = some (.int .i64 a0_6) := (ya BK143.out 6).trans rfl
     have hcz10_7 : w5.cell? ⟨gb143, 7, none⟩ = some (.int .i64 a0_7) := (ya BK143.out 7).trans rfl
     have hcz10_8 : w5.cell? ⟨gb143, 8, none⟩ = some (.int .i64 a0_8) := (ya BK143.out 8).trans rfl
     have hcz10_9 : w5.cell? ⟨gb143, 9, none⟩ = some (.int .i64 a0_9) := (ya BK143.out 9).trans rfl
     have hcz10_10 : w5.cell? ⟨gb143, 10, none⟩ = some (.slice A0_10 l0_10.length c0_10) := (ya BK143.out 10).trans rfl
     have hfz10_0 := yb BK143.out 0
     have hfz10_1 := yb BK143.out 1
     have hfz10_2 := yb BK143.out 2
     have hfz10_3 := yb BK143.out 3
     have hfz10_4 := yb BK143.out 4
     have hfz10_5 := yb BK143.out 5
     have hfz10_6 := yb BK143.out 6
     have hfz10_7 := yb BK143.out 7
     have hfz10_8 := yb BK143.out 8
     have hfz10_9 := yb BK143.out 9
     have hfz10_10 := yb BK143.out 10
     have hcz11_0 : w5.cell? ⟨gb144, 0, none⟩ = some (.int .i64 a1_0) := (ya BK144.out 0).trans rfl
     have hcz11_1 : w5.cell? ⟨gb144, 1, none⟩ = some (.slice A1_1 l1_1.length c1_1) := (ya BK144.out 1).trans rfl
     have hcz11_2 : w5.cell? ⟨gb144, 2, none⟩ = some (.slice A1_2 l1_2.length c1_2) := (ya BK144.out 2).trans rfl
     have hcz11_3 : w5.cell? ⟨gb144, 3, none⟩ = some (.int .i64 a1_3) := (ya BK144.out 3).trans rfl
     have hcz11_4 : w5.cell? ⟨gb144, 4, none⟩ = some (.int .i64 a1_4) := (ya BK144.out 4).trans rfl
     have hcz11_5 : w5.cell? ⟨gb144, 5, none⟩ = some (.int .i64 a1_5) := (ya BK144.out 5).trans rfl
     have hcz11_6 : w5.cell? ⟨gb144, 6, none⟩ = some (.int .i64 a1_6) := (ya BK144.out 6).trans rfl
     have hcz11_7 : w5.cell? ⟨gb144, 7, none⟩ = some (.int .i64 a1_7) := (ya BK144.out 7).trans rfl
     have hcz11_8 : w5.cell? ⟨gb144, 8, none⟩ = some (.int .i64 a1_8) := (ya BK144.out 8).trans rfl
     have hcz11_9 : w5.cell? ⟨gb144, 9, none⟩ = some (.int .i64 a1_9) := (ya BK144.out 9).trans rfl
     have hcz11_10 : w5.cell? ⟨gb144, 10, none⟩ = some (.slice A1_10 l1_10.length c1_10) := (ya BK144.out 10).trans rfl
     have hfz11_0 := yb BK144.out 0
     have hfz11_1 := yb BK144.out 1
     have hfz11_2 := yb BK144.out 2
     have hfz11_3 := yb BK144.out 3
     have hfz11_4 := yb BK144.out 4
     have hfz11_5 := yb BK144.out 5
     have hfz11_6 := yb BK144.out 6
     have hfz11_7 := yb BK144.out 7
     have hfz11_8 := yb BK144.out 8
     have hfz11_9 := yb BK144.out 9
     have hfz11_10 := yb BK144.out 10
     go_wp2
     go_meet
     case rel => exact ⟨_, (true), (by first | rfl | (simp; done) | (simp [*]; done)), H', ⟨by first | omega | exact Nat.le_refl _⟩, ⟨by (with_reducible repeat (first | refine yh ?_ _ | refine yj ?_ | refine yi ?_ _)); exact BK143.out⟩, ⟨by (with_reducible repeat (first | refine yh ?_ _ | refine yj ?_ | refine yi ?_ _)); exact BK144.out⟩, ⟨by repeat (first | (with_reducible first | exact HB.out | apply yd | apply ye | apply yf | refine yg ?_ GE143.out | refine yg ?_ GE144.out) | exact HB.out)⟩⟩
    ·rw [if_neg c8] at H
     have c8b0 : (!(a0_4 == a1_4) || (!(a0_5 == a1_5) || (!(a0_6 == a1_6) || (!(a0_7 == a1_7) || (!(a0_8 == a1_8) || (!(a0_9 == a1_9))))))) = false := by simpa using c8
     clear c8
     by_cases c12 : (l0_1.length : Int) = (l1_1.length : Int)
     ·rw [if_pos c12] at H
      have c12b0 : ((l0_1.length : Int) == (l1_1.length : Int)) = true := beq_iff_eq.mpr c12
      have c12b1 : ((l0_1.length : Int) != (l1_1.length : Int)) = false := bne_eq_false_iff_eq.mpr c12
      have c12b2 : (l0_1.length == l1_1.length) = true := by first | simpa using c12 | (simp at c12 ⊢; omega)
      clear c12
      by_cases c13 : (l0_2.length : Int) = (l1_2.length : Int)
      ·rw [if_pos c13] at H
       have c13b0 : ((l0_2.length : Int) == (l1_2.length : Int)) = true := beq_iff_eq.mpr c13
       have c13b1 : ((l0_2.length : Int) != (l1_2.length : Int)) = false := bne_eq_false_iff_eq.mpr c13
       have c13b2 : (l0_2.length == l1_2.length) = true := by first | simpa using c13 | (simp at c13 ⊢; omega)
       clear c13
       have H' := yc H
       clear H
       have hnb14 := NB143_144.out
       have hnc14 := NB144_143.out
       have hcz15_0 : w5.cell? ⟨gb143, 0, none⟩ = some (.int .i64 a0_0) := (ya BK143.out 0).trans rfl
       have hcz15_1 : w5.cell? ⟨gb143, 1, none⟩ = some (.slice A0_1 l0_1.length c0_1) := (ya BK143.out 1).trans rfl
       have hcz15_2 : w5.cell? ⟨gb143, 2, none⟩ = some (.slice A0_2 l0_2.length c0_2) := (ya BK143.out 2).trans rfl
       have hcz15_3 : w5.cell? ⟨gb143, 3, none⟩ = some (.int .i64 a0_3) := (ya BK143.out 3).trans rfl
       have hcz15_4 : w5.cell? ⟨gb143, 4, none⟩ = some (.int .i64 a0_4) := (ya BK143.out 4).trans rfl
       have hcz15_5 : w5.cell? ⟨gb143, 5, none⟩ = some (.int .i64 a0_5) := (ya BK143.out 5).trans rfl
       have hcz15_6 : w5.cell? ⟨gb143, 6, none⟩ = some (.int .i64 a0_6) := (ya BK143.out 6).trans rfl
       have hcz15_7 : w5.cell? ⟨gb143, 7, none⟩ = some (.int .i64 a0_7) := (ya BK143.out 7).trans rfl
       have hcz15_8 : w5.cell? ⟨gb143, 8, none⟩ = some (.int .i64 a0_8) := (ya BK143.out 8).trans rfl
       have hcz15_9 : w5.cell? ⟨gb143, 9, none⟩ = some (.int .i64 a0_9) := (ya BK143.out 9).trans rfl
       have hcz15_10 : w5.cell? ⟨gb143, 10, none⟩ = some (.slice A0_10 l0_10.length c0_10) := (ya BK143.out 10).trans rfl
       have hfz15_0 := yb BK143.out 0
       have hfz15_1 := yb BK143.out 1
       have hfz15_2 := yb BK143.out 2
       have hfz15_3 := yb BK143.out 3
       have hfz15_4 := yb BK143.out 4
       have hfz15_5 := yb BK143.out 5
       have hfz15_6 := yb BK143.out 6
       have hfz15_7 := yb BK143.out 7
       have hfz15_8 := yb BK143.out 8
       have hfz15_9 := yb BK143.out 9
       have hfz15_10 := yb BK143.out 10
       have hcz16_0 : w5.cell? ⟨gb144, 0, none⟩ = some (.int .i64 a1_0) := (ya BK144.out 0).trans rfl
       have hcz16_1 : w5.cell? ⟨gb144, 1, none⟩ = some (.slice A1_1 l1_1.length c1_1) := (ya BK144.out 1).trans rfl
       have hcz16_2 : w5.cell? ⟨gb144, 2, none⟩ = some (.slice A1_2 l1_2.length c1_2) := (ya BK144.out 2).trans rfl
       have hcz16_3 : w5.cell? ⟨gb144, 3, none⟩ = some (.int .i64 a1_3) := (ya BK144.out 3).trans rfl
       have hcz16_4 : w5.cell? ⟨gb144, 4, none⟩ = some (.int .i64 a1_4) := (ya BK144.out 4).trans rfl
       have hcz16_5 : w5.cell? ⟨gb144, 5, none⟩ = some (.int .i64 a1_5) := (ya BK144.out 5).trans rfl
       have hcz16_6 : w5.cell? ⟨gb144, 6, none⟩ = some (.int .i64 a1_6) := (ya BK144.out 6).trans rfl
       have hcz16_7 : w5.cell? ⟨gb144, 7, none⟩ = some (.int .i64 a1_7) := (ya BK144.out 7).trans rfl
       have hcz16_8 : w5.cell? ⟨gb144, 8, none⟩ = some (.int .i64 a1_8) := (ya BK144.out 8).trans rfl
       have hcz16_9 : w5.cell? ⟨gb144, 9, none⟩ = some (.int .i64 a1_9) := (ya BK144.out 9).trans rfl
       have hcz16_10 : w5.cell? ⟨gb144, 10, none⟩ = some (.slice A1_10 l1_10.length c1_10) := (ya BK144.out 10).trans rfl
       have hfz16_0 := yb BK144.out 0
       have hfz16_1 := yb BK144.out 1
       have hfz16_2 := yb BK144.out 2
       have hfz16_3 := yb BK144.out 3
       have hfz16_4 := yb BK144.out 4
       have hfz16_5 := yb BK144.out 5
       have hfz16_6 := yb BK144.out 6
       have hfz16_7 := yb BK144.out 7
       have hfz16_8 := yb BK144.out 8
       have hfz16_9 := yb BK144.out 9
       have hfz16_10 := yb BK144.out 10
       go_wp2
       go_meet
       case rel => exact ⟨_, (((l0_10.length : Int) != (l1_10.length : Int))), (by first | rfl | (simp; done) | (simp [*]; done)), H', ⟨by first | omega | exact Nat.le_refl _⟩, ⟨by (with_reducible repeat (first | refine yh ?_ _ | refine yj ?_ | refine yi ?_ _)); exact BK143.out⟩, ⟨by (with_reducible repeat (first | refine yh ?_ _ | refine yj ?_ | refine yi ?_ _)); exact BK144.out⟩, ⟨by repeat (first | (with_reducible first | exact HB.out | apply yd | apply ye | apply yf | refine yg ?_ GE143.out | refine yg ?_ GE144.out) | exact HB.out)⟩⟩
      ·rw [if_neg c13] at H
       have c13b0 : ((l0_2.length : Int) == (l1_2.length : Int)) = false := beq_eq_false_iff_ne.mpr c13
       have c13b1 : ((l0_2.length : Int) != (l1_2.length : Int)) = true := bne_iff_ne.mpr c13
       have c13b2 : (l0_2.length == l1_2.length) = false := by first | simpa using c13 | (simp at c13 ⊢; omega)
       have H' := yc H
       clear H
       have hnb17 := NB143_144.out
       have hnc17 := NB144_143.out
       have hcz18_0 : w5.cell? ⟨gb143, 0, none⟩ = some (.int .i64 a0_0) := (ya BK143.out 0).trans rfl
       have hcz18_1 : w5.cell? ⟨gb143, 1, none⟩ = some (.slice A0_1 l0_1.length c0_1) := (ya BK143.out 1).trans rfl
       have hcz18_2 : w5.cell? ⟨gb143, 2, none⟩ = some (.slice A0_2 l0_2.length c0_2) := (ya BK143.out 2).trans rfl
       have hcz18_3 : w5.cell? ⟨gb143, 3, none⟩ = some (.int .i64 a0_3) := (ya BK143.out 3).trans rfl
       have hcz18_4 : w5.cell? ⟨gb143, 4, none⟩ = some (.int .i64 a0_4) := (ya BK143.out 4).trans rfl
       have hcz18_5 : w5.cell? ⟨gb143, 5, none⟩ = some (.int .i64 a0_5) := (ya BK143.out 5).trans rfl
       have hcz18_6 : w5.cell? ⟨gb143, 6, none⟩ = some (.int .i64 a0_6) := (ya BK143.out 6).trans rfl
       have hcz18_7 : w5.cell? ⟨gb143, 7, none⟩ = some (.int .i64 a0_7) := (ya BK143.out 7).trans rfl
       have hcz18_8 : w5.cell? ⟨gb143, 8, none⟩ = some (.int .i64 a0_8) := (ya BK143.out 8).trans rfl
       have hcz18_9 : w5.cell? ⟨gb143, 9, none⟩ = some (.int .i64 a0_9) := (ya BK143.out 9).trans rfl
       have hcz18_10 : w5.cell? ⟨gb143, 10, none⟩ = some (.slice A0_10 l0_10.length c0_10) := (ya BK143.out 10).trans rfl
       have hfz18_0 := yb BK143.out 0
       have hfz18_1 := yb BK143.out 1
       have hfz18_2 := yb BK143.out 2
       have hfz18_3 := yb BK143.out 3
       have hfz18_4 := yb BK143.out 4
       have hfz18_5 := yb BK143.out 5
       have hfz18_6 := yb BK143.out 6
       have hfz18_7 := yb BK143.out 7
       have hfz18_8 := yb BK143.out 8
       have hfz18_9 := yb BK143.out 9
       have hfz18_10 := yb BK143.out 10
       have hcz19_0 : w5.cell? ⟨gb144, 0, none⟩ = some (.int .i64 a1_0) := (ya BK144.out 0).trans rfl
       have hcz19_1 : w5.cell? ⟨gb144, 1, none⟩ = some (.slice A1_1 l1_1.length c1_1) := (ya BK144.out 1).trans rfl
       have hcz19_2 : w5.cell? ⟨gb144, 2, none⟩ = some (.slice A1_2 l1_2.length c1_2) := (ya BK144.out 2).trans rfl
       have hcz19_3 : w5.cell? ⟨gb144, 3, none⟩ = some (.int .i64 a1_3) := (ya BK144.out 3).trans rfl
       have hcz19_4 : w5.cell? ⟨gb144, 4, none⟩ = some (.int .i64 a1_4) := (ya BK144.out 4).trans rfl
       have hcz19_5 : w5.cell? ⟨gb144, 5, none⟩ = some (.int .i64 a1_5) := (ya BK144.out 5).trans rfl
       have hcz19_6 : w5.cell? ⟨gb144, 6, none⟩ = some (.int .i64 a1_6) := (ya BK144.out 6).trans rfl
       have hcz19_7 : w5.cell? ⟨gb144, 7, none⟩ = some (.int .i64 a1_7) := (ya BK144.out 7).trans rfl
       have hcz19_8 : w5.cell? ⟨gb144, 8, none⟩ = some (.int .i64 a1_8) := (ya BK144.out 8).trans rfl
       have hcz19_9 : w5.cell? ⟨gb144, 9, none⟩ = some (.int .i64 a1_9) := (ya BK144.out 9).trans rfl
       have hcz19_10 : w5.cell? ⟨gb144, 10, none⟩ = some (.slice A1_10 l1_10.length c1_10) := (ya BK144.out 10).trans rfl
       have hfz19_0 := yb BK144.out 0
       have hfz19_1 := yb BK144.out 1
       have hfz19_2 := yb BK144.out 2
       have hfz19_3 := yb BK144.out 3
       have hfz19_4 := yb BK144.out 4
       have hfz19_5 := yb BK144.out 5
       have hfz19_6 := yb BK144.out 6
       have hfz19_7 := yb BK144.out 7
       have hfz19_8 := yb BK144.out 8
       have hfz19_9 := yb BK144.out 9
       have hfz19_10 := yb BK144.out 10
       go_wp2
       go_meet
       case rel => exact ⟨_, (true), (by first | rfl | (simp; done) | (simp [*]; done)), H', ⟨by first | omega | exact Nat.le_refl _⟩, ⟨by (with_reducible repeat (first | refine yh ?_ _ | refine yj ?_ | refine yi ?_ _)); exact BK143.out⟩, ⟨by (with_reducible repeat (first | refine yh ?_ _ | refine yj ?_ | refine yi ?_ _)); exact BK144.out⟩, ⟨by repeat (first | (with_reducible first | exact HB.out | apply yd | apply ye | apply yf | refine yg ?_ GE143.out | refine yg ?_ GE144.out) | exact HB.out)⟩⟩
     ·rw [if_neg c12] at H
      have c12b0 : ((l0_1.length : Int) == (l1_1.length : Int)) = false := beq_eq_false_iff_ne.mpr c12
      have c12b1 : ((l0_1.length : Int) != (l1_1.length : Int)) = true := bne_iff_ne.mpr c12
      have c12b2 : (l0_1.length == l1_1.length) = false := by first | simpa using c12 | (simp at c12 ⊢; omega)
      have H' := yc H
      clear H
      have hnb20 := NB143_144.out
      have hnc20 := NB144_143.out
      have hcz21_0 : w5.cell? ⟨gb143, 0, none⟩ = some (.int .i64 a0_0) := (ya BK143.out 0).trans rfl
      have hcz21_1 : w5.cell? ⟨gb143, 1, none⟩ = some (.slice A0_1 l0_1.length c0_1) := (ya BK143.out 1).trans rfl
      have hcz21_2 : w5.cell? ⟨gb143, 2, none⟩ = some (.slice A0_2 l0_2.length c0_2) := (ya BK143.out 2).trans rfl
      have hcz21_3 : w5.cell? ⟨gb143, 3, none⟩ = some (.int .i64 a0_3) := (ya BK143.out 3).trans rfl
      have hcz21_4 : w5.cell? ⟨gb143, 4, none⟩ = some (.int .i64 a0_4) := (ya BK143.out 4).trans rfl
      have hcz21_5 : w5.cell? ⟨gb143, 5, none⟩ = some (.int .i64 a0_5) := (ya BK143.out 5).trans rfl
      have hcz21_6 : w5.cell? ⟨gb143, 6, none⟩ = some (.int .i64 a0_6) := (ya BK143.out 6).trans rfl
      have hcz21_7 : w5.cell? ⟨gb143, 7, none⟩ = some (.int .i64 a0_7) := (ya BK143.out 7).trans rfl
      have hcz21_8 : w5.cell? ⟨gb143, 8, none⟩ = some (.int .i64 a0_8) := (ya BK143.out 8).trans rfl
      have hcz21_9 : w5.cell? ⟨gb143, 9, none⟩ = some (.int .i64 a0_9) := (ya BK143.out 9).trans rfl
      have hcz21_10 : w5.cell? ⟨gb143, 10, none⟩ = some (.slice A0_10 l0_10.length c0_10) := (ya BK143.out 10).trans rfl
      have hfz21_0 := yb BK143.out 0
      have hfz21_1 := yb BK143.out 1
      have hfz21_2 := yb BK143.out 2
      have hfz21_3 := yb BK143.out 3
      have hfz21_4 := yb BK143.out 4
      have hfz21_5 := yb BK143.out 5
      have hfz21_6 := yb BK143.out 6
      have hfz21_7 := yb BK143.out 7
      have hfz21_8 := yb BK143.out 8
      have hfz21_9 := yb BK143.out 9
      have hfz21_10 := yb BK143.out 10
      have hcz22_0 : w5.cell? ⟨gb144, 0, none⟩ = some (.int .i64 a1_0) := (ya BK144.out 0).trans rfl
      have hcz22_1 : w5.cell? ⟨gb144, 1, none⟩ = some (.slice A1_1 l1_1.length c1_1) := (ya BK144.out 1).trans rfl
      have hcz22_2 : w5.cell? ⟨gb144, 2, none⟩ = some (.slice A1_2 l1_2.length c1_2) := (ya BK144.out 2).trans rfl
      have hcz22_3 : w5.cell? ⟨gb144, 3, none⟩ = some (.int .i64 a1_3) := (ya BK144.out 3).trans rfl
      have hcz22_4 : w5.cell? ⟨gb144, 4, none⟩ = some (.int .i64 a1_4) := (ya BK144.out 4).trans rfl
      have hcz22_5 : w5.cell? ⟨gb144, 5, none⟩ = some (.int .i64 a1_5) := (ya BK144.out 5).trans rfl
      have hcz22_6 : w5.cell? ⟨gb144, 6, none⟩ = some (.int .i64 a1_6) := (ya BK144.out 6).trans rfl
      have hcz22_7 : w5.cell? ⟨gb144, 7, none⟩ = some (.int .i64 a1_7) := (ya BK144.out 7).trans rfl
      have hcz22_8 : w5.cell? ⟨gb144, 8, none⟩ = some (.int .i64 a1_8) := (ya BK144.out 8).trans rfl
      have hcz22_9 : w5.cell? ⟨gb144, 9, none⟩ = some (.int .i64 a1_9) := (ya BK144.out 9).trans rfl
      have hcz22_10 : w5.cell? ⟨gb144, 10, none⟩ = some (.slice A1_10 l1_10.length c1_10) := (ya BK144.out 10).trans rfl
      have hfz22_0 := yb BK144.out 0
      have hfz22_1 := yb BK144.out 1
      have hfz22_2 := yb BK144.out 2
      have hfz22_3 := yb BK144.out 3
      have hfz22_4 := yb BK144.out 4
      have hfz22_5 := yb BK144.out 5
      have hfz22_6 := yb BK144.out 6
      have hfz22_7 := yb BK144.out 7
      have hfz22_8 := yb BK144.out 8
      have hfz22_9 := yb BK144.out 9
      have hfz22_10 := yb BK144.out 10
      go_wp2
      go_meet
      case rel => exact ⟨_, (true), (by first | rfl | (simp; done) | (simp [*]; done)), H', ⟨by first | omega | exact Nat.le_refl _⟩, ⟨by (with_reducible repeat (first | refine yh ?_ _ | refine yj ?_ | refine yi ?_ _)); exact BK143.out⟩, ⟨by (with_reducible repeat (first | refine yh ?_ _ | refine yj ?_ | refine yi ?_ _)); exact BK144.out⟩, ⟨by repeat (first | (with_reducible first | exact HB.out | apply yd | apply ye | apply yf | refine yg ?_ GE143.out | refine yg ?_ GE144.out) | exact HB.out)⟩⟩
   ·rw [if_neg c7] at H
    have c7b0 : (a0_3 == a1_3) = false := beq_eq_false_iff_ne.mpr c7
    have c7b1 : (a0_3 != a1_3) = true := bne_iff_ne.mpr c7
    have H' := yc H
    clear H
    have hnb23 := NB143_144.out
    have hnc23 := NB144_143.out
    have hcz24_0 : w5.cell? ⟨gb143, 0, none⟩ = some (.int .i64 a0_0) := (ya BK143.out 0).trans rfl
    have hcz24_1 : w5.cell? ⟨gb143, 1, none⟩ = some (.slice A0_1 l0_1.length c0_1) := (ya BK143.out 1).trans rfl
    have hcz24_2 : w5.cell? ⟨gb143, 2, none⟩ = some (.slice A0_2 l0_2.length c0_2) := (ya BK143.out 2).trans rfl
    have hcz24_3 : w5.cell? ⟨gb143, 3, none⟩ = some (.int .i64 a0_3) := (ya BK143.out 3).trans rfl
    have hcz24_4 : w5.cell? ⟨gb143, 4, none⟩ = some (.int .i64 a0_4) := (ya BK143.out 4).trans rfl
    have hcz24_5 : w5.cell? ⟨gb143, 5, none⟩ = some (.int .i64 a0_5) := (ya BK143.out 5).trans rfl
    have hcz24_6 : w5.cell? ⟨gb143, 6, none⟩ = some (.int .i64 a0_6) := (ya BK143.out 6).trans rfl
    have hcz24_7 : w5.cell? ⟨gb143, 7, none⟩ = some (.int .i64 a0_7) := (ya BK143.out 7).trans rfl
    have hcz24_8 : w5.cell? ⟨gb143, 8, none⟩ = some (.int .i64 a0_8) := (ya BK143.out 8).trans rfl
    have hcz24_9 : w5.cell? ⟨gb143, 9, none⟩ = some (.int .i64 a0_9) := (ya BK143.out 9).trans rfl
    have hcz24_10 : w5.cell? ⟨gb143, 10, none⟩ = some (.slice A0_10 l0_10.length c0_10) := (ya BK143.out 10).trans rfl
    have hfz24_0 := yb BK143.out 0
    have hfz24_1 := yb BK143.out 1
    have hfz24_2 := yb BK143.out 2
    have hfz24_3 := yb BK143.out 3
    have hfz24_4 := yb BK143.out 4
    have hfz24_5 := yb BK143.out 5
    have hfz24_6 := yb BK143.out 6
    have hfz24_7 := yb BK143.out 7
    have hfz24_8 := yb BK143.out 8
    have hfz24_9 := yb BK143.out 9
    have hfz24_10 := yb BK143.out 10
    have hcz25_0 : w5.cell? ⟨gb144, 0, none⟩ = some (.int .i64 a1_0) := (ya BK144.out 0).trans rfl
    have hcz25_1 : w5.cell? ⟨gb144, 1, none⟩ = some (.slice A1_1 l1_1.length c1_1) := (ya BK144.out 1).trans rfl
    have hcz25_2 : w5.cell? ⟨gb144, 2, none⟩ = some (.slice A1_2 l1_2.length c1_2) := (ya BK144.out 2).trans rfl
    have hcz25_3 : w5.cell? ⟨gb144, 3, none⟩ = some (.int .i64 a1_3) := (ya BK144.out 3).trans rfl
    have hcz25_4 : w5.cell? ⟨gb144, 4, none⟩ = some (.int .i64 a1_4) := (ya BK144.out 4).trans rfl
    have hcz25_5 : w5.cell? ⟨gb144, 5, none⟩ = some (.int .i64 a1_5) := (ya BK144.out 5).trans rfl
    have hcz25_6 : w5.cell? ⟨gb144, 6, none⟩ = some (.int .i64 a1_6) := (ya BK144.out 6).trans rfl
    have hcz25_7 : w5.cell? ⟨gb144, 7, none⟩ = some (.int .i64 a1_7) := (ya BK144.out 7).trans rfl
    have hcz25_8 : w5.cell? ⟨gb144, 8, none⟩ = some (.int .i64 a1_8) := (ya BK144.out 8).trans rfl
    have hcz25_9 : w5.cell? ⟨gb144, 9, none⟩ = some (.int .i64 a1_9) := (ya BK144.out 9).trans rfl
    have hcz25_10 : w5.cell? ⟨gb144, 10, none⟩ = some (.slice A1_10 l1_10.length c1_10) := (ya BK144.out 10).trans rfl
    have hfz25_0 := yb BK144.out 0
    have hfz25_1 := yb BK144.out 1
    have hfz25_2 := yb BK144.out 2
    have hfz25_3 := yb BK144.out 3
    have hfz25_4 := yb BK144.out 4
    have hfz25_5 := yb BK144.out 5
    have hfz25_6 := yb BK144.out 6
    have hfz25_7 := yb BK144.out 7
    have hfz25_8 := yb BK144.out 8
    have hfz25_9 := yb BK144.out 9
    have hfz25_10 := yb BK144.out 10
    go_wp2
    go_meet
    case rel => exact ⟨_, (true), (by first | rfl | (simp; done) | (simp [*]; done)), H', ⟨by first | omega | exact Nat.le_refl _⟩, ⟨by (with_reducible repeat (first | refine yh ?_ _ | refine yj ?_ | refine yi ?_ _)); exact BK143.out⟩, ⟨by (with_reducible repeat (first | refine yh ?_ _ | refine yj ?_ | refine yi ?_ _)); exact BK144.out⟩, ⟨by repeat (first | (with_reducible first | exact HB.out | apply yd | apply ye | apply yf | refine yg ?_ GE143.out | refine yg ?_ GE144.out) | exact HB.out)⟩⟩
  ·rw [if_neg c6] at H
   have c6b0 : (a0_0 == a1_0) = false := beq_eq_false_iff_ne.mpr c6
   have c6b1 : (a0_0 != a1_0) = true := bne_iff_ne.mpr c6
   (first | rw [c6b0] | (simp only [i64_w, i32_w]; rw [c6b0]) | skip)
   have H' := yc H
   clear H
   have hnb26 := NB143_144.out
   have hnc26 := NB144_143.out
   have hcz27_0 : w5.cell? ⟨gb143, 0, none⟩ = some (.int .i64 a0_0) := (ya BK143.out 0).trans rfl
   have hcz27_1 : w5.cell? ⟨gb143, 1, none⟩ = some (.slice A0_1 l0_1.length c0_1) := (ya BK143.out 1).trans rfl
   have hcz27_2 : w5.cell? ⟨gb143, 2, none⟩ = some (.slice A0_2 l0_2.length c0_2) := (ya BK143.out 2).trans rfl
   have hcz27_3 : w5.cell? ⟨gb143, 3, none⟩ = some (.int .i64 a0_3) := (ya BK143.out 3).trans rfl
   have hcz27_4 : w5.cell? ⟨gb143, 4, none⟩ = some (.int .i64 a0_4) := (ya BK143.out 4).trans rfl
   have hcz27_5 : w5.cell? ⟨gb143, 5, none⟩ = some (.int .i64 a0_5) := (ya BK143.out 5).trans rfl
   have hcz27_6 : w5.cell? ⟨gb143, 6, none⟩ = some (.int .i64 a0_6) := (ya BK143.out 6).trans rfl
   have hcz27_7 : w5.cell? ⟨gb143, 7, none⟩ = some (.int .i64 a0_7) := (ya BK143.out 7).trans rfl
   have hcz27_8 : w5.cell? ⟨gb143, 8, none⟩ = some (.int .i64 a0_8) := (ya BK143.out 8).trans rfl
   have hcz27_9 : w5.cell? ⟨gb143, 9, none⟩ = some (.int .i64 a0_9) := (ya BK143.out 9).trans rfl
   have hcz27_10 : w5.cell? ⟨gb143, 10, none⟩ = some (.slice A0_10 l0_10.length c0_10) := (ya BK143.out 10).trans rfl
   have hfz27_0 := yb BK143.out 0
   have hfz27_1 := yb BK143.out 1
   have hfz27_2 := yb BK143.out 2
   have hfz27_3 := yb BK143.out 3
   have hfz27_4 := yb BK143.out 4
   have hfz27_5 := yb BK143.out 5
   have hfz27_6 := yb BK143.out 6
   have hfz27_7 := yb BK143.out 7
   have hfz27_8 := yb BK143.out 8
   have hfz27_9 := yb BK143.out 9
   have hfz27_10 := yb BK143.out 10
   have hcz28_0 : w5.cell? ⟨gb144, 0, none⟩ = some (.int .i64 a1_0) := (ya BK144.out 0).trans rfl
   have hcz28_1 : w5.cell? ⟨gb144, 1, none⟩ = some (.slice A1_1 l1_1.length c1_1) := (ya BK144.out 1).trans rfl
   have hcz28_2 : w5.cell? ⟨gb144, 2, none⟩ = some (.slice A1_2 l1_2.length c1_2) := (ya BK144.out 2).trans rfl
   have hcz28_3 : w5.cell? ⟨gb144, 3, none⟩ = some (.int .i64 a1_3) := (ya BK144.out 3).trans rfl
   have hcz28_4 : w5.cell? ⟨gb144, 4, none⟩ = some (.int .i64 a1_4) := (ya BK144.out 4).trans rfl
   have hcz28_5 : w5.cell? ⟨gb144, 5, none⟩ = some (.int .i64 a1_5) := (ya BK144.out 5).trans rfl
   have hcz28_6 : w5.cell? ⟨gb144, 6, none⟩ = some (.int .i64 a1_6) := (ya BK144.out 6).trans rfl
   have hcz28_7 : w5.cell? ⟨gb144, 7, none⟩ = some (.int .i64 a1_7) := (ya BK144.out 7).trans rfl
   have hcz28_8 : w5.cell? ⟨gb144, 8, none⟩ = some (.int .i64 a1_8) := (ya BK144.out 8).trans rfl
   have hcz28_9 : w5.cell? ⟨gb144, 9, none⟩ = some (.int .i64 a1_9) := (ya BK144.out 9).trans rfl
   have hcz28_10 : w5.cell? ⟨gb144, 10, none⟩ = some (.slice A1_10 l1_10.length c1_10) := (ya BK144.out 10).trans rfl
   have hfz28_0 := yb BK144.out 0
   have hfz28_1 := yb BK144.out 1
   have hfz28_2 := yb BK144.out 2
   have hfz28_3 := yb BK144.out 3
   have hfz28_4 := yb BK144.out 4
   have hfz28_5 := yb BK144.out 5
   have hfz28_6 := yb BK144.out 6
   have hfz28_7 := yb BK144.out 7
   have hfz28_8 := yb BK144.out 8
   have hfz28_9 := yb BK144.out 9
   have hfz28_10 := yb BK144.out 10
   go_wp2
   go_meet
   case rel => exact ⟨_, (true), (by first | rfl | (simp; done) | (simp [*]; done)), H', ⟨by first | omega | exact Nat.le_refl _⟩, ⟨by (with_reducible repeat (first | refine yh ?_ _ | refine yj ?_ | refine yi ?_ _)); exact BK143.out⟩, ⟨by (with_reducible repeat (first | refine yh ?_ _ | refine yj ?_ | refine yi ?_ _)); exact BK144.out⟩, ⟨by repeat (first | (with_reducible first | exact HB.out | apply yd | apply ye | apply yf | refine yg ?_ GE143.out | refine yg ?_ GE144.out) | exact HB.out)⟩⟩
 case rest =>
  clear HC3
  try clear c1; try clear c2; try clear p2; try clear c6; try clear c6b0; try clear c6b1; try clear c7; try clear c7b0; try clear c7b1; try clear c8; try clear c8b0; try clear c9; try clear c12; try clear c12b0; try clear c12b1; try clear c12b2; try clear c13; try clear c13b0; try clear c13b1; try clear c13b2; try clear c14; try clear c17; try clear c20; try clear c23; try clear c25; try clear c26; try clear hcz10_0; try clear hcz10_1; try clear hcz10_10; try clear hcz10_2; try clear hcz10_3; try clear hcz10_4; try clear hcz10_5; try clear hcz10_6; try clear hcz10_7; try clear hcz10_8; try clear hcz10_9; try clear hcz11_0; try clear hcz11_1; try clear hcz11_10; try clear hcz11_2; try clear hcz11_3; try clear hcz11_4; try clear hcz11_5; try clear hcz11_6; try clear hcz11_7; try clear hcz11_8; try clear hcz11_9; try clear hcz15_0; try clear hcz15_1; try clear hcz15_10; try clear hcz15_2; try clear hcz15_3; try clear hcz15_4; try clear hcz15_5; try clear hcz15_6; try clear hcz15_7; try clear hcz15_8; try clear hcz15_9; try clear hcz16_0; try clear hcz16_1; try clear hcz16_10; try clear hcz16_2; try clear hcz16_3; try clear hcz16_4; try clear hcz16_5; try clear hcz16_6; try clear hcz16_7; try clear hcz16_8; try clear hcz16_9; try clear hcz18_0; try clear hcz18_1; try clear hcz18_10; try clear hcz18_2; try clear hcz18_3; try clear hcz18_4; try clear hcz18_5; try clear hcz18_6; try clear hcz18_7; try clear hcz18_8; try clear hcz18_9; try clear hcz19_0; try clear hcz19_1; try clear hcz19_10; try clear hcz19_2; try clear hcz19_3; try clear hcz19_4; try clear hcz19_5; try clear hcz19_6; try clear hcz19_7; try clear hcz19_8; try clear hcz19_9; try clear hcz21_0; try clear hcz21_1; try clear hcz21_10; try clear hcz21_2; try clear hcz21_3; try clear hcz21_4; try clear hcz21_5; try clear hcz21_6; try clear hcz21_7; try clear hcz21_8; try clear hcz21_9; try clear hcz22_0; try clear hcz22_1; try clear hcz22_10; try clear hcz22_2; try clear hcz22_3; try clear hcz22_4; try clear hcz22_5; try clear hcz22_6; try clear hcz22_7; try clear hcz22_8; try clear hcz22_9; try clear hcz24_0; try clear hcz24_1; try clear hcz24_10; try clear hcz24_2; try clear hcz24_3; try clear hcz24_4; try clear hcz24_5; try clear hcz24_6; try clear hcz24_7; try clear hcz24_8; try clear hcz24_9; try clear hcz25_0; try clear hcz25_1; try clear hcz25_10; try clear hcz25_2; try clear hcz25_3; try clear hcz25_4; try clear hcz25_5; try clear hcz25_6; try clear hcz25_7; try clear hcz25_8; try clear hcz25_9; try clear hcz27_0; try clear hcz27_1; try clear hcz27_10; try clear hcz27_2; try clear hcz27_3; try clear hcz27_4; try clear hcz27_5; try clear hcz27_6; try clear hcz27_7; try clear hcz27_8; try clear hcz27_9; try clear hcz28_0; try clear hcz28_1; try clear hcz28_10; try clear hcz28_2; try clear hcz28_3; try clear hcz28_4; try clear hcz28_5; try clear hcz28_6; try clear hcz28_7; try clear hcz28_8; try clear hcz28_9; try clear hfz10_0; try clear hfz10_1; try clear hfz10_10; try clear hfz10_2; try clear hfz10_3
  try clear hfz10_4; try clear hfz10_5; try clear hfz10_6; try clear hfz10_7; try clear hfz10_8; try clear hfz10_9; try clear hfz11_0; try clear hfz11_1; try clear hfz11_10; try clear hfz11_2; try clear hfz11_3; try clear hfz11_4; try clear hfz11_5; try clear hfz11_6; try clear hfz11_7; try clear hfz11_8; try clear hfz11_9; try clear hfz15_0; try clear hfz15_1; try clear hfz15_10; try clear hfz15_2; try clear hfz15_3; try clear hfz15_4; try clear hfz15_5; try clear hfz15_6; try clear hfz15_7; try clear hfz15_8; try clear hfz15_9; try clear hfz16_0; try clear hfz16_1; try clear hfz16_10; try clear hfz16_2; try clear hfz16_3; try clear hfz16_4; try clear hfz16_5; try clear hfz16_6; try clear hfz16_7; try clear hfz16_8; try clear hfz16_9; try clear hfz18_0; try clear hfz18_1; try clear hfz18_10; try clear hfz18_2; try clear hfz18_3; try clear hfz18_4; try clear hfz18_5; try clear hfz18_6; try clear hfz18_7; try clear hfz18_8; try clear hfz18_9; try clear hfz19_0; try clear hfz19_1; try clear hfz19_10; try clear hfz19_2; try clear hfz19_3; try clear hfz19_4; try clear hfz19_5; try clear hfz19_6; try clear hfz19_7; try clear hfz19_8; try clear hfz19_9; try clear hfz21_0; try clear hfz21_1; try clear hfz21_10; try clear hfz21_2; try clear hfz21_3; try clear hfz21_4; try clear hfz21_5; try clear hfz21_6; try clear hfz21_7; try clear hfz21_8; try clear hfz21_9; try clear hfz22_0; try clear hfz22_1; try clear hfz22_10; try clear hfz22_2; try clear hfz22_3; try clear hfz22_4; try clear hfz22_5; try clear hfz22_6; try clear hfz22_7; try clear hfz22_8; try clear hfz22_9; try clear hfz24_0; try clear hfz24_1; try clear hfz24_10; try clear hfz24_2; try clear hfz24_3; try clear hfz24_4; try clear hfz24_5; try clear hfz24_6; try clear hfz24_7; try clear hfz24_8; try clear hfz24_9; try clear hfz25_0; try clear hfz25_1; try clear hfz25_10; try clear hfz25_2; try clear hfz25_3; try clear hfz25_4; try clear hfz25_5; try clear hfz25_6; try clear hfz25_7; try clear hfz25_8; try clear hfz25_9; try clear hfz27_0; try clear hfz27_1; try clear hfz27_10; try clear hfz27_2; try clear hfz27_3; try clear hfz27_4; try clear hfz27_5; try clear hfz27_6; try clear hfz27_7; try clear hfz27_8; try clear hfz27_9; try clear hfz28_0; try clear hfz28_1; try clear hfz28_10; try clear hfz28_2; try clear hfz28_3; try clear hfz28_4; try clear hfz28_5; try clear hfz28_6; try clear hfz28_7; try clear hfz28_8; try clear hfz28_9
  obtain ⟨kq, x53_2, rfl, HA, HJ2, BK143, BK144, HB⟩ := hcut
  cases kq with
  | zero => exact absurd HA.out (by simp [job_Same.j0])
  | succ kj2 =>
   have H := HA.out
   clear HA
   simp only [job_Same.j0] at H
   by_cases c29 : x53_2 = true
   ·subst c29
    have H1 : (some false) = some r := by rw [if_pos rfl] at H; exact H
    clear H
    have H := H1
    clear H1
    obtain rfl := Option.some.inj H
    go_wp2
    go_ret
    exact ⟨by first | rfl | (simp [errW_none, errW_some] <;> rfl) | (simp [*, errW_none, errW_some] <;> rfl), by repeat (first | (with_reducible first | exact HB.out | apply yd | apply ye | apply yf | refine yg ?_ GE143.out | refine yg ?_ GE144.out) | exact HB.out)⟩
   ·replace c29 := Bool.eq_false_iff.mpr c29
    subst c29
    have H1 : (job_Same.l0 kj2 (l0_1.length : Int) 0 a0_0 l0_1 l0_2 a0_3 a0_4 a0_5 a0_6 a0_7 a0_8 a0_9 l0_10 a1_0 l1_1 l1_2 a1_3 a1_4 a1_5 a1_6 a1_7 a1_8 a1_9 l1_10) = some r := by rw [if_neg (show ¬ (false = true) by decide)] at H; exact H
    clear H
    have H := H1
    clear H1
    have H' := yc H
    clear H
    have hnb30 := NB143_144.out
    have hnc30 := NB144_143.out
    have hcz31_0 : wc.cell? ⟨gb143, 0, none⟩ = some (.int .i64 a0_0) := (ya BK143.out 0).trans rfl
    have hcz31_1 : wc.cell? ⟨gb143, 1, none⟩ = some (.slice A0_1 l0_1.length c0_1) := (ya BK143.out 1).trans rfl
    have hcz31_2 : wc.cell? ⟨gb143, 2, none⟩ = some (.slice A0_2 l0_2.length c0_2) := (ya BK143.out 2).trans rfl
    have hcz31_3 : wc.cell? ⟨gb143, 3, none⟩ = some (.int .i64 a0_3) := (ya BK143.out 3).trans rfl
    have hcz31_4 : wc.cell? ⟨gb143, 4, none⟩ = some (.int .i64 a0_4) := (ya BK143.out 4).trans rfl
    have hcz31_5 : wc.cell? ⟨gb143, 5, none⟩ = some (.int .i64 a0_5) := (ya BK143.out 5).trans rfl
    have hcz31_6 : wc.cell? ⟨gb143, 6, none⟩ = some (.int .i64 a0_6) := (ya BK143.out 6).trans rfl
    have hcz31_7 : wc.cell? ⟨gb143, 7, none⟩ = some (.int .i64 a0_7) := (ya BK143.out 7).trans rfl
    have hcz31_8 : wc.cell? ⟨gb143, 8, none⟩ = some (.int .i64 a0_8) := (ya BK143.out 8).trans rfl
    have hcz31_9 : wc.cell? ⟨gb143, 9, none⟩ = some (.int .i64 a0_9) := (ya BK143.out 9).trans rfl
    have hcz31_10 : wc.cell? ⟨gb143, 10, none⟩ = some (.slice A0_10 l0_10.length c0_10) := (ya BK143.out 10).trans rfl
    have hfz31_0 := yb BK143.out 0
    have hfz31_1 := yb BK143.out 1
    have hfz31_2 := yb BK143.out 2
    have hfz31_3 := yb BK143.out 3
    have hfz31_4 := yb BK143.out 4
    have hfz31_5 := yb BK143.out 5
    have hfz31_6 := yb BK143.out 6
    have hfz31_7 := yb BK143.out 7
    have hfz31_8 := yb BK143.out 8
    have hfz31_9 := yb BK143.out 9
    have hfz31_10 := yb BK143.out 10
    go_wp2
    go_loopg [57] kj2 (fun kq v57 w' => ∃ (x57_2 : Int), v57 = .int .i64 x57_2 ∧ Aside0 (job_Same.l0 kq (l0_1.length : Int) x57_2 a0_0 l0_1 l0_2 a0_3 a0_4 a0_5 a0_6 a0_7 a0_8 a0_9 l0_10 a1_0 l1_1 l1_2 a1_3 a1_4 a1_5 a1_6 a1_7 a1_8 a1_9 l1_10 = some r) ∧ Aside0 (kq ≤ kj2) ∧ Aside0 (w'.heap[gb143]? = some (.cells #[.int .i64 a0_0, (.slice A0_1 l0_1.length c0_1), (.slice A0_2 l0_2.length c0_2), .int .i64 a0_3, .int .i64 a0_4, .int .i64 a0_5, .int .i64 a0_6, .int .i64 a0_7, .int .i64 a0_8, .int .i64 a0_9, (.slice A0_10 l0_10.length c0_10)] 29 (0, 0))) ∧ Aside0 (w'.heap[gb144]? = some (.cells #[.int .i64 a1_0, (.slice A1_1 l1_1.length c1_1), (.slice A1_2 l1_2.length c1_2), .int .i64 a1_3, .int .i64 a1_4, .int .i64 a1_5, .int .i64 a1_6, .int .i64 a1_7, .int .i64 a1_8, .int .i64 a1_9, (.slice A1_10 l1_10.length c1_10)] 29 (0, 0))) ∧ Aside0 (Below w.heap.size w w'))
    case atStart => exact ⟨(0), (by first | rfl | (simp; done) | (simp [*]; done)), H', ⟨Nat.le_refl _⟩, ⟨by (with_reducible repeat (first | refine yh ?_ _ | refine yj ?_ | refine yi ?_ _)); exact BK143.out⟩, ⟨by (with_reducible repeat (first | refine yh ?_ _ | refine yj ?_ | refine yi ?_ _)); exact BK144.out⟩, ⟨by repeat (first | (with_reducible first | exact HB.out | apply yd | apply ye | apply yf | refine yg ?_ GE143.out | refine yg ?_ GE144.out) | exact HB.out)⟩⟩
    case round =>
     clear H'
     try clear c1; try clear c2; try clear p2; try clear c3; try clear c6; try clear c6b0; try clear c6b1; try clear c7; try clear c7b0; try clear c7b1; try clear c8; try clear c8b0; try clear c9; try clear c12; try clear c12b0; try clear c12b1; try clear c12b2; try clear c13; try clear c13b0; try clear c13b1; try clear c13b2; try clear c14; try clear c17; try clear c20; try clear c23; try clear c25; try clear c26; try clear c29; try clear c30; try clear hcz10_0; try clear hcz10_1; try clear hcz10_10; try clear hcz10_2; try clear hcz10_3; try clear hcz10_4; try clear hcz10_5; try clear hcz10_6; try clear hcz10_7; try clear hcz10_8; try clear hcz10_9; try clear hcz11_0; try clear hcz11_1; try clear hcz11_10; try clear hcz11_2; try clear hcz11_3; try clear hcz11_4; try clear hcz11_5; try clear hcz11_6; try clear hcz11_7; try clear hcz11_8; try clear hcz11_9; try clear hcz15_0; try clear hcz15_1; try clear hcz15_10; try clear hcz15_2; try clear hcz15_3; try clear hcz15_4; try clear hcz15_5; try clear hcz15_6; try clear hcz15_7; try clear hcz15_8; try clear hcz15_9; try clear hcz16_0; try clear hcz16_1; try clear hcz16_10; try clear hcz16_2; try clear hcz16_3; try clear hcz16_4; try clear hcz16_5; try clear hcz16_6; try clear hcz16_7; try clear hcz16_8; try clear hcz16_9; try clear hcz18_0; try clear hcz18_1; try clear hcz18_10; try clear hcz18_2; try clear hcz18_3; try clear hcz18_4; try clear hcz18_5; try clear hcz18_6; try clear hcz18_7; try clear hcz18_8; try clear hcz18_9; try clear hcz19_0; try clear hcz19_1; try clear hcz19_10; try clear hcz19_2; try clear hcz19_3; try clear hcz19_4; try clear hcz19_5; try clear hcz19_6; try clear hcz19_7; try clear hcz19_8; try clear hcz19_9; try clear hcz21_0; try clear hcz21_1; try clear hcz21_10; try clear hcz21_2; try clear hcz21_3; try clear hcz21_4; try clear hcz21_5; try clear hcz21_6; try clear hcz21_7; try clear hcz21_8; try clear hcz21_9; try clear hcz22_0; try clear hcz22_1; try clear hcz22_10; try clear hcz22_2; try clear hcz22_3; try clear hcz22_4; try clear hcz22_5; try clear hcz22_6; try clear hcz22_7; try clear hcz22_8; try clear hcz22_9; try clear hcz24_0; try clear hcz24_1; try clear hcz24_10; try clear hcz24_2; try clear hcz24_3; try clear hcz24_4; try clear hcz24_5; try clear hcz24_6; try clear hcz24_7; try clear hcz24_8; try clear hcz24_9; try clear hcz25_0; try clear hcz25_1; try clear hcz25_10; try clear hcz25_2; try clear hcz25_3; try clear hcz25_4; try clear hcz25_5; try clear hcz25_6; try clear hcz25_7; try clear hcz25_8; try clear hcz25_9; try clear hcz27_0; try clear hcz27_1; try clear hcz27_10; try clear hcz27_2; try clear hcz27_3; try clear hcz27_4; try clear hcz27_5; try clear hcz27_6; try clear hcz27_7; try clear hcz27_8; try clear hcz27_9; try clear hcz28_0; try clear hcz28_1; try clear hcz28_10; try clear hcz28_2; try clear hcz28_3; try clear hcz28_4; try clear hcz28_5; try clear hcz28_6; try clear hcz28_7; try clear hcz28_8; try clear hcz28_9; try clear hcz31_0; try clear hcz31_1
     try clear hcz31_10; try clear hcz31_2; try clear hcz31_3; try clear hcz31_4; try clear hcz31_5; try clear hcz31_6; try clear hcz31_7; try clear hcz31_8; try clear hcz31_9; try clear hfz10_0; try clear hfz10_1; try clear hfz10_10; try clear hfz10_2; try clear hfz10_3; try clear hfz10_4; try clear hfz10_5; try clear hfz10_6; try clear hfz10_7; try clear hfz10_8; try clear hfz10_9; try clear hfz11_0; try clear hfz11_1; try clear hfz11_10; try clear hfz11_2; try clear hfz11_3; try clear hfz11_4; try clear hfz11_5; try clear hfz11_6; try clear hfz11_7; try clear hfz11_8; try clear hfz11_9; try clear hfz15_0; try clear hfz15_1; try clear hfz15_10; try clear hfz15_2; try clear hfz15_3; try clear hfz15_4; try clear hfz15_5; try clear hfz15_6; try clear hfz15_7; try clear hfz15_8; try clear hfz15_9; try clear hfz16_0; try clear hfz16_1; try clear hfz16_10; try clear hfz16_2; try clear hfz16_3; try clear hfz16_4; try clear hfz16_5; try clear hfz16_6; try clear hfz16_7; try clear hfz16_8; try clear hfz16_9; try clear hfz18_0; try clear hfz18_1; try clear hfz18_10; try clear hfz18_2; try clear hfz18_3; try clear hfz18_4; try clear hfz18_5; try clear hfz18_6; try clear hfz18_7; try clear hfz18_8; try clear hfz18_9; try clear hfz19_0; try clear hfz19_1; try clear hfz19_10; try clear hfz19_2; try clear hfz19_3; try clear hfz19_4; try clear hfz19_5; try clear hfz19_6; try clear hfz19_7; try clear hfz19_8; try clear hfz19_9; try clear hfz21_0; try clear hfz21_1; try clear hfz21_10; try clear hfz21_2; try clear hfz21_3; try clear hfz21_4; try clear hfz21_5; try clear hfz21_6; try clear hfz21_7; try clear hfz21_8; try clear hfz21_9; try clear hfz22_0; try clear hfz22_1; try clear hfz22_10; try clear hfz22_2; try clear hfz22_3; try clear hfz22_4; try clear hfz22_5; try clear hfz22_6; try clear hfz22_7; try clear hfz22_8; try clear hfz22_9; try clear hfz24_0; try clear hfz24_1; try clear hfz24_10; try clear hfz24_2; try clear hfz24_3; try clear hfz24_4; try clear hfz24_5; try clear hfz24_6; try clear hfz24_7; try clear hfz24_8; try clear hfz24_9; try clear hfz25_0; try clear hfz25_1; try clear hfz25_10; try clear hfz25_2; try clear hfz25_3; try clear hfz25_4; try clear hfz25_5; try clear hfz25_6; try clear hfz25_7; try clear hfz25_8; try clear hfz25_9; try clear hfz27_0; try clear hfz27_1; try clear hfz27_10; try clear hfz27_2; try clear hfz27_3; try clear hfz27_4; try clear hfz27_5; try clear hfz27_6; try clear hfz27_7; try clear hfz27_8; try clear hfz27_9; try clear hfz28_0; try clear hfz28_1; try clear hfz28_10; try clear hfz28_2; try clear hfz28_3; try clear hfz28_4; try clear hfz28_5; try clear hfz28_6; try clear hfz28_7; try clear hfz28_8; try clear hfz28_9; try clear hfz31_0; try clear hfz31_1; try clear hfz31_10; try clear hfz31_2; try clear hfz31_3; try clear hfz31_4; try clear hfz31_5; try clear hfz31_6; try clear hfz31_7; try clear hfz31_8; try clear hfz31_9; try clear p2
     obtain ⟨x57_2, rfl, HA, HK2, BK143, BK144, HB⟩ := hrel
     cases gk with
     | zero => exact absurd HA.out (by simp [job_Same.l0])
     | succ k2 =>
      have H := HA.out
      clear HA
      simp only [job_Same.l0] at H
      by_cases c32 : x57_2 < (l0_1.length : Int)
      ·rw [if_pos c32] at H
       have c32b0 : decide (x57_2 < (l0_1.length : Int)) = true := decide_eq_true c32
       clear c32
       by_cases c33 : 0 ≤ x57_2
       ·rw [if_pos c33] at H
        have c33b0 : decide (0 ≤ x57_2) = true := decide_eq_true c33
        clear c33
        by_cases c34 : x57_2 < (l0_1.length : Int)
        ·rw [if_pos c34] at H
         have c34b0 : decide (x57_2 < (l0_1.length : Int)) = true := decide_eq_true c34
         clear c34
         by_cases c35 : x57_2 < (l1_1.length : Int)
         ·rw [if_pos c35] at H
          have c35b0 : decide (x57_2 < (l1_1.length : Int)) = true := decide_eq_true c35
          clear c35
          by_cases c36 : (!(((rd_T58 l0_1 x57_2).f0) == ((rd_T58 l1_1 x57_2).f0)) || (!(((rd_T58 l0_1 x57_2).f1) == ((rd_T58 l1_1 x57_2).f1)))) = true
          ·rw [if_pos c36] at H
           have c36b0 : (!(((rd_T58 l0_1 x57_2).f0) == ((rd_T58 l1_1 x57_2).f0)) || (!(((rd_T58 l0_1 x57_2).f1) == ((rd_T58 l1_1 x57_2).f1)))) = true := c36
           clear c36
           obtain rfl := Option.some.inj H
           try go_wp2
           have n0_ := yc (yj BK143.out)
           have n1_ := yc (yj BK144.out)
           have n2_ := yc (yf HB.out)
           clear BK143
           clear BK144
           clear HB
           have BK143 := n0_
           have BK144 := n1_
           have HB := n2_
           clear n0_ n1_ n2_
           have p145 : 0 ≤ (x57_2 : Int) := of_decide_eq_true (by first | (with_reducible assumption) | assumption)
           have q145 : x57_2 < (l0_1.length : Int) := of_decide_eq_true (by first | (with_reducible assumption) | assumption)
           obtain ⟨ad145, e145, hx145_0, hx145_1⟩ := at_T58 HR0_1.out x57_2 p145 q145
           have hw145_1 := hx145_1
           have hw145_0 := hx145_0
           cases e145
           replace hx145_0 := (HB.out.cell (yk w _ hx145_0)).trans hx145_0
           replace hx145_1 := (HB.out.cell (yk w _ hx145_1)).trans hx145_1
           replace p145 := eq_true p145
           replace q145 := eq_true q145
           have p146 : 0 ≤ (x57_2 : Int) := of_decide_eq_true (by first | (with_reducible assumption) | assumption)
           have q146 : x57_2 < (l1_1.length : Int) := of_decide_eq_true (by first | (with_reducible assumption) | assumption)
           obtain ⟨ad146, e146, hx146_0, hx146_1⟩ := at_T58 HR1_1.out x57_2 p146 q146
           have hw146_1 := hx146_1
           have hw146_0 := hx146_0
           cases e146
           replace hx146_0 := (HB.out.cell (yk w _ hx146_0)).trans hx146_0
           replace hx146_1 := (HB.out.cell (yk w _ hx146_1)).trans hx146_1
           replace p146 := eq_true p146
           replace q146 := eq_true q146
           refine start_ (n := 11) (S := fun w' => w'.cell? ⟨gb143, 0, none⟩ = some (.int .i64 a0_0) ∧ w'.cell? ⟨gb143, 1, none⟩ = some (.slice (some ad145) l0_1.length c0_1) ∧ w'.cell? ⟨gb143, 2, none⟩ = some (.slice A0_2 l0_2.length c0_2) ∧ w'.cell? ⟨gb143, 3, none⟩ = some (.int .i64 a0_3) ∧ w'.cell? ⟨gb143, 4, none⟩ = some (.int .i64 a0_4) ∧ w'.cell? ⟨gb143, 5, none⟩ = some (.int .i64 a0_5) ∧ w'.cell? ⟨gb143, 6, none⟩ = some (.int .i64 a0_6) ∧ w'.cell? ⟨gb143, 7, none⟩ = some (.int .i64 a0_7) ∧ w'.cell? ⟨gb143, 8, none⟩ = some (.int .i64 a0_8) ∧ w'.cell? ⟨gb143, 9, none⟩ = some (.int .i64 a0_9) ∧ w'.cell? ⟨gb143, 10, none⟩ = some (.slice A0_10 l0_10.length c0_10) ∧ w'.cell? ⟨gb144, 0, none⟩ = some (.int .i64 a1_0) ∧ w'.cell? ⟨gb144, 1, none⟩ = some (.slice (some ad146) l1_1.length c1_1) ∧ w'.cell? ⟨gb144, 2, none⟩ = some (.slice A1_2 l1_2.length c1_2) ∧ w'.cell? ⟨gb144, 3, none⟩ = some (.int .i64 a1_3) ∧ w'.cell? ⟨gb144, 4, none⟩ = some (.int .i64 a1_4) ∧ w'.cell? ⟨gb144, 5, none⟩ = some (.int .i64 a1_5) ∧ w'.cell? ⟨gb144, 6, none⟩ = some (.int .i64 a1_6) ∧ w'.cell? ⟨gb144, 7, none⟩ = some (.int .i64 a1_7) ∧ w'.cell? ⟨gb144, 8, none⟩ = some (.int .i64 a1_8) ∧ w'.cell? ⟨gb144, 9, none⟩ = some (.int .i64 a1_9) ∧ w'.cell? ⟨gb144, 10, none⟩ = some (.slice A1_10 l1_10.length c1_10) ∧ w'.cell? (ad145.add ((x57_2).toNat * 2)) = some (.int .i64 ((rd_T58 l0_1 x57_2).f0)) ∧ w'.cell? ⟨(ad145.add ((x57_2).toNat * 2)).block, (ad145.add ((x57_2).toNat * 2)).off + 1, none⟩ = some (.int .i64 ((rd_T58 l0_1 x57_2).f1)) ∧ w'.cell? (ad146.add ((x57_2).toNat * 2)) = some (.int .i64 ((rd_T58 l1_1 x57_2).f0)) ∧ w'.cell? ⟨(ad146.add ((x57_2).toNat * 2)).block, (ad146.add ((x57_2).toNat * 2)).off + 1, none⟩ = some (.int .i64 ((rd_T58 l1_1 x57_2).f1))) (ds := []) #[false, false, false, false, false, false, false, false, false, false, false] (by kernel_rfl) rfl rfl ⟨(ya BK143.out 0).trans rfl, (ya BK143.out 1).trans rfl, (ya BK143.out 2).trans rfl, (ya BK143.out 3).trans rfl, (ya BK143.out 4).trans rfl, (ya BK143.out 5).trans rfl, (ya BK143.out 6).trans rfl, (ya BK143.out 7).trans rfl, (ya BK143.out 8).trans rfl, (ya BK143.out 9).trans rfl, (ya BK143.out 10).trans rfl, (ya BK144.out 0).trans rfl, (ya BK144.out 1).trans rfl, (ya BK144.out 2).trans rfl, (ya BK144.out 3).trans rfl, (ya BK144.out 4).trans rfl, (ya BK144.out 5).trans rfl, (ya BK144.out 6).trans rfl, (ya BK144.out 7).trans rfl, (ya BK144.out 8).trans rfl, (ya BK144.out 9).trans rfl, (ya BK144.out 10).trans rfl, ((HB.out.cell (yk w _ hw145_0)).trans hw145_0), ((HB.out.cell (yk w _ hw145_1)).trans hw145_1), ((HB.out.cell (yk w _ hw146_0)).trans hw146_0), ((HB.out.cell (yk w _ hw146_1)).trans hw146_1)⟩ (fun hHeld => ?_); refine with_tabW job_Same.tab6 job_Same.bits6 (fun HT_ HW_ => ?_)
           generalize wr.drew = w37 at BK143 BK144 HB hx145_0 hx145_1 hx146_0 hx146_1 hHeld ⊢
           refine pure_ (i := 0) (N := some 60) (v := ?_) (a' := ?_) #[true, false, false, false, false, false, false, false, false, false, false] rfl rfl (any_of HT_.out (by kernel_rfl)) (fun _ _ _ h => h) (Or.inl ⟨by rfl, ?_⟩) ?_ ?_
           rotate_left
           ·intro w'
            go_simp
            with_reducible rfl
           rotate_left
           ·simp only [Act.put, List.setIfInBounds_toArray, List.set_cons_zero, List.set_cons_succ, i64_w, i32_w]
            rfl
           refine pure_ (i := 2) (N := some 62) (v := ?_) (a' := ?_) #[true, false, true, false, false, false, false, false, false, false, false] rfl rfl (any_of HT_.out (by kernel_rfl)) (fun _ _ _ h => h) (Or.inl ⟨by rfl, ?_⟩) ?_ ?_
           rotate_left
           ·intro w'
            go_simp
            with_reducible rfl
           rotate_left
           ·simp only [Act.put, List.setIfInBounds_toArray, List.set_cons_zero, List.set_cons_succ, i64_w, i32_w]
            rfl
           refine pure_ (i := 5) (N := some 65) (v := ?_) (a' := ?_) #[true, false, true, false, false, true, false, false, false, false, false] rfl rfl (any_of HT_.out (by kernel_rfl)) (fun _ _ _ h => h) (Or.inl ⟨by rfl, ?_⟩) ?_ ?_
           rotate_left
           ·intro w'
            go_simp
            with_reducible rfl
           rotate_left
           ·simp only [Act.put, List.setIfInBounds_toArray, List.set_cons_zero, List.set_cons_succ, i64_w, i32_w]
            rfl
           refine pure_ (i := 7) (N := some 67) (v := ?_) (a' := ?_) #[true, false, true, false, false, true, false, true, false, false, false] rfl rfl (any_of HT_.out (by kernel_rfl)) (fun _ _ _ h => h) (Or.inl ⟨by rfl, ?_⟩) ?_ ?_
           rotate_left
           ·intro w'
            go_simp
            with_reducible rfl
           rotate_left
           ·simp only [Act.put, List.setIfInBounds_toArray, List.set_cons_zero, List.set_cons_succ, i64_w, i32_w]
            rfl
           refine take_ (i := 1) (N := some 61) (v := ?_) (a' := ?_) #[true, true, true, false, false, true, false, true, false, false, false] rfl rfl (take_ofW HT_.out HW_.out (by kernel_rfl)) (fun _ _ _ h => h) (Or.inl ⟨by rfl, ?_⟩) hHeld ?_ ?_
           rotate_left
           ·rintro w' ⟨s0, s1, s2, s3, s4, s5, s6, s7, s8, s9, s10, s11, s12, s13, s14, s15, s16, s17, s18, s19, s20, s21, s22, s23, s24, s25⟩
            go_simp
            with_reducible rfl
           rotate_left
           ·simp only [Act.put, List.setIfInBounds_toArray, List.set_cons_zero, List.set_cons_succ, i64_w, i32_w]
            rfl
           refine pure_ (i := 3) (N := some 63) (v := ?_) (a' := ?_) #[true, true, true, true, false, true, false, true, false, false, false] rfl rfl (any_of HT_.out (by kernel_rfl)) (fun _ _ _ h => h) (Or.inl ⟨by rfl, ?_⟩) ?_ ?_
           rotate_left
           ·intro w'
            go_simp
            with_reducible rfl
           rotate_left
           ·simp only [Act.put, List.setIfInBounds_toArray, List.set_cons_zero, List.set_cons_succ, i64_w, i32_w]
            rfl
           refine take_ (i := 4) (N := some 64) (v := ?_) (a' := ?_) #[true, true, true, true, true, true, false, true, false, false, false] rfl rfl (take_ofW HT_.out HW_.out (by kernel_rfl)) (fun _ _ _ h => h) (Or.inl ⟨by rfl, ?_⟩) hHeld ?_ ?_
           rotate_left
           ·rintro w' ⟨s0, s1, s2, s3, s4, s5, s6, s7, s8, s9, s10, s11, s12, s13, s14, s15, s16, s17, s18, s19, s20, s21, s22, s23, s24, s25⟩
            go_simp
            with_reducible rfl
           rotate_left
           ·simp only [Act.put, List.setIfInBounds_toArray, List.set_cons_zero, List.set_cons_succ, i64_w, i32_w]
            rfl
           refine take_ (i := 6) (N := some 66) (v := ?_) (a' := ?_) #[true, true, true, true, true, true, true, true, false, false, false] rfl rfl (take_ofW HT_.out HW_.out (by kernel_rfl)) (fun _ _ _ h => h) (Or.inl ⟨by rfl, ?_⟩) hHeld ?_ ?_
           rotate_left
           ·rintro w' ⟨s0, s1, s2, s3, s4, s5, s6, s7, s8, s9, s10, s11, s12, s13, s14, s15, s16, s17, s18, s19, s20, s21, s22, s23, s24, s25⟩
            go_simp
            with_reducible rfl
           rotate_left
           ·simp only [Act.put, List.setIfInBounds_toArray, List.set_cons_zero, List.set_cons_succ, i64_w, i32_w]
            rfl
           refine pure_ (i := 8) (N := some 68) (v := ?_) (a' := ?_) #[true, true, true, true, true, true, true, true, true, false, false] rfl rfl (any_of HT_.out (by kernel_rfl)) (fun _ _ _ h => h) (Or.inl ⟨by rfl, ?_⟩) ?_ ?_
           rotate_left
           ·intro w'
            go_simp
            with_reducible rfl
           rotate_left
           ·simp only [Act.put, List.setIfInBounds_toArray, List.set_cons_zero, List.set_cons_succ, i64_w, i32_w]
            rfl
           refine take_ (i := 9) (N := some 69) (v := ?_) (a' := ?_) #[true, true, true, true, true, true, true, true, true, true, false] rfl rfl (take_ofW HT_.out HW_.out (by kernel_rfl)) (fun _ _ _ h => h) (Or.inl ⟨by rfl, ?_⟩) hHeld ?_ ?_
           rotate_left
           ·rintro w' ⟨s0, s1, s2, s3, s4, s5, s6, s7, s8, s9, s10, s11, s12, s13, s14, s15, s16, s17, s18, s19, s20, s21, s22, s23, s24, s25⟩
            go_simp
            with_reducible rfl
           rotate_left
           ·simp only [Act.put, List.setIfInBounds_toArray, List.set_cons_zero, List.set_cons_succ, i64_w, i32_w]
            rfl
           refine pure_ (i := 10) (N := some 70) (v := ?_) (a' := ?_) #[true, true, true, true, true, true, true, true, true, true, true] rfl rfl (any_of HT_.out (by kernel_rfl)) (fun _ _ _ h => h) (Or.inl ⟨by rfl, ?_⟩) ?_ ?_
           rotate_left
           ·intro w'
            go_simp
            with_reducible rfl
           rotate_left
           ·simp only [Act.put, List.setIfInBounds_toArray, List.set_cons_zero, List.set_cons_succ, i64_w, i32_w]
            rfl
           refine done_ (done_of HT_.out (by kernel_rfl)) ?_
           try go_wp2
           go_ret
           exact ⟨by first | rfl | (simp [errW_none, errW_some] <;> rfl) | (simp [*, errW_none, errW_some] <;> rfl), by repeat (first | (with_reducible first | exact HB.out | apply yd | apply ye | apply yf | refine yg ?_ GE143.out | refine yg ?_ GE144.out) | exact HB.out)⟩
          ·rw [if_neg c36] at H
           have c36b0 : (!(((rd_T58 l0_1 x57_2).f0) == ((rd_T58 l1_1 x57_2).f0)) || (!(((rd_T58 l0_1 x57_2).f1) == ((rd_T58 l1_1 x57_2).f1)))) = false := by simpa using c36
           clear c36
           have H' := yc H
           clear H
           try go_wp2
           have n0_ := yc (yj BK143.out)
           have n1_ := yc (yj BK144.out)
           have n2_ := yc (yf HB.out)
           clear BK143
           clear BK144
           clear HB
           have BK143 := n0_
           have BK144 := n1_
           have HB := n2_
           clear n0_ n1_ n2_
           have p145 : 0 ≤ (x57_2 : Int) := of_decide_eq_true (by first | (with_reducible assumption) | assumption)
           have q145 : x57_2 < (l0_1.length : Int) := of_decide_eq_true (by first | (with_reducible assumption) | assumption)
           obtain ⟨ad145, e145, hx145_0, hx145_1⟩ := at_T58 HR0_1.out x57_2 p145 q145
           have hw145_1 := hx145_1
           have hw145_0 := hx145_0
           cases e145
           replace hx145_0 := (HB.out.cell (yk w _ hx145_0)).trans hx145_0
           replace hx145_1 := (HB.out.cell (yk w _ hx145_1)).trans hx145_1
           replace p145 := eq_true p145
           replace q145 := eq_true q145
           have p146 : 0 ≤ (x57_2 : Int) := of_decide_eq_true (by first | (with_reducible assumption) | assumption)
           have q146 : x57_2 < (l1_1.length : Int) := of_decide_eq_true (by first | (with_reducible assumption) | assumption)
           obtain ⟨ad146, e146, hx146_0, hx146_1⟩ := at_T58 HR1_1.out x57_2 p146 q146
           have hw146_1 := hx146_1
           have hw146_0 := hx146_0
           cases e146
           replace hx146_0 := (HB.out.cell (yk w _ hx146_0)).trans hx146_0
           replace hx146_1 := (HB.out.cell (yk w _ hx146_1)).trans hx146_1
           replace p146 := eq_true p146
           replace q146 := eq_true q146
           refine start_ (n := 11) (S := fun w' => w'.cell? ⟨gb143, 0, none⟩ = some (.int .i64 a0_0) ∧ w'.cell? ⟨gb143, 1, none⟩ = some (.slice (some ad145) l0_1.length c0_1) ∧ w'.cell? ⟨gb143, 2, none⟩ = some (.slice A0_2 l0_2.length c0_2) ∧ w'.cell? ⟨gb143, 3, none⟩ = some (.int .i64 a0_3) ∧ w'.cell? ⟨gb143, 4, none⟩ = some (.int .i64 a0_4) ∧ w'.cell? ⟨gb143, 5, none⟩ = some (.int .i64 a0_5) ∧ w'.cell? ⟨gb143, 6, none⟩ = some (.int .i64 a0_6) ∧ w'.cell? ⟨gb143, 7, none⟩ = some (.int .i64 a0_7) ∧ w'.cell? ⟨gb143, 8, none⟩ = some (.int .i64 a0_8) ∧ w'.cell? ⟨gb143, 9, none⟩ = some (.int .i64 a0_9) ∧ w'.cell? ⟨gb143, 10, none⟩ = some (.slice A0_10 l0_10.length c0_10) ∧ w'.cell? ⟨gb144, 0, none⟩ = some (.int .i64 a1_0) ∧ w'.cell? ⟨gb144, 1, none⟩ = some (.slice (some ad146) l1_1.length c1_1) ∧ w'.cell? ⟨gb144, 2, none⟩ = some (.slice A1_2 l1_2.length c1_2) ∧ w'.cell? ⟨gb144, 3, none⟩ = some (.int .i64 a1_3) ∧ w'.cell? ⟨gb144, 4, none⟩ = some (.int .i64 a1_4) ∧ w'.cell? ⟨gb144, 5, none⟩ = some (.int .i64 a1_5) ∧ w'.cell? ⟨gb144, 6, none⟩ = some (.int .i64 a1_6) ∧ w'.cell? ⟨gb144, 7, none⟩ = some (.int .i64 a1_7) ∧ w'.cell? ⟨gb144, 8, none⟩ = some (.int .i64 a1_8) ∧ w'.cell? ⟨gb144, 9, none⟩ = some (.int .i64 a1_9) ∧ w'.cell? ⟨gb144, 10, none⟩ = some (.slice A1_10 l1_10.length c1_10) ∧ w'.cell? (ad145.add ((x57_2).toNat * 2)) = some (.int .i64 ((rd_T58 l0_1 x57_2).f0)) ∧ w'.cell? ⟨(ad145.add ((x57_2).toNat * 2)).block, (ad145.add ((x57_2).toNat * 2)).off + 1, none⟩ = some (.int .i64 ((rd_T58 l0_1 x57_2).f1)) ∧ w'.cell? (ad146.add ((x57_2).toNat * 2)) = some (.int .i64 ((rd_T58 l1_1 x57_2).f0)) ∧ w'.cell? ⟨(ad146.add ((x57_2).toNat * 2)).block, (ad146.add ((x57_2).toNat * 2)).off + 1, none⟩ = some (.int .i64 ((rd_T58 l1_1 x57_2).f1))) (ds := []) #[false, false, false, false, false, false, false, false, false, false, false] (by kernel_rfl) rfl rfl ⟨(ya BK143.out 0).trans rfl, (ya BK143.out 1).trans rfl, (ya BK143.out 2).trans rfl, (ya BK143.out 3).trans rfl, (ya BK143.out 4).trans rfl, (ya BK143.out 5).trans rfl, (ya BK143.out 6).trans rfl, (ya BK143.out 7).trans rfl, (ya BK143.out 8).trans rfl, (ya BK143.out 9).trans rfl, (ya BK143.out 10).trans rfl, (ya BK144.out 0).trans rfl, (ya BK144.out 1).trans rfl, (ya BK144.out 2).trans rfl, (ya BK144.out 3).trans rfl, (ya BK144.out 4).trans rfl, (ya BK144.out 5).trans rfl, (ya BK144.out 6).trans rfl, (ya BK144.out 7).trans rfl, (ya BK144.out 8).trans rfl, (ya BK144.out 9).trans rfl, (ya BK144.out 10).trans rfl, ((HB.out.cell (yk w _ hw145_0)).trans hw145_0), ((HB.out.cell (yk w _ hw145_1)).trans hw145_1), ((HB.out.cell (yk w _ hw146_0)).trans hw146_0), ((HB.out.cell (yk w _ hw146_1)).trans hw146_1)⟩ (fun hHeld => ?_); refine with_tabW job_Same.tab6 job_Same.bits6 (fun HT_ HW_ => ?_)
           generalize wr.drew = w38 at BK143 BK144 HB hx145_0 hx145_1 hx146_0 hx146_1 hHeld ⊢
           refine pure_ (i := 0) (N := some 60) (v := ?_) (a' := ?_) #[true, false, false, false, false, false, false, false, false, false, false] rfl rfl (any_of HT_.out (by kernel_rfl)) (fun _ _ _ h => h) (Or.inl ⟨by rfl, ?_⟩) ?_ ?_
           rotate_left
           ·intro w'
            go_simp
            with_reducible rfl
           rotate_left
           ·simp only [Act.put, List.setIfInBounds_toArray, List.set_cons_zero, List.set_cons_succ, i64_w, i32_w]
            rfl
           refine pure_ (i := 2) (N := some 62) (v := ?_) (a' := ?_) #[true, false, true, false, false, false, false, false, false, false, false] rfl rfl (any_of HT_.out (by kernel_rfl)) (fun _ _ _ h => h) (Or.inl ⟨by rfl, ?_⟩) ?_ ?_
           rotate_left
           ·intro w'
            go_simp
            with_reducible rfl
           rotate_left
           ·simp only [Act.put, List.setIfInBounds_toArray, List.set_cons_zero, List.set_cons_succ, i64_w, i32_w]
            rfl
           refine pure_ (i := 5) (N := some 65) (v := ?_) (a' := ?_) #[true, false, true, false, false, true, false, false, false, false, false] rfl rfl (any_of HT_.out (by kernel_rfl)) (fun _ _ _ h => h) (Or.inl ⟨by rfl, ?_⟩) ?_ ?_
           rotate_left
           ·intro w'
            go_simp
            with_reducible rfl
           rotate_left
           ·simp only [Act.put, List.setIfInBounds_toArray, List.set_cons_zero, List.set_cons_succ, i64_w, i32_w]
            rfl
           refine pure_ (i := 7) (N := some 67) (v := ?_) (a' := ?_) #[true, false, true, false, false, true, false, true, false, false, false] rfl rfl (any_of HT_.out (by kernel_rfl)) (fun _ _ _ h => h) (Or.inl ⟨by rfl, ?_⟩) ?_ ?_
           rotate_left
           ·intro w'
            go_simp
            with_reducible rfl
           rotate_left
           ·simp only [Act.put, List.setIfInBounds_toArray, List.set_cons_zero, List.set_cons_succ, i64_w, i32_w]
            rfl
           refine take_ (i := 1) (N := some 61) (v := ?_) (a' := ?_) #[true, true, true, false, false, true, false, true, false, false, false] rfl rfl (take_ofW HT_.out HW_.out (by kernel_rfl)) (fun _ _ _ h => h) (Or.inl ⟨by rfl, ?_⟩) hHeld ?_ ?_
           rotate_left
           ·rintro w' ⟨s0, s1, s2, s3, s4, s5, s6, s7, s8, s9, s10, s11, s12, s13, s14, s15, s16, s17, s18, s19, s20, s21, s22, s23, s24, s25⟩
            go_simp
            with_reducible rfl
           rotate_left
           ·simp only [Act.put, List.setIfInBounds_toArray, List.set_cons_zero, List.set_cons_succ, i64_w, i32_w]
            rfl
           refine pure_ (i := 3) (N := some 63) (v := ?_) (a' := ?_) #[true, true, true, true, false, true, false, true, false, false, false] rfl rfl (any_of HT_.out (by kernel_rfl)) (fun _ _ _ h => h) (Or.inl ⟨by rfl, ?_⟩) ?_ ?_
           rotate_left
           ·intro w'
            go_simp
            with_reducible rfl
           rotate_left
           ·simp only [Act.put, List.setIfInBounds_toArray, List.set_cons_zero, List.set_cons_succ, i64_w, i32_w]
            rfl
           refine take_ (i := 4) (N := some 64) (v := ?_) (a' := ?_) #[true, true, true, true, true, true, false, true, false, false, false] rfl rfl (take_ofW HT_.out HW_.out (by kernel_rfl)) (fun _ _ _ h => h) (Or.inl ⟨by rfl, ?_⟩) hHeld ?_ ?_
           rotate_left
           ·rintro w' ⟨s0, s1, s2, s3, s4, s5, s6, s7, s8, s9, s10, s11, s12, s13, s14, s15, s16, s17, s18, s19, s20, s21, s22, s23, s24, s25⟩
            go_simp
            with_reducible rfl
           rotate_left
           ·simp only [Act.put, List.setIfInBounds_toArray, List.set_cons_zero, List.set_cons_succ, i64_w, i32_w]
            rfl
           refine take_ (i := 6) (N := some 66) (v := ?_) (a' := ?_) #[true, true, true, true, true, true, true, true, false, false, false] rfl rfl (take_ofW HT_.out HW_.out (by kernel_rfl)) (fun _ _ _ h => h) (Or.inl ⟨by rfl, ?_⟩) hHeld ?_ ?_
           rotate_left
           ·rintro w' ⟨s0, s1, s2, s3, s4, s5, s6, s7, s8, s9, s10, s11, s12, s13, s14, s15, s16, s17, s18, s19, s20, s21, s22, s23, s24, s25⟩
            go_simp
            with_reducible rfl
           rotate_left
           ·simp only [Act.put, List.setIfInBounds_toArray, List.set_cons_zero, List.set_cons_succ, i64_w, i32_w]
            rfl
           refine pure_ (i := 8) (N := some 68) (v := ?_) (a' := ?_) #[true, true, true, true, true, true, true, true, true, false, false] rfl rfl (any_of HT_.out (by kernel_rfl)) (fun _ _ _ h => h) (Or.inl ⟨by rfl, ?_⟩) ?_ ?_
           rotate_left
           ·intro w'
            go_simp
            with_reducible rfl
           rotate_left
           ·simp only [Act.put, List.setIfInBounds_toArray, List.set_cons_zero, List.set_cons_succ, i64_w, i32_w]
            rfl
           refine take_ (i := 9) (N := some 69) (v := ?_) (a' := ?_) #[true, true, true, true, true, true, true, true, true, true, false] rfl rfl (take_ofW HT_.out HW_.out (by kernel_rfl)) (fun _ _ _ h => h) (Or.inl ⟨by rfl, ?_⟩) hHeld ?_ ?_
           rotate_left
           ·rintro w' ⟨s0, s1, s2, s3, s4, s5, s6, s7, s8, s9, s10, s11, s12, s13, s14, s15, s16, s17, s18, s19, s20, s21, s22, s23, s24, s25⟩
            go_simp
            with_reducible rfl
           rotate_left
           ·simp only [Act.put, List.setIfInBounds_toArray, List.set_cons_zero, List.set_cons_succ, i64_w, i32_w]
            rfl
           refine pure_ (i := 10) (N := some 70) (v := ?_) (a' := ?_) #[true, true, true, true, true, true, true, true, true, true, true] rfl rfl (any_of HT_.out (by kernel_rfl)) (fun _ _ _ h => h) (Or.inl ⟨by rfl, ?_⟩) ?_ ?_
           rotate_left
           ·intro w'
            go_simp
            with_reducible rfl
           rotate_left
           ·simp only [Act.put, List.setIfInBounds_toArray, List.set_cons_zero, List.set_cons_succ, i64_w, i32_w]
            rfl
           refine done_ (done_of HT_.out (by kernel_rfl)) ?_
           try go_wp2
           go_roundg k2
           case measure => have := HJ2.out; have := HK2.out; omega
           case rel => exact ⟨(wrap64 (x57_2 + 1)), (by first | rfl | (simp; done) | (simp [*]; done)), H', ⟨by have := HJ2.out; have := HK2.out; omega⟩, ⟨by (with_reducible repeat (first | refine yh ?_ _ | refine yj ?_ | refine yi ?_ _)); exact BK143.out⟩, ⟨by (with_reducible repeat (first | refine yh ?_ _ | refine yj ?_ | refine yi ?_ _)); exact BK144.out⟩, ⟨by repeat (first | (with_reducible first | exact HB.out | apply yd | apply ye | apply yf | refine yg ?_ GE143.out | refine yg ?_ GE144.out) | exact HB.out)⟩⟩
         ·rw [if_neg c35] at H
          exact absurd H (by simp)
        ·rw [if_neg c34] at H
         exact absurd H (by simp)
       ·rw [if_neg c33] at H
        exact absurd H (by simp)
      ·rw [if_neg c32] at H
       have c32b0 : decide (x57_2 < (l0_1.length : Int)) = false := decide_eq_false c32
       clear c32
       have H' := yc H
       clear H
       have hnb39 := NB143_144.out
       have hnc39 := NB144_143.out
       have hcz40_0 : wr.cell? ⟨gb143, 0, none⟩ = some (.int .i64 a0_0) := (ya BK143.out 0).trans rfl
       have hcz40_1 : wr.cell? ⟨gb143, 1, none⟩ = some (.slice A0_1 l0_1.length c0_1) := (ya BK143.out 1).trans rfl
       have hcz40_2 : wr.cell? ⟨gb143, 2, none⟩ = some (.slice A0_2 l0_2.length c0_2) := (ya BK143.out 2).trans rfl
       have hcz40_3 : wr.cell? ⟨gb143, 3, none⟩ = some (.int .i64 a0_3) := (ya BK143.out 3).trans rfl
       have hcz40_4 : wr.cell? ⟨gb143, 4, none⟩ = some (.int .i64 a0_4) := (ya BK143.out 4).trans rfl
       have hcz40_5 : wr.cell? ⟨gb143, 5, none⟩ = some (.int .i64 a0_5) := (ya BK143.out 5).trans rfl
       have hcz40_6 : wr.cell? ⟨gb143, 6, none⟩ = some (.int .i64 a0_6) := (ya BK143.out 6).trans rfl
       have hcz40_7 : wr.cell? ⟨gb143, 7, none⟩ = some (.int .i64 a0_7) := (ya BK143.out 7).trans rfl
       have hcz40_8 : wr.cell? ⟨gb143, 8, none⟩ = some (.int .i64 a0_8) := (ya BK143.out 8).trans rfl
       have hcz40_9 : wr.cell? ⟨gb143, 9, none⟩ = some (.int .i64 a0_9) := (ya BK143.out 9).trans rfl
       have hcz40_10 : wr.cell? ⟨gb143, 10, none⟩ = some (.slice A0_10 l0_10.length c0_10) := (ya BK143.out 10).trans rfl
       have hfz40_0 := yb BK143.out 0
       have hfz40_1 := yb BK143.out 1
       have hfz40_2 := yb BK143.out 2
       have hfz40_3 := yb BK143.out 3
       have hfz40_4 := yb BK143.out 4
       have hfz40_5 := yb BK143.out 5
       have hfz40_6 := yb BK143.out 6
       have hfz40_7 := yb BK143.out 7
       have hfz40_8 := yb BK143.out 8
       have hfz40_9 := yb BK143.out 9
       have hfz40_10 := yb BK143.out 10
       go_wp2
       go_loopg [75] k2 (fun kq v75 w' => ∃ (x75_3 : Int), v75 = .int .i64 x75_3 ∧ Aside0 (job_Same.l1 kq (l0_2.length : Int) x75_3 a0_0 l0_1 l0_2 a0_3 a0_4 a0_5 a0_6 a0_7 a0_8 a0_9 l0_10 a1_0 l1_1 l1_2 a1_3 a1_4 a1_5 a1_6 a1_7 a1_8 a1_9 l1_10 = some r) ∧ Aside0 (kq ≤ k2) ∧ Aside0 (w'.heap[gb143]? = some (.cells #[.int .i64 a0_0, (.slice A0_1 l0_1.length c0_1), (.slice A0_2 l0_2.length c0_2), .int .i64 a0_3, .int .i64 a0_4, .int .i64 a0_5, .int .i64 a0_6, .int .i64 a0_7, .int .i64 a0_8, .int .i64 a0_9, (.slice A0_10 l0_10.length c0_10)] 29 (0, 0))) ∧ Aside0 (w'.heap[gb144]? = some (.cells #[.int .i64 a1_0, (.slice A1_1 l1_1.length c1_1), (.slice A1_2 l1_2.length c1_2), .int .i64 a1_3, .int .i64 a1_4, .int .i64 a1_5, .int .i64 a1_6, .int .i64 a1_7, .int .i64 a1_8, .int .i64 a1_9, (.slice A1_10 l1_10.length c1_10)] 29 (0, 0))) ∧ Aside0 (Below w.heap.size w w'))
       case atStart => exact ⟨(0), (by first | rfl | (simp; done) | (simp [*]; done)), H', ⟨Nat.le_refl _⟩, ⟨by (with_reducible repeat (first | refine yh ?_ _ | refine yj ?_ | refine yi ?_ _)); exact BK143.out⟩, ⟨by (with_reducible repeat (first | refine yh ?_ _ | refine yj ?_ | refine yi ?_ _)); exact BK144.out⟩, ⟨by repeat (first | (with_reducible first | exact HB.out | apply yd | apply ye | apply yf | refine yg ?_ GE143.out | refine yg ?_ GE144.out) | exact HB.out)⟩⟩
       case round =>
        clear H'
        try clear c1; try clear p1; try clear q1; try clear hx1; try clear p2; try clear c3; try clear p6; try clear p14; try clear q14; try clear hx14; try clear c32; try clear c32b0; try clear c33; try clear c33b0; try clear c34; try clear c34b0; try clear c35; try clear c35b0; try clear c36; try clear c36b0; try clear c39; try clear hcz11_0; try clear hcz11_1; try clear hcz11_10; try clear hcz11_2; try clear hcz11_3; try clear hcz11_4; try clear hcz11_5; try clear hcz11_6; try clear hcz11_7; try clear hcz11_8; try clear hcz11_9; try clear hcz15_0; try clear hcz15_1; try clear hcz15_10; try clear hcz15_2; try clear hcz15_3; try clear hcz15_4; try clear hcz15_5; try clear hcz15_6; try clear hcz15_7; try clear hcz15_8; try clear hcz15_9; try clear hcz16_0; try clear hcz16_1; try clear hcz16_10; try clear hcz16_2; try clear hcz16_3; try clear hcz16_4; try clear hcz16_5; try clear hcz16_6; try clear hcz16_7; try clear hcz16_8; try clear hcz16_9; try clear hcz18_0; try clear hcz18_1; try clear hcz18_10; try clear hcz18_2; try clear hcz18_3; try clear hcz18_4; try clear hcz18_5; try clear hcz18_6; try clear hcz18_7; try clear hcz18_8; try clear hcz18_9; try clear hcz19_0; try clear hcz19_1; try clear hcz19_10; try clear hcz19_2; try clear hcz19_3; try clear hcz19_4; try clear hcz19_5; try clear hcz19_6; try clear hcz19_7; try clear hcz19_8; try clear hcz19_9; try clear hcz21_0; try clear hcz21_1; try clear hcz21_10; try clear hcz21_2; try clear hcz21_3; try clear hcz21_4; try clear hcz21_5; try clear hcz21_6; try clear hcz21_7; try clear hcz21_8; try clear hcz21_9; try clear hcz22_0; try clear hcz22_1; try clear hcz22_10; try clear hcz22_2; try clear hcz22_3; try clear hcz22_4; try clear hcz22_5; try clear hcz22_6; try clear hcz22_7; try clear hcz22_8; try clear hcz22_9; try clear hcz24_0; try clear hcz24_1; try clear hcz24_10; try clear hcz24_2; try clear hcz24_3; try clear hcz24_4; try clear hcz24_5; try clear hcz24_6; try clear hcz24_7; try clear hcz24_8; try clear hcz24_9; try clear hcz25_0; try clear hcz25_1; try clear hcz25_10; try clear hcz25_2; try clear hcz25_3; try clear hcz25_4; try clear hcz25_5; try clear hcz25_6; try clear hcz25_7; try clear hcz25_8; try clear hcz25_9; try clear hcz27_0; try clear hcz27_1; try clear hcz27_10; try clear hcz27_2; try clear hcz27_3; try clear hcz27_4; try clear hcz27_5; try clear hcz27_6; try clear hcz27_7; try clear hcz27_8; try clear hcz27_9; try clear hcz28_0; try clear hcz28_1; try clear hcz28_10; try clear hcz28_2; try clear hcz28_3; try clear hcz28_4; try clear hcz28_5; try clear hcz28_6; try clear hcz28_7; try clear hcz28_8; try clear hcz28_9; try clear hcz31_0; try clear hcz31_1; try clear hcz31_10; try clear hcz31_2; try clear hcz31_3; try clear hcz31_4; try clear hcz31_5; try clear hcz31_6; try clear hcz31_7; try clear hcz31_8; try clear hcz31_9; try clear hcz40_0; try clear hcz40_1; try clear hcz40_10; try clear hcz40_2; try clear hcz40_3; try clear hcz40_4; try clear hcz40_5; try clear hcz40_6
        try clear hcz40_7; try clear hcz40_8; try clear hcz40_9; try clear hfz10_0; try clear hfz10_1; try clear hfz10_10; try clear hfz10_2; try clear hfz10_3; try clear hfz10_4; try clear hfz10_5; try clear hfz10_6; try clear hfz10_7; try clear hfz10_8; try clear hfz10_9; try clear hfz11_0; try clear hfz11_1; try clear hfz11_10; try clear hfz11_2; try clear hfz11_3; try clear hfz11_4; try clear hfz11_5; try clear hfz11_6; try clear hfz11_7; try clear hfz11_8; try clear hfz11_9; try clear hfz15_0; try clear hfz15_1; try clear hfz15_10; try clear hfz15_2; try clear hfz15_3; try clear hfz15_4; try clear hfz15_5; try clear hfz15_6; try clear hfz15_7; try clear hfz15_8; try clear hfz15_9; try clear hfz16_0; try clear hfz16_1; try clear hfz16_10; try clear hfz16_2; try clear hfz16_3; try clear hfz16_4; try clear hfz16_5; try clear hfz16_6; try clear hfz16_7; try clear hfz16_8; try clear hfz16_9; try clear hfz18_0; try clear hfz18_1; try clear hfz18_10; try clear hfz18_2; try clear hfz18_3; try clear hfz18_4; try clear hfz18_5; try clear hfz18_6; try clear hfz18_7; try clear hfz18_8; try clear hfz18_9; try clear hfz19_0; try clear hfz19_1; try clear hfz19_10; try clear hfz19_2; try clear hfz19_3; try clear hfz19_4; try clear hfz19_5; try clear hfz19_6; try clear hfz19_7; try clear hfz19_8; try clear hfz19_9; try clear hfz21_0; try clear hfz21_1; try clear hfz21_10; try clear hfz21_2; try clear hfz21_3; try clear hfz21_4; try clear hfz21_5; try clear hfz21_6; try clear hfz21_7; try clear hfz21_8; try clear hfz21_9; try clear hfz22_0; try clear hfz22_1; try clear hfz22_10; try clear hfz22_2; try clear hfz22_3; try clear hfz22_4; try clear hfz22_5; try clear hfz22_6; try clear hfz22_7; try clear hfz22_8; try clear hfz22_9; try clear hfz24_0; try clear hfz24_1; try clear hfz24_10; try clear hfz24_2; try clear hfz24_3; try clear hfz24_4; try clear hfz24_5; try clear hfz24_6; try clear hfz24_7; try clear hfz24_8; try clear hfz24_9; try clear hfz25_0; try clear hfz25_1; try clear hfz25_10; try clear hfz25_2; try clear hfz25_3; try clear hfz25_4; try clear hfz25_5; try clear hfz25_6; try clear hfz25_7; try clear hfz25_8; try clear hfz25_9; try clear hfz27_0; try clear hfz27_1; try clear hfz27_10; try clear hfz27_2; try clear hfz27_3; try clear hfz27_4; try clear hfz27_5; try clear hfz27_6; try clear hfz27_7; try clear hfz27_8; try clear hfz27_9; try clear hfz28_0; try clear hfz28_1; try clear hfz28_10; try clear hfz28_2; try clear hfz28_3; try clear hfz28_4; try clear hfz28_5; try clear hfz28_6; try clear hfz28_7; try clear hfz28_8; try clear hfz28_9; try clear hfz31_0; try clear hfz31_1; try clear hfz31_10; try clear hfz31_2; try clear hfz31_3; try clear hfz31_4; try clear hfz31_5; try clear hfz31_6; try clear hfz31_7; try clear hfz31_8; try clear hfz31_9; try clear hfz40_0; try clear hfz40_1; try clear hfz40_10; try clear hfz40_2; try clear hfz40_3; try clear hfz40_4; try clear hfz40_5; try clear hfz40_6; try clear hfz40_7; try clear hfz40_8; try clear hfz40_9
        try clear hx145_0; try clear hx145_1; try clear hx146_0; try clear hx146_1; try clear p145; try clear p146; try clear p2; try clear q145; try clear q146
        obtain ⟨x75_3, rfl, HA, HK3, BK143, BK144, HB⟩ := hrel
        cases gk with
        | zero => exact absurd HA.out (by simp [job_Same.l1])
        | succ k3 =>
         have H := HA.out
         clear HA
         simp only [job_Same.l1] at H
         by_cases c41 : x75_3 < (l0_2.length : Int)
         ·rw [if_pos c41] at H
          have c41b0 : decide (x75_3 < (l0_2.length : Int)) = true := decide_eq_true c41
          clear c41
          by_cases c42 : 0 ≤ x75_3
          ·rw [if_pos c42] at H
           have c42b0 : decide (0 ≤ x75_3) = true := decide_eq_true c42
           clear c42
           by_cases c43 : x75_3 < (l0_2.length : Int)
           ·rw [if_pos c43] at H
            have c43b0 : decide (x75_3 < (l0_2.length : Int)) = true := decide_eq_true c43
            clear c43
            by_cases c44 : x75_3 < (l1_2.length : Int)
            ·rw [if_pos c44] at H
             have c44b0 : decide (x75_3 < (l1_2.length : Int)) = true := decide_eq_true c44
             clear c44
             by_cases c45 : (!(((rd_T61 l0_2 x75_3).f0) == ((rd_T61 l1_2 x75_3).f0)) || (!(((rd_T61 l0_2 x75_3).f1) == ((rd_T61 l1_2 x75_3).f1)))) = true
             ·rw [if_pos c45] at H
              have c45b0 : (!(((rd_T61 l0_2 x75_3).f0) == ((rd_T61 l1_2 x75_3).f0)) || (!(((rd_T61 l0_2 x75_3).f1) == ((rd_T61 l1_2 x75_3).f1)))) = true := c45
              clear c45
              obtain rfl := Option.some.inj H
              try go_wp2
              have n0_ := yc (yj BK143.out)
              have n1_ := yc (yj BK144.out)
              have n2_ := yc (yf HB.out)
              clear BK143
              clear BK144
              clear HB
              have BK143 := n0_
              have BK144 := n1_
              have HB := n2_
              clear n0_ n1_ n2_
              have p147 : 0 ≤ (x75_3 : Int) := of_decide_eq_true (by first | (with_reducible assumption) | assumption)
              have q147 : x75_3 < (l0_2.length : Int) := of_decide_eq_true (by first | (with_reducible assumption) | assumption)
              obtain ⟨ad147, e147, hx147_0, hx147_1⟩ := at_T61 HR0_2.out x75_3 p147 q147
              have hw147_1 := hx147_1
              have hw147_0 := hx147_0
              cases e147
              replace hx147_0 := (HB.out.cell (yk w _ hx147_0)).trans hx147_0
              replace hx147_1 := (HB.out.cell (yk w _ hx147_1)).trans hx147_1
              replace p147 := eq_true p147
              replace q147 := eq_true q147
              have p148 : 0 ≤ (x75_3 : Int) := of_decide_eq_true (by first | (with_reducible assumption) | assumption)
              have q148 : x75_3 < (l1_2.length : Int) := of_decide_eq_true (by first | (with_reducible assumption) | assumption)
              obtain ⟨ad148, e148, hx148_0, hx148_1⟩ := at_T61 HR1_2.out x75_3 p148 q148
              have hw148_1 := hx148_1
              have hw148_0 := hx148_0
              cases e148
              replace hx148_0 := (HB.out.cell (yk w _ hx148_0)).trans hx148_0
              replace hx148_1 := (HB.out.cell (yk w _ hx148_1)).trans hx148_1
              replace p148 := eq_true p148
              replace q148 := eq_true q148
              refine start_ (n := 11) (S := fun w' => w'.cell? ⟨gb143, 0, none⟩ = some (.int .i64 a0_0) ∧ w'.cell? ⟨gb143, 1, none⟩ = some (.slice A0_1 l0_1.length c0_1) ∧ w'.cell? ⟨gb143, 2, none⟩ = some (.slice (some ad147) l0_2.length c0_2) ∧ w'.cell? ⟨gb143, 3, none⟩ = some (.int .i64 a0_3) ∧ w'.cell? ⟨gb143, 4, none⟩ = some (.int .i64 a0_4) ∧ w'.cell? ⟨gb143, 5, none⟩ = some (.int .i64 a0_5) ∧ w'.cell? ⟨gb143, 6, none⟩ = some (.int .i64 a0_6) ∧ w'.cell? ⟨gb143, 7, none⟩ = some (.int .i64 a0_7) ∧ w'.cell? ⟨gb143, 8, none⟩ = some (.int .i64 a0_8) ∧ w'.cell? ⟨gb143, 9, none⟩ = some (.int .i64 a0_9) ∧ w'.cell? ⟨gb143, 10, none⟩ = some (.slice A0_10 l0_10.length c0_10) ∧ w'.cell? ⟨gb144, 0, none⟩ = some (.int .i64 a1_0) ∧ w'.cell? ⟨gb144, 1, none⟩ = some (.slice A1_1 l1_1.length c1_1) ∧ w'.cell? ⟨gb144, 2, none⟩ = some (.slice (some ad148) l1_2.length c1_2) ∧ w'.cell? ⟨gb144, 3, none⟩ = some (.int .i64 a1_3) ∧ w'.cell? ⟨gb144, 4, none⟩ = some (.int .i64 a1_4) ∧ w'.cell? ⟨gb144, 5, none⟩ = some (.int .i64 a1_5) ∧ w'.cell? ⟨gb144, 6, none⟩ = some (.int .i64 a1_6) ∧ w'.cell? ⟨gb144, 7, none⟩ = some (.int .i64 a1_7) ∧ w'.cell? ⟨gb144, 8, none⟩ = some (.int .i64 a1_8) ∧ w'.cell? ⟨gb144, 9, none⟩ = some (.int .i64 a1_9) ∧ w'.cell? ⟨gb144, 10, none⟩ = some (.slice A1_10 l1_10.length c1_10) ∧ w'.cell? (ad147.add ((x75_3).toNat * 2)) = some (.int .i64 ((rd_T61 l0_2 x75_3).f0)) ∧ w'.cell? ⟨(ad147.add ((x75_3).toNat * 2)).block, (ad147.add ((x75_3).toNat * 2)).off + 1, none⟩ = some (.int .i64 ((rd_T61 l0_2 x75_3).f1)) ∧ w'.cell? (ad148.add ((x75_3).toNat * 2)) = some (.int .i64 ((rd_T61 l1_2 x75_3).f0)) ∧ w'.cell? ⟨(ad148.add ((x75_3).toNat * 2)).block, (ad148.add ((x75_3).toNat * 2)).off + 1, none⟩ = some (.int .i64 ((rd_T61 l1_2 x75_3).f1))) (ds := []) #[false, false, false, false, false, false, false, false, false, false, false] (by kernel_rfl) rfl rfl ⟨(ya BK143.out 0).trans rfl, (ya BK143.out 1).trans rfl, (ya BK143.out 2).trans rfl, (ya BK143.out 3).trans rfl, (ya BK143.out 4).trans rfl, (ya BK143.out 5).trans rfl, (ya BK143.out 6).trans rfl, (ya BK143.out 7).trans rfl, (ya BK143.out 8).trans rfl, (ya BK143.out 9).trans rfl, (ya BK143.out 10).trans rfl, (ya BK144.out 0).trans rfl, (ya BK144.out 1).trans rfl, (ya BK144.out 2).trans rfl, (ya BK144.out 3).trans rfl, (ya BK144.out 4).trans rfl, (ya BK144.out 5).trans rfl, (ya BK144.out 6).trans rfl, (ya BK144.out 7).trans rfl, (ya BK144.out 8).trans rfl, (ya BK144.out 9).trans rfl, (ya BK144.out 10).trans rfl, ((HB.out.cell (yk w _ hw147_0)).trans hw147_0), ((HB.out.cell (yk w _ hw147_1)).trans hw147_1), ((HB.out.cell (yk w _ hw148_0)).trans hw148_0), ((HB.out.cell (yk w _ hw148_1)).trans hw148_1)⟩ (fun hHeld => ?_); refine with_tabW job_Same.tab12 job_Same.bits12 (fun HT_ HW_ => ?_)
              generalize wr.drew = w46 at BK143 BK144 HB hx147_0 hx147_1 hx148_0 hx148_1 hHeld ⊢
              refine pure_ (i := 0) (N := some 78) (v := ?_) (a' := ?_) #[true, false, false, false, false, false, false, false, false, false, false] rfl rfl (any_of HT_.out (by kernel_rfl)) (fun _ _ _ h => h) (Or.inl ⟨by rfl, ?_⟩) ?_ ?_
              rotate_left
              ·intro w'
               go_simp
               with_reducible rfl
              rotate_left
              ·simp only [Act.put, List.setIfInBounds_toArray, List.set_cons_zero, List.set_cons_succ, i64_w, i32_w]
               rfl
              refine pure_ (i := 2) (N := some 80) (v := ?_) (a' := ?_) #[true, false, true, false, false, false, false, false, false, false, false] rfl rfl (any_of HT_.out (by kernel_rfl)) (fun _ _ _ h => h) (Or.inl ⟨by rfl, ?_⟩) ?_ ?_
              rotate_left
              ·intro w'
               go_simp
               with_reducible rfl
              rotate_left
              ·simp only [Act.put, List.setIfInBounds_toArray, List.set_cons_zero, List.set_cons_succ, i64_w, i32_w]
               rfl
              refine pure_ (i := 5) (N := some 83) (v := ?_) (a' := ?_) #[true, false, true, false, false, true, false, false, false, false, false] rfl rfl (any_of HT_.out (by kernel_rfl)) (fun _ _ _ h => h) (Or.inl ⟨by rfl, ?_⟩) ?_ ?_
              rotate_left
              ·intro w'
               go_simp
               with_reducible rfl
              rotate_left
              ·simp only [Act.put, List.setIfInBounds_toArray, List.set_cons_zero, List.set_cons_succ, i64_w, i32_w]
               rfl
              refine pure_ (i := 7) (N := some 85) (v := ?_) (a' := ?_) #[true, false, true, false, false, true, false, true, false, false, false] rfl rfl (any_of HT_.out (by kernel_rfl)) (fun _ _ _ h => h) (Or.inl ⟨by rfl, ?_⟩) ?_ ?_
              rotate_left
              ·intro w'
               go_simp
               with_reducible rfl
              rotate_left
              ·simp only [Act.put, List.setIfInBounds_toArray, List.set_cons_zero, List.set_cons_succ, i64_w, i32_w]
               rfl
              refine take_ (i := 1) (N := some 79) (v := ?_) (a' := ?_) #[true, true, true, false, false, true, false, true, false, false, false] rfl rfl (take_ofW HT_.out HW_.out (by kernel_rfl)) (fun _ _ _ h => h) (Or.inl ⟨by rfl, ?_⟩) hHeld ?_ ?_
              rotate_left
              ·rintro w' ⟨s0, s1, s2, s3, s4, s5, s6, s7, s8, s9, s10, s11, s12, s13, s14, s15, s16, s17, s18, s19, s20, s21, s22, s23, s24, s25⟩
               go_simp
               with_reducible rfl
              rotate_left
              ·simp only [Act.put, List.setIfInBounds_toArray, List.set_cons_zero, List.set_cons_succ, i64_w, i32_w]
               rfl
              refine pure_ (i := 3) (N := some 81) (v := ?_) (a' := ?_) #[true, true, true, true, false, true, false, true, false, false, false] rfl rfl (any_of HT_.out (by kernel_rfl)) (fun _ _ _ h => h) (Or.inl ⟨by rfl, ?_⟩) ?_ ?_
              rotate_left
              ·intro w'
               go_simp
               with_reducible rfl
              rotate_left
              ·simp only [Act.put, List.setIfInBounds_toArray, List.set_cons_zero, List.set_cons_succ, i64_w, i32_w]
               rfl
              refine take_ (i := 4) (N := some 82) (v := ?_) (a' := ?_) #[true, true, true, true, true, true, false, true, false, false, false] rfl rfl (take_ofW HT_.out HW_.out (by kernel_rfl)) (fun _ _ _ h => h) (Or.inl ⟨by rfl, ?_⟩) hHeld ?_ ?_
              rotate_left
              ·rintro w' ⟨s0, s1, s2, s3, s4, s5, s6, s7, s8, s9, s10, s11, s12, s13, s14, s15, s16, s17, s18, s19, s20, s21, s22, s23, s24, s25⟩
               go_simp
               with_reducible rfl
              rotate_left
              ·simp only [Act.put, List.setIfInBounds_toArray, List.set_cons_zero, List.set_cons_succ, i64_w, i32_w]
               rfl
              refine take_ (i := 6) (N := some 84) (v := ?_) (a' := ?_) #[true, true, true, true, true, true, true, true, false, false, false] rfl rfl (take_ofW HT_.out HW_.out (by kernel_rfl)) (fun _ _ _ h => h) (Or.inl ⟨by rfl, ?_⟩) hHeld ?_ ?_
              rotate_left
              ·rintro w' ⟨s0, s1, s2, s3, s4, s5, s6, s7, s8, s9, s10, s11, s12, s13, s14, s15, s16, s17, s18, s19, s20, s21, s22, s23, s24, s25⟩
               go_simp
               with_reducible rfl
              rotate_left
              ·simp only [Act.put, List.setIfInBounds_toArray, List.set_cons_zero, List.set_cons_succ, i64_w, i32_w]
               rfl
              refine pure_ (i := 8) (N := some 86) (v := ?_) (a' := ?_) #[true, true, true, true, true, true, true, true, true, false, false] rfl rfl (any_of HT_.out (by kernel_rfl)) (fun _ _ _ h => h) (Or.inl ⟨by rfl, ?_⟩) ?_ ?_
              rotate_left
              ·intro w'
               go_simp
               with_reducible rfl
              rotate_left
              ·simp only [Act.put, List.setIfInBounds_toArray, List.set_cons_zero, List.set_cons_succ, i64_w, i32_w]
               rfl
              refine take_ (i := 9) (N := some 87) (v := ?_) (a' := ?_) #[true, true, true, true, true, true, true, true, true, true, false] rfl rfl (take_ofW HT_.out HW_.out (by kernel_rfl)) (fun _ _ _ h => h) (Or.inl ⟨by rfl, ?_⟩) hHeld ?_ ?_
              rotate_left
              ·rintro w' ⟨s0, s1, s2, s3, s4, s5, s6, s7, s8, s9, s10, s11, s12, s13, s14, s15, s16, s17, s18, s19, s20, s21, s22, s23, s24, s25⟩
               go_simp
               with_reducible rfl
              rotate_left
              ·simp only [Act.put, List.setIfInBounds_toArray, List.set_cons_zero, List.set_cons_succ, i64_w, i32_w]
               rfl
              refine pure_ (i := 10) (N := some 88) (v := ?_) (a' := ?_) #[true, true, true, true, true, true, true, true, true, true, true] rfl rfl (any_of HT_.out (by kernel_rfl)) (fun _ _ _ h => h) (Or.inl ⟨by rfl, ?_⟩) ?_ ?_
              rotate_left
              ·intro w'
               go_simp
               with_reducible rfl
              rotate_left
              ·simp only [Act.put, List.setIfInBounds_toArray, List.set_cons_zero, List.set_cons_succ, i64_w, i32_w]
               rfl
              refine done_ (done_of HT_.out (by kernel_rfl)) ?_
              try go_wp2
              go_ret
              exact ⟨by first | rfl | (simp [errW_none, errW_some] <;> rfl) | (simp [*, errW_none, errW_some] <;> rfl), by repeat (first | (with_reducible first | exact HB.out | apply yd | apply ye | apply yf | refine yg ?_ GE143.out | refine yg ?_ GE144.out) | exact HB.out)⟩
             ·rw [if_neg c45] at H
              have c45b0 : (!(((rd_T61 l0_2 x75_3).f0) == ((rd_T61 l1_2 x75_3).f0)) || (!(((rd_T61 l0_2 x75_3).f1) == ((rd_T61 l1_2 x75_3).f1)))) = false := by simpa using c45
              clear c45
              have H' := yc H
              clear H
              try go_wp2
              have n0_ := yc (yj BK143.out)
              have n1_ := yc (yj BK144.out)
              have n2_ := yc (yf HB.out)
              clear BK143
              clear BK144
              clear HB
              have BK143 := n0_
              have BK144 := n1_
              have HB := n2_
              clear n0_ n1_ n2_
              have p147 : 0 ≤ (x75_3 : Int) := of_decide_eq_true (by first | (with_reducible assumption) | assumption)
              have q147 : x75_3 < (l0_2.length : Int) := of_decide_eq_true (by first | (with_reducible assumption) | assumption)
              obtain ⟨ad147, e147, hx147_0, hx147_1⟩ := at_T61 HR0_2.out x75_3 p147 q147
              have hw147_1 := hx147_1
              have hw147_0 := hx147_0
              cases e147
              replace hx147_0 := (HB.out.cell (yk w _ hx147_0)).trans hx147_0
              replace hx147_1 := (HB.out.cell (yk w _ hx147_1)).trans hx147_1
              replace p147 := eq_true p147
              replace q147 := eq_true q147
              have p148 : 0 ≤ (x75_3 : Int) := of_decide_eq_true (by first | (with_reducible assumption) | assumption)
              have q148 : x75_3 < (l1_2.length : Int) := of_decide_eq_true (by first | (with_reducible assumption) | assumption)
              obtain ⟨ad148, e148, hx148_0, hx148_1⟩ := at_T61 HR1_2.out x75_3 p148 q148
              have hw148_1 := hx148_1
              have hw148_0 := hx148_0
              cases e148
              replace hx148_0 := (HB.out.cell (yk w _ hx148_0)).trans hx148_0
              replace hx148_1 := (HB.out.cell (yk w _ hx148_1)).trans hx148_1
              replace p148 := eq_true p148
              replace q148 := eq_true q148
              refine start_ (n := 11) (S := fun w' => w'.cell? ⟨gb143, 0, none⟩ = some (.int .i64 a0_0) ∧ w'.cell? ⟨gb143, 1, none⟩ = some (.slice A0_1 l0_1.length c0_1) ∧ w'.cell? ⟨gb143, 2, none⟩ = some (.slice (some ad147) l0_2.length c0_2) ∧ w'.cell? ⟨gb143, 3, none⟩ = some (.int .i64 a0_3) ∧ w'.cell? ⟨gb143, 4, none⟩ = some (.int .i64 a0_4) ∧ w'.cell? ⟨gb143, 5, none⟩ = some (.int .i64 a0_5) ∧ w'.cell? ⟨gb143, 6, none⟩ = some (.int .i64 a0_6) ∧ w'.cell? ⟨gb143, 7, none⟩ = some (.int .i64 a0_7) ∧ w'.cell? ⟨gb143, 8, none⟩ = some (.int .i64 a0_8) ∧ w'.cell? ⟨gb143, 9, none⟩ = some (.int .i64 a0_9) ∧ w'.cell? ⟨gb143, 10, none⟩ = some (.slice A0_10 l0_10.length c0_10) ∧ w'.cell? ⟨gb144, 0, none⟩ = some (.int .i64 a1_0) ∧ w'.cell? ⟨gb144, 1, none⟩ = some (.slice A1_1 l1_1.length c1_1) ∧ w'.cell? ⟨gb144, 2, none⟩ = some (.slice (some ad148) l1_2.length c1_2) ∧ w'.cell? ⟨gb144, 3, none⟩ = some (.int .i64 a1_3) ∧ w'.cell? ⟨gb144, 4, none⟩ = some (.int .i64 a1_4) ∧ w'.cell? ⟨gb144, 5, none⟩ = some (.int .i64 a1_5) ∧ w'.cell? ⟨gb144, 6, none⟩ = some (.int .i64 a1_6) ∧ w'.cell? ⟨gb144, 7, none⟩ = some (.int .i64 a1_7) ∧ w'.cell? ⟨gb144, 8, none⟩ = some (.int .i64 a1_8) ∧ w'.cell? ⟨gb144, 9, none⟩ = some (.int .i64 a1_9) ∧ w'.cell? ⟨gb144, 10, none⟩ = some (.slice A1_10 l1_10.length c1_10) ∧ w'.cell? (ad147.add ((x75_3).toNat * 2)) = some (.int .i64 ((rd_T61 l0_2 x75_3).f0)) ∧ w'.cell? ⟨(ad147.add ((x75_3).toNat * 2)).block, (ad147.add ((x75_3).toNat * 2)).off + 1, none⟩ = some (.int .i64 ((rd_T61 l0_2 x75_3).f1)) ∧ w'.cell? (ad148.add ((x75_3).toNat * 2)) = some (.int .i64 ((rd_T61 l1_2 x75_3).f0)) ∧ w'.cell? ⟨(ad148.add ((x75_3).toNat * 2)).block, (ad148.add ((x75_3).toNat * 2)).off + 1, none⟩ = some (.int .i64 ((rd_T61 l1_2 x75_3).f1))) (ds := []) #[false, false, false, false, false, false, false, false, false, false, false] (by kernel_rfl) rfl rfl ⟨(ya BK143.out 0).trans rfl, (ya BK143.out 1).trans rfl, (ya BK143.out 2).trans rfl, (ya BK143.out 3).trans rfl, (ya BK143.out 4).trans rfl, (ya BK143.out 5).trans rfl, (ya BK143.out 6).trans rfl, (ya BK143.out 7).trans rfl, (ya BK143.out 8).trans rfl, (ya BK143.out 9).trans rfl, (ya BK143.out 10).trans rfl, (ya BK144.out 0).trans rfl, (ya BK144.out 1).trans rfl, (ya BK144.out 2).trans rfl, (ya BK144.out 3).trans rfl, (ya BK144.out 4).trans rfl, (ya BK144.out 5).trans rfl, (ya BK144.out 6).trans rfl, (ya BK144.out 7).trans rfl, (ya BK144.out 8).trans rfl, (ya BK144.out 9).trans rfl, (ya BK144.out 10).trans rfl, ((HB.out.cell (yk w _ hw147_0)).trans hw147_0), ((HB.out.cell (yk w _ hw147_1)).trans hw147_1), ((HB.out.cell (yk w _ hw148_0)).trans hw148_0), ((HB.out.cell (yk w _ hw148_1)).trans hw148_1)⟩ (fun hHeld => ?_); refine with_tabW job_Same.tab12 job_Same.bits12 (fun HT_ HW_ => ?_)
              generalize wr.drew = w47 at BK143 BK144 HB hx147_0 hx147_1 hx148_0 hx148_1 hHeld ⊢
              refine pure_ (i := 0) (N := some 78) (v := ?_) (a' := ?_) #[true, false, false, false, false, false, false, false, false, false, false] rfl rfl (any_of HT_.out (by kernel_rfl)) (fun _ _ _ h => h) (Or.inl ⟨by rfl, ?_⟩) ?_ ?_
              rotate_left
              ·intro w'
               go_simp
               with_reducible rfl
              rotate_left
              ·simp only [Act.put, List.setIfInBounds_toArray, List.set_cons_zero, List.set_cons_succ, i64_w, i32_w]
               rfl
              refine pure_ (i := 2) (N := some 80) (v := ?_) (a' := ?_) #[true, false, true, false, false, false, false, false, false, false, false] rfl rfl (any_of HT_.out (by kernel_rfl)) (fun _ _ _ h => h) (Or.inl ⟨by rfl, ?_⟩) ?_ ?_
              rotate_left
              ·intro w'
               go_simp
               with_reducible rfl
              rotate_left
              ·simp only [Act.put, List.setIfInBounds_toArray, List.set_cons_zero, List.set_cons_succ, i64_w, i32_w]
               rfl
              refine pure_ (i := 5) (N := some 83) (v := ?_) (a' := ?_) #[true, false, true, false, false, true, false, false, false, false, false] rfl rfl (any_of HT_.out (by kernel_rfl)) (fun _ _ _ h => h) (Or.inl ⟨by rfl, ?_⟩) ?_ ?_
              rotate_left
              ·intro w'
               go_simp
               with_reducible rfl
              rotate_left
              ·simp only [Act.put, List.setIfInBounds_toArray, List.set_cons_zero, List.set_cons_succ, i64_w, i32_w]
               rfl
              refine pure_ (i := 7) (N := some 85) (v := ?_) (a' := ?_) #[true, false, true, false, false, true, false, true, false, false, false] rfl rfl (any_of HT_.out (by kernel_rfl)) (fun _ _ _ h => h) (Or.inl ⟨by rfl, ?_⟩) ?_ ?_
              rotate_left
              ·intro w'
               go_simp
               with_reducible rfl
              rotate_left
              ·simp only [Act.put, List.setIfInBounds_toArray, List.set_cons_zero, List.set_cons_succ, i64_w, i32_w]
               rfl
              refine take_ (i := 1) (N := some 79) (v := ?_) (a' := ?_) #[true, true, true, false, false, true, false, true, false, false, false] rfl rfl (take_ofW HT_.out HW_.out (by kernel_rfl)) (fun _ _ _ h => h) (Or.inl ⟨by rfl, ?_⟩) hHeld ?_ ?_
              rotate_left
              ·rintro w' ⟨s0, s1, s2, s3, s4, s5, s6, s7, s8, s9, s10, s11, s12, s13, s14, s15, s16, s17, s18, s19, s20, s21, s22, s23, s24, s25⟩
               go_simp
               with_reducible rfl
              rotate_left
              ·simp only [Act.put, List.setIfInBounds_toArray, List.set_cons_zero, List.set_cons_succ, i64_w, i32_w]
               rfl
              refine pure_ (i := 3) (N := some 81) (v := ?_) (a' := ?_) #[true, true, true, true, false, true, false, true, false, false, false] rfl rfl (any_of HT_.out (by kernel_rfl)) (fun _ _ _ h => h) (Or.inl ⟨by rfl, ?_⟩) ?_ ?_
              rotate_left
              ·intro w'
               go_simp
               with_reducible rfl
              rotate_left
              ·simp only [Act.put, List.setIfInBounds_toArray, List.set_cons_zero, List.set_cons_succ, i64_w, i32_w]
               rfl
              refine take_ (i := 4) (N := some 82) (v := ?_) (a' := ?_) #[true, true, true, true, true, true, false, true, false, false, false] rfl rfl (take_ofW HT_.out HW_.out (by kernel_rfl)) (fun _ _ _ h => h) (Or.inl ⟨by rfl, ?_⟩) hHeld ?_ ?_
              rotate_left
              ·rintro w' ⟨s0, s1, s2, s3, s4, s5, s6, s7, s8, s9, s10, s11, s12, s13, s14, s15, s16, s17, s18, s19, s20, s21, s22, s23, s24, s25⟩
               go_simp
               with_reducible rfl
              rotate_left
              ·simp only [Act.put, List.setIfInBounds_toArray, List.set_cons_zero, List.set_cons_succ, i64_w, i32_w]
               rfl
              refine take_ (i := 6) (N := some 84) (v := ?_) (a' := ?_) #[true, true, true, true, true, true, true, true, false, false, false] rfl rfl (take_ofW HT_.out HW_.out (by kernel_rfl)) (fun _ _ _ h => h) (Or.inl ⟨by rfl, ?_⟩) hHeld ?_ ?_
              rotate_left
              ·rintro w' ⟨s0, s1, s2, s3, s4, s5, s6, s7, s8, s9, s10, s11, s12, s13, s14, s15, s16, s17, s18, s19, s20, s21, s22, s23, s24, s25⟩
               go_simp
               with_reducible rfl
              rotate_left
              ·simp only [Act.put, List.setIfInBounds_toArray, List.set_cons_zero, List.set_cons_succ, i64_w, i32_w]
               rfl
              refine pure_ (i := 8) (N := some 86) (v := ?_) (a' := ?_) #[true, true, true, true, true, true, true, true, true, false, false] rfl rfl (any_of HT_.out (by kernel_rfl)) (fun _ _ _ h => h) (Or.inl ⟨by rfl, ?_⟩) ?_ ?_
              rotate_left
              ·intro w'
               go_simp
               with_reducible rfl
              rotate_left
              ·simp only [Act.put, List.setIfInBounds_toArray, List.set_cons_zero, List.set_cons_succ, i64_w, i32_w]
               rfl
              refine take_ (i := 9) (N := some 87) (v := ?_) (a' := ?_) #[true, true, true, true, true, true, true, true, true, true, false] rfl rfl (take_ofW HT_.out HW_.out (by kernel_rfl)) (fun _ _ _ h => h) (Or.inl ⟨by rfl, ?_⟩) hHeld ?_ ?_
              rotate_left
              ·rintro w' ⟨s0, s1, s2, s3, s4, s5, s6, s7, s8, s9, s10, s11, s12, s13, s14, s15, s16, s17, s18, s19, s20, s21, s22, s23, s24, s25⟩
               go_simp
               with_reducible rfl
              rotate_left
              ·simp only [Act.put, List.setIfInBounds_toArray, List.set_cons_zero, List.set_cons_succ, i64_w, i32_w]
               rfl
              refine pure_ (i := 10) (N := some 88) (v := ?_) (a' := ?_) #[true, true, true, true, true, true, true, true, true, true, true] rfl rfl (any_of HT_.out (by kernel_rfl)) (fun _ _ _ h => h) (Or.inl ⟨by rfl, ?_⟩) ?_ ?_
              rotate_left
              ·intro w'
               go_simp
               with_reducible rfl
              rotate_left
              ·simp only [Act.put, List.setIfInBounds_toArray, List.set_cons_zero, List.set_cons_succ, i64_w, i32_w]
               rfl
              refine done_ (done_of HT_.out (by kernel_rfl)) ?_
              try go_wp2
              go_roundg k3
              case measure => have := HJ2.out; have := HK2.out; have := HK3.out; omega
              case rel => exact ⟨(wrap64 (x75_3 + 1)), (by first | rfl | (simp; done) | (simp [*]; done)), H', ⟨by have := HJ2.out; have := HK2.out; have := HK3.out; omega⟩, ⟨by (with_reducible repeat (first | refine yh ?_ _ | refine yj ?_ | refine yi ?_ _)); exact BK143.out⟩, ⟨by (with_reducible repeat (first | refine yh ?_ _ | refine yj ?_ | refine yi ?_ _)); exact BK144.out⟩, ⟨by repeat (first | (with_reducible first | exact HB.out | apply yd | apply ye | apply yf | refine yg ?_ GE143.out | refine yg ?_ GE144.out) | exact HB.out)⟩⟩
            ·rw [if_neg c44] at H
             exact absurd H (by simp)
           ·rw [if_neg c43] at H
            exact absurd H (by simp)
          ·rw [if_neg c42] at H
           exact absurd H (by simp)
         ·rw [if_neg c41] at H
          have c41b0 : decide (x75_3 < (l0_2.length : Int)) = false := decide_eq_false c41
          clear c41
          have H' := yc H
          clear H
          have hnb48 := NB143_144.out
          have hnc48 := NB144_143.out
          have hcz49_0 : wr.cell? ⟨gb143, 0, none⟩ = some (.int .i64 a0_0) := (ya BK143.out 0).trans rfl
          have hcz49_1 : wr.cell? ⟨gb143, 1, none⟩ = some (.slice A0_1 l0_1.length c0_1) := (ya BK143.out 1).trans rfl
          have hcz49_2 : wr.cell? ⟨gb143, 2, none⟩ = some (.slice A0_2 l0_2.length c0_2) := (ya BK143.out 2).trans rfl
          have hcz49_3 : wr.cell? ⟨gb143, 3, none⟩ = some (.int .i64 a0_3) := (ya BK143.out 3).trans rfl
          have hcz49_4 : wr.cell? ⟨gb143, 4, none⟩ = some (.int .i64 a0_4) := (ya BK143.out 4).trans rfl
          have hcz49_5 : wr.cell? ⟨gb143, 5, none⟩ = some (.int .i64 a0_5) := (ya BK143.out 5).trans rfl
          have hcz49_6 : wr.cell? ⟨gb143, 6, none⟩ = some (.int .i64 a0_6) := (ya BK143.out 6).trans rfl
          have hcz49_7 : wr.cell? ⟨gb143, 7, none⟩ = some (.int .i64 a0_7) := (ya BK143.out 7).trans rfl
          have hcz49_8 : wr.cell? ⟨gb143, 8, none⟩ = some (.int .i64 a0_8) := (ya BK143.out 8).trans rfl
          have hcz49_9 : wr.cell? ⟨gb143, 9, none⟩ = some (.int .i64 a0_9) := (ya BK143.out 9).trans rfl
          have hcz49_10 : wr.cell? ⟨gb143, 10, none⟩ = some (.slice A0_10 l0_10.length c0_10) := (ya BK143.out 10).trans rfl
          have hfz49_0 := yb BK143.out 0
          have hfz49_1 := yb BK143.out 1
          have hfz49_2 := yb BK143.out 2
          have hfz49_3 := yb BK143.out 3
          have hfz49_4 := yb BK143.out 4
          have hfz49_5 := yb BK143.out 5
          have hfz49_6 := yb BK143.out 6
          have hfz49_7 := yb BK143.out 7
          have hfz49_8 := yb BK143.out 8
          have hfz49_9 := yb BK143.out 9
          have hfz49_10 := yb BK143.out 10
          go_wp2
          go_loopg [93] k3 (fun kq v93 w' => ∃ (x93_4 : Int), v93 = .int .i64 x93_4 ∧ Aside0 (job_Same.l2 kq (l0_10.length : Int) x93_4 a0_0 l0_1 l0_2 a0_3 a0_4 a0_5 a0_6 a0_7 a0_8 a0_9 l0_10 a1_0 l1_1 l1_2 a1_3 a1_4 a1_5 a1_6 a1_7 a1_8 a1_9 l1_10 = some r) ∧ Aside0 (kq ≤ k3) ∧ Aside0 (w'.heap[gb143]? = some (.cells #[.int .i64 a0_0, (.slice A0_1 l0_1.length c0_1), (.slice A0_2 l0_2.length c0_2), .int .i64 a0_3, .int .i64 a0_4, .int .i64 a0_5, .int .i64 a0_6, .int .i64 a0_7, .int .i64 a0_8, .int .i64 a0_9, (.slice A0_10 l0_10.length c0_10)] 29 (0, 0))) ∧ Aside0 (w'.heap[gb144]? = some (.cells #[.int .i64 a1_0, (.slice A1_1 l1_1.length c1_1), (.slice A1_2 l1_2.length c1_2), .int .i64 a1_3, .int .i64 a1_4, .int .i64 a1_5, .int .i64 a1_6, .int .i64 a1_7, .int .i64 a1_8, .int .i64 a1_9, (.slice A1_10 l1_10.length c1_10)] 29 (0, 0))) ∧ Aside0 (Below w.heap.size w w'))
          case atStart => exact ⟨(0), (by first | rfl | (simp; done) | (simp [*]; done)), H', ⟨Nat.le_refl _⟩, ⟨by (with_reducible repeat (first | refine yh ?_ _ | refine yj ?_ | refine yi ?_ _)); exact BK143.out⟩, ⟨by (with_reducible repeat (first | refine yh ?_ _ | refine yj ?_ | refine yi ?_ _)); exact BK144.out⟩, ⟨by repeat (first | (with_reducible first | exact HB.out | apply yd | apply ye | apply yf | refine yg ?_ GE143.out | refine yg ?_ GE144.out) | exact HB.out)⟩⟩
          case round =>
           clear H'
           try clear c1; try clear p1; try clear q1; try clear hx1; try clear p2; try clear c4; try clear p6; try clear p14; try clear q14; try clear hx14; try clear c41; try clear c41b0; try clear c42; try clear c42b0; try clear c43; try clear c43b0; try clear c44; try clear c44b0; try clear c45; try clear c45b0; try clear c48; try clear hcz16_7; try clear hcz16_8; try clear hcz16_9; try clear hcz18_0; try clear hcz18_1; try clear hcz18_10; try clear hcz18_2; try clear hcz18_3; try clear hcz18_4; try clear hcz18_5; try clear hcz18_6; try clear hcz18_7; try clear hcz18_8; try clear hcz18_9; try clear hcz19_0; try clear hcz19_1; try clear hcz19_10; try clear hcz19_2; try clear hcz19_3; try clear hcz19_4; try clear hcz19_5; try clear hcz19_6; try clear hcz19_7; try clear hcz19_8; try clear hcz19_9; try clear hcz21_0; try clear hcz21_1; try clear hcz21_10; try clear hcz21_2; try clear hcz21_3; try clear hcz21_4; try clear hcz21_5; try clear hcz21_6; try clear hcz21_7; try clear hcz21_8; try clear hcz21_9; try clear hcz22_0; try clear hcz22_1; try clear hcz22_10; try clear hcz22_2; try clear hcz22_3; try clear hcz22_4; try clear hcz22_5; try clear hcz22_6; try clear hcz22_7; try clear hcz22_8; try clear hcz22_9; try clear hcz24_0; try clear hcz24_1; try clear hcz24_10; try clear hcz24_2; try clear hcz24_3; try clear hcz24_4; try clear hcz24_5; try clear hcz24_6; try clear hcz24_7; try clear hcz24_8; try clear hcz24_9; try clear hcz25_0; try clear hcz25_1; try clear hcz25_10; try clear hcz25_2; try clear hcz25_3; try clear hcz25_4; try clear hcz25_5; try clear hcz25_6; try clear hcz25_7; try clear hcz25_8; try clear hcz25_9; try clear hcz27_0; try clear hcz27_1; try clear hcz27_10; try clear hcz27_2; try clear hcz27_3; try clear hcz27_4; try clear hcz27_5; try clear hcz27_6; try clear hcz27_7; try clear hcz27_8; try clear hcz27_9; try clear hcz28_0; try clear hcz28_1; try clear hcz28_10; try clear hcz28_2; try clear hcz28_3; try clear hcz28_4; try clear hcz28_5; try clear hcz28_6; try clear hcz28_7; try clear hcz28_8; try clear hcz28_9; try clear hcz31_0; try clear hcz31_1; try clear hcz31_10; try clear hcz31_2; try clear hcz31_3; try clear hcz31_4; try clear hcz31_5; try clear hcz31_6; try clear hcz31_7; try clear hcz31_8; try clear hcz31_9; try clear hcz40_0; try clear hcz40_1; try clear hcz40_10; try clear hcz40_2; try clear hcz40_3; try clear hcz40_4; try clear hcz40_5; try clear hcz40_6; try clear hcz40_7; try clear hcz40_8; try clear hcz40_9; try clear hcz49_0; try clear hcz49_1; try clear hcz49_10; try clear hcz49_2; try clear hcz49_3; try clear hcz49_4; try clear hcz49_5; try clear hcz49_6; try clear hcz49_7; try clear hcz49_8; try clear hcz49_9; try clear hfz10_0; try clear hfz10_1; try clear hfz10_10; try clear hfz10_2; try clear hfz10_3; try clear hfz10_4; try clear hfz10_5; try clear hfz10_6; try clear hfz10_7; try clear hfz10_8; try clear hfz10_9; try clear hfz11_0; try clear hfz11_1; try clear hfz11_10; try clear hfz11_2; try clear hfz11_3
           try clear hfz11_4; try clear hfz11_5; try clear hfz11_6; try clear hfz11_7; try clear hfz11_8; try clear hfz11_9; try clear hfz15_0; try clear hfz15_1; try clear hfz15_10; try clear hfz15_2; try clear hfz15_3; try clear hfz15_4; try clear hfz15_5; try clear hfz15_6; try clear hfz15_7; try clear hfz15_8; try clear hfz15_9; try clear hfz16_0; try clear hfz16_1; try clear hfz16_10; try clear hfz16_2; try clear hfz16_3; try clear hfz16_4; try clear hfz16_5; try clear hfz16_6; try clear hfz16_7; try clear hfz16_8; try clear hfz16_9; try clear hfz18_0; try clear hfz18_1; try clear hfz18_10; try clear hfz18_2; try clear hfz18_3; try clear hfz18_4; try clear hfz18_5; try clear hfz18_6; try clear hfz18_7; try clear hfz18_8; try clear hfz18_9; try clear hfz19_0; try clear hfz19_1; try clear hfz19_10; try clear hfz19_2; try clear hfz19_3; try clear hfz19_4; try clear hfz19_5; try clear hfz19_6; try clear hfz19_7; try clear hfz19_8; try clear hfz19_9; try clear hfz21_0; try clear hfz21_1; try clear hfz21_10; try clear hfz21_2; try clear hfz21_3; try clear hfz21_4; try clear hfz21_5; try clear hfz21_6; try clear hfz21_7; try clear hfz21_8; try clear hfz21_9; try clear hfz22_0; try clear hfz22_1; try clear hfz22_10; try clear hfz22_2; try clear hfz22_3; try clear hfz22_4; try clear hfz22_5; try clear hfz22_6; try clear hfz22_7; try clear hfz22_8; try clear hfz22_9; try clear hfz24_0; try clear hfz24_1; try clear hfz24_10; try clear hfz24_2; try clear hfz24_3; try clear hfz24_4; try clear hfz24_5; try clear hfz24_6; try clear hfz24_7; try clear hfz24_8; try clear hfz24_9; try clear hfz25_0; try clear hfz25_1; try clear hfz25_10; try clear hfz25_2; try clear hfz25_3; try clear hfz25_4; try clear hfz25_5; try clear hfz25_6; try clear hfz25_7; try clear hfz25_8; try clear hfz25_9; try clear hfz27_0; try clear hfz27_1; try clear hfz27_10; try clear hfz27_2; try clear hfz27_3; try clear hfz27_4; try clear hfz27_5; try clear hfz27_6; try clear hfz27_7; try clear hfz27_8; try clear hfz27_9; try clear hfz28_0; try clear hfz28_1; try clear hfz28_10; try clear hfz28_2; try clear hfz28_3; try clear hfz28_4; try clear hfz28_5; try clear hfz28_6; try clear hfz28_7; try clear hfz28_8; try clear hfz28_9; try clear hfz31_0; try clear hfz31_1; try clear hfz31_10; try clear hfz31_2; try clear hfz31_3; try clear hfz31_4; try clear hfz31_5; try clear hfz31_6; try clear hfz31_7; try clear hfz31_8; try clear hfz31_9; try clear hfz40_0; try clear hfz40_1; try clear hfz40_10; try clear hfz40_2; try clear hfz40_3; try clear hfz40_4; try clear hfz40_5; try clear hfz40_6; try clear hfz40_7; try clear hfz40_8; try clear hfz40_9; try clear hfz49_0; try clear hfz49_1; try clear hfz49_10; try clear hfz49_2; try clear hfz49_3; try clear hfz49_4; try clear hfz49_5; try clear hfz49_6; try clear hfz49_7; try clear hfz49_8; try clear hfz49_9; try clear hx145_0; try clear hx145_1; try clear hx146_0; try clear hx146_1; try clear hx147_0; try clear hx147_1; try clear hx148_0; try clear hx148_1
           try clear p145; try clear p146; try clear p147; try clear p148; try clear p2; try clear q145; try clear q146; try clear q147; try clear q148
           obtain ⟨x93_4, rfl, HA, HK4, BK143, BK144, HB⟩ := hrel
           cases gk with
           | zero => exact absurd HA.out (by simp [job_Same.l2])
           | succ k4 =>
            have H := HA.out
            clear HA
            simp only [job_Same.l2] at H
            by_cases c50 : x93_4 < (l0_10.length : Int)
            ·rw [if_pos c50] at H
             have c50b0 : decide (x93_4 < (l0_10.length : Int)) = true := decide_eq_true c50
             clear c50
             by_cases c51 : 0 ≤ x93_4
             ·rw [if_pos c51] at H
              have c51b0 : decide (0 ≤ x93_4) = true := decide_eq_true c51
              clear c51
              by_cases c52 : x93_4 < (l0_10.length : Int)
              ·rw [if_pos c52] at H
               have c52b0 : decide (x93_4 < (l0_10.length : Int)) = true := decide_eq_true c52
               clear c52
               by_cases c53 : x93_4 < (l1_10.length : Int)
               ·rw [if_pos c53] at H
                have c53b0 : decide (x93_4 < (l1_10.length : Int)) = true := decide_eq_true c53
                clear c53
                replace H := Option.bind_eq_some_iff.mp H
                obtain ⟨t151, A540, H⟩ := H
                replace H : (if t151 = true then (job_Same.l2 k4 (l0_10.length : Int) (wrap64 (x93_4 + 1)) a0_0 l0_1 l0_2 a0_3 a0_4 a0_5 a0_6 a0_7 a0_8 a0_9 l0_10 a1_0 l1_1 l1_2 a1_3 a1_4 a1_5 a1_6 a1_7 a1_8 a1_9 l1_10) else (some false)) = some r := H
                have A54 := yc A540
                clear A540
                by_cases c55 : t151 = true
                ·subst c55
                 have H1 : (job_Same.l2 k4 (l0_10.length : Int) (wrap64 (x93_4 + 1)) a0_0 l0_1 l0_2 a0_3 a0_4 a0_5 a0_6 a0_7 a0_8 a0_9 l0_10 a1_0 l1_1 l1_2 a1_3 a1_4 a1_5 a1_6 a1_7 a1_8 a1_9 l1_10) = some r := by rw [if_pos rfl] at H; exact H
                 clear H
                 have H := H1
                 clear H1
                 have H' := yc H
                 clear H
                 try go_wp2
                 have n0_ := yc (yj BK143.out)
                 have n1_ := yc (yj BK144.out)
                 have n2_ := yc (yf HB.out)
                 clear BK143
                 clear BK144
                 clear HB
                 have BK143 := n0_
                 have BK144 := n1_
                 have HB := n2_
                 clear n0_ n1_ n2_
                 have p149 : 0 ≤ (x93_4 : Int) := of_decide_eq_true (by first | (with_reducible assumption) | assumption)
                 have q149 : x93_4 < (l0_10.length : Int) := of_decide_eq_true (by first | (with_reducible assumption) | assumption)
                 obtain ⟨ad149, A149_0, c149_0, e149, hx149_0, hl149_0, hi149_0⟩ := at_L2 HR0_10.out x93_4 p149 q149
                 have hw149_0 := hx149_0
                 cases e149
                 replace hx149_0 := (HB.out.cell (yk w _ hx149_0)).trans hx149_0
                 have HR149_0 := yc hi149_0
                 have HC149_0 := yc hl149_0
                 clear hi149_0 hl149_0
                 replace p149 := eq_true p149
                 replace q149 := eq_true q149
                 have p150 : 0 ≤ (x93_4 : Int) := of_decide_eq_true (by first | (with_reducible assumption) | assumption)
                 have q150 : x93_4 < (l1_10.length : Int) := of_decide_eq_true (by first | (with_reducible assumption) | assumption)
                 obtain ⟨ad150, A150_0, c150_0, e150, hx150_0, hl150_0, hi150_0⟩ := at_L2 HR1_10.out x93_4 p150 q150
                 have hw150_0 := hx150_0
                 cases e150
                 replace hx150_0 := (HB.out.cell (yk w _ hx150_0)).trans hx150_0
                 have HR150_0 := yc hi150_0
                 have HC150_0 := yc hl150_0
                 clear hi150_0 hl150_0
                 replace p150 := eq_true p150
                 replace q150 := eq_true q150
                 refine start_ (n := 12) (S := fun w' => w'.cell? ⟨gb143, 0, none⟩ = some (.int .i64 a0_0) ∧ w'.cell? ⟨gb143, 1, none⟩ = some (.slice A0_1 l0_1.length c0_1) ∧ w'.cell? ⟨gb143, 2, none⟩ = some (.slice A0_2 l0_2.length c0_2) ∧ w'.cell? ⟨gb143, 3, none⟩ = some (.int .i64 a0_3) ∧ w'.cell? ⟨gb143, 4, none⟩ = some (.int .i64 a0_4) ∧ w'.cell? ⟨gb143, 5, none⟩ = some (.int .i64 a0_5) ∧ w'.cell? ⟨gb143, 6, none⟩ = some (.int .i64 a0_6) ∧ w'.cell? ⟨gb143, 7, none⟩ = some (.int .i64 a0_7) ∧ w'.cell? ⟨gb143, 8, none⟩ = some (.int .i64 a0_8) ∧ w'.cell? ⟨gb143, 9, none⟩ = some (.int .i64 a0_9) ∧ w'.cell? ⟨gb143, 10, none⟩ = some (.slice (some ad149) l0_10.length c0_10) ∧ w'.cell? ⟨gb144, 0, none⟩ = some (.int .i64 a1_0) ∧ w'.cell? ⟨gb144, 1, none⟩ = some (.slice A1_1 l1_1.length c1_1) ∧ w'.cell? ⟨gb144, 2, none⟩ = some (.slice A1_2 l1_2.length c1_2) ∧ w'.cell? ⟨gb144, 3, none⟩ = some (.int .i64 a1_3) ∧ w'.cell? ⟨gb144, 4, none⟩ = some (.int .i64 a1_4) ∧ w'.cell? ⟨gb144, 5, none⟩ = some (.int .i64 a1_5) ∧ w'.cell? ⟨gb144, 6, none⟩ = some (.int .i64 a1_6) ∧ w'.cell? ⟨gb144, 7, none⟩ = some (.int .i64 a1_7) ∧ w'.cell? ⟨gb144, 8, none⟩ = some (.int .i64 a1_8) ∧ w'.cell? ⟨gb144, 9, none⟩ = some (.int .i64 a1_9) ∧ w'.cell? ⟨gb144, 10, none⟩ = some (.slice (some ad150) l1_10.length c1_10) ∧ w'.cell? (ad149.add (x93_4).toNat) = some (.slice A149_0 (rd_L2 l0_10 x93_4).length c149_0) ∧ w'.cell? (ad150.add (x93_4).toNat) = some (.slice A150_0 (rd_L2 l1_10 x93_4).length c150_0)) (ds := []) #[false, false, false, false, false, false, false, false, false, false, false, false] (by kernel_rfl) rfl rfl ⟨(ya BK143.out 0).trans rfl, (ya BK143.out 1).trans rfl, (ya BK143.out 2).trans rfl, (ya BK143.out 3).trans rfl, (ya BK143.out 4).trans rfl, (ya BK143.out 5).trans rfl, (ya BK143.out 6).trans rfl, (ya BK143.out 7).trans rfl, (ya BK143.out 8).trans rfl, (ya BK143.out 9).trans rfl, (ya BK143.out 10).trans rfl, (ya BK144.out 0).trans rfl, (ya BK144.out 1).trans rfl, (ya BK144.out 2).trans rfl, (ya BK144.out 3).trans rfl, (ya BK144.out 4).trans rfl, (ya BK144.out 5).trans rfl, (ya BK144.out 6).trans rfl, (ya BK144.out 7).trans rfl, (ya BK144.out 8).trans rfl, (ya BK144.out 9).trans rfl, (ya BK144.out 10).trans rfl, ((HB.out.cell (yk w _ hw149_0)).trans hw149_0), ((HB.out.cell (yk w _ hw150_0)).trans hw150_0)⟩ (fun hHeld => ?_); refine with_tabW job_Same.tab18 job_Same.bits18 (fun HT_ HW_ => ?_)
                 generalize wr.drew = w56 at BK143 BK144 HB HR149_0 HR150_0 hx149_0 hx150_0 hHeld ⊢
                 refine pure_ (i := 0) (N := some 96) (v := ?_) (a' := ?_) #[true, false, false, false, false, false, false, false, false, false, false, false] rfl rfl (any_of HT_.out (by kernel_rfl)) (fun _ _ _ h => h) (Or.inl ⟨by rfl, ?_⟩) ?_ ?_
                 rotate_left
                 ·intro w'
                  go_simp
                  with_reducible rfl
                 rotate_left
                 ·simp only [Act.put, List.setIfInBounds_toArray, List.set_cons_zero, List.set_cons_succ, i64_w, i32_w]
                  rfl
                 refine pure_ (i := 2) (N := some 98) (v := ?_) (a' := ?_) #[true, false, true, false, false, false, false, false, false, false, false, false] rfl rfl (any_of HT_.out (by kernel_rfl)) (fun _ _ _ h => h) (Or.inl ⟨by rfl, ?_⟩) ?_ ?_
                 rotate_left
                 ·intro w'
                  go_simp
                  with_reducible rfl
                 rotate_left
                 ·simp only [Act.put, List.setIfInBounds_toArray, List.set_cons_zero, List.set_cons_succ, i64_w, i32_w]
                  rfl
                 refine pure_ (i := 5) (N := some 101) (v := ?_) (a' := ?_) #[true, false, true, false, false, true, false, false, false, false, false, false] rfl rfl (any_of HT_.out (by kernel_rfl)) (fun _ _ _ h => h) (Or.inl ⟨by rfl, ?_⟩) ?_ ?_
                 rotate_left
                 ·intro w'
                  go_simp
                  with_reducible rfl
                 rotate_left
                 ·simp only [Act.put, List.setIfInBounds_toArray, List.set_cons_zero, List.set_cons_succ, i64_w, i32_w]
                  rfl
                 refine pure_ (i := 7) (N := some 103) (v := ?_) (a' := ?_) #[true, false, true, false, false, true, false, true, false, false, false, false] rfl rfl (any_of HT_.out (by kernel_rfl)) (fun _ _ _ h => h) (Or.inl ⟨by rfl, ?_⟩) ?_ ?_
                 rotate_left
                 ·intro w'
                  go_simp
                  with_reducible rfl
                 rotate_left
                 ·simp only [Act.put, List.setIfInBounds_toArray, List.set_cons_zero, List.set_cons_succ, i64_w, i32_w]
                  rfl
                 refine take_ (i := 1) (N := some 97) (v := ?_) (a' := ?_) #[true, true, true, false, false, true, false, true, false, false, false, false] rfl rfl (take_ofW HT_.out HW_.out (by kernel_rfl)) (fun _ _ _ h => h) (Or.inl ⟨by rfl, ?_⟩) hHeld ?_ ?_
                 rotate_left
                 ·rintro w' ⟨s0, s1, s2, s3, s4, s5, s6, s7, s8, s9, s10, s11, s12, s13, s14, s15, s16, s17, s18, s19, s20, s21, s22, s23⟩
                  go_simp
                  with_reducible rfl
                 rotate_left
                 ·simp only [Act.put, List.setIfInBounds_toArray, List.set_cons_zero, List.set_cons_succ, i64_w, i32_w]
                  rfl
                 refine pure_ (i := 3) (N := some 99) (v := ?_) (a' := ?_) #[true, true, true, true, false, true, false, true, false, false, false, false] rfl rfl (any_of HT_.out (by kernel_rfl)) (fun _ _ _ h => h) (Or.inl ⟨by rfl, ?_⟩) ?_ ?_
                 rotate_left
                 ·intro w'
                  go_simp
                  with_reducible rfl
                 rotate_left
                 ·simp only [Act.put, List.setIfInBounds_toArray, List.set_cons_zero, List.set_cons_succ, i64_w, i32_w]
                  rfl
                 refine take_ (i := 4) (N := some 100) (v := ?_) (a' := ?_) #[true, true, true, true, true, true, false, true, false, false, false, false] rfl rfl (take_ofW HT_.out HW_.out (by kernel_rfl)) (fun _ _ _ h => h) (Or.inl ⟨by rfl, ?_⟩) hHeld ?_ ?_
                 rotate_left
                 ·rintro w' ⟨s0, s1, s2, s3, s4, s5, s6, s7, s8, s9, s10, s11, s12, s13, s14, s15, s16, s17, s18, s19, s20, s21, s22, s23⟩
                  go_simp
                  with_reducible rfl
                 rotate_left
                 ·simp only [Act.put, List.setIfInBounds_toArray, List.set_cons_zero, List.set_cons_succ, i64_w, i32_w]
                  rfl
                 refine take_ (i := 6) (N := some 102) (v := ?_) (a' := ?_) #[true, true, true, true, true, true, true, true, false, false, false, false] rfl rfl (take_ofW HT_.out HW_.out (by kernel_rfl)) (fun _ _ _ h => h) (Or.inl ⟨by rfl, ?_⟩) hHeld ?_ ?_
                 rotate_left
                 ·rintro w' ⟨s0, s1, s2, s3, s4, s5, s6, s7, s8, s9, s10, s11, s12, s13, s14, s15, s16, s17, s18, s19, s20, s21, s22, s23⟩
                  go_simp
                  with_reducible rfl
                 rotate_left
                 ·simp only [Act.put, List.setIfInBounds_toArray, List.set_cons_zero, List.set_cons_succ, i64_w, i32_w]
                  rfl
                 refine pure_ (i := 8) (N := some 104) (v := ?_) (a' := ?_) #[true, true, true, true, true, true, true, true, true, false, false, false] rfl rfl (any_of HT_.out (by kernel_rfl)) (fun _ _ _ h => h) (Or.inl ⟨by rfl, ?_⟩) ?_ ?_
                 rotate_left
                 ·intro w'
                  go_simp
                  with_reducible rfl
                 rotate_left
                 ·simp only [Act.put, List.setIfInBounds_toArray, List.set_cons_zero, List.set_cons_succ, i64_w, i32_w]
                  rfl
                 refine take_ (i := 9) (N := some 105) (v := ?_) (a' := ?_) #[true, true, true, true, true, true, true, true, true, true, false, false] rfl rfl (take_ofW HT_.out HW_.out (by kernel_rfl)) (fun _ _ _ h => h) (Or.inl ⟨by rfl, ?_⟩) hHeld ?_ ?_
                 rotate_left
                 ·rintro w' ⟨s0, s1, s2, s3, s4, s5, s6, s7, s8, s9, s10, s11, s12, s13, s14, s15, s16, s17, s18, s19, s20, s21, s22, s23⟩
                  go_simp
                  with_reducible rfl
                 rotate_left
                 ·simp only [Act.put, List.setIfInBounds_toArray, List.set_cons_zero, List.set_cons_succ, i64_w, i32_w]
                  rfl
                 refine one_ (i := 10) (N := some 106) #[true, true, true, true, true, true, true, true, true, true, true, false] rfl rfl (one_of HT_.out (by kernel_rfl)) (by decide) (fun K hK => ?_)
                 refine goes_ Tryz.func64 (by kernel_rfl) rfl #[.slice A149_0 (rd_L2 l0_10 x93_4).length c149_0, .slice A150_0 (rd_L2 l1_10 x93_4).length c150_0] (by rfl) rfl rfl (by (try simp only [List.map_toArray, List.map_cons, List.map_nil]); first | done | rfl | (simp only [List.length_drop, List.length_take]; rfl)) ?_
                 with_reducible refine (ins_Same.calls k4 _ _ (rd_L2 l0_10 x93_4) _ _ (rd_L2 l1_10 x93_4) true _ ?side1 ?side2 ?side3 ?side4 A54.out).mono ?_
                 (case side1 => repeat (first | exact (Kd.C_below HR149_0.out HB.out) | (with_reducible refine Kd.C_alloc ?_ _) | (with_reducible refine Kd.C_drewN ?_ _) | (with_reducible refine Kd.C_drew ?_)))
                 (case side2 => exact HC149_0.out)
                 (case side3 => repeat (first | exact (Kd.C_below HR150_0.out HB.out) | (with_reducible refine Kd.C_alloc ?_ _) | (with_reducible refine Kd.C_drewN ?_ _) | (with_reducible refine Kd.C_drew ?_)))
                 (case side4 => exact HC150_0.out)
                 rintro e w57 ⟨rfl, hb⟩
                 refine ⟨_, rfl, ?_⟩
                 have n0_ := yc (blk_below (g := gb143) (o := .cells #[.int .i64 a0_0, .slice A0_1 l0_1.length c0_1, .slice A0_2 l0_2.length c0_2, .int .i64 a0_3, .int .i64 a0_4, .int .i64 a0_5, .int .i64 a0_6, .int .i64 a0_7, .int .i64 a0_8, .int .i64 a0_9, .slice (some ad149) l0_10.length c0_10] 29 (0, 0)) (by (with_reducible repeat (first | refine yh ?_ _ | refine yj ?_ | refine yi ?_ _)); exact BK143.out) hb)
                 have n1_ := yc (blk_below (g := gb144) (o := .cells #[.int .i64 a1_0, .slice A1_1 l1_1.length c1_1, .slice A1_2 l1_2.length c1_2, .int .i64 a1_3, .int .i64 a1_4, .int .i64 a1_5, .int .i64 a1_6, .int .i64 a1_7, .int .i64 a1_8, .int .i64 a1_9, .slice (some ad150) l1_10.length c1_10] 29 (0, 0)) (by (with_reducible repeat (first | refine yh ?_ _ | refine yj ?_ | refine yi ?_ _)); exact BK144.out) hb)
                 have n2_ := yc (below_step (by repeat (first | (with_reducible first | exact HB.out | apply yd | apply ye | apply yf | refine yg ?_ GE143.out | refine yg ?_ GE144.out) | exact HB.out)) hb)
                 clear BK143
                 clear BK144
                 clear HB
                 have BK143 := n0_
                 have BK144 := n1_
                 have HB := n2_
                 clear n0_ n1_ n2_
                 (try clear hb)
                 (try clear hb2)
                 (try clear hk)
                 (try clear hi)
                 refine hK.out _ _ ⟨(ya BK143.out 0).trans rfl, (ya BK143.out 1).trans rfl, (ya BK143.out 2).trans rfl, (ya BK143.out 3).trans rfl, (ya BK143.out 4).trans rfl, (ya BK143.out 5).trans rfl, (ya BK143.out 6).trans rfl, (ya BK143.out 7).trans rfl, (ya BK143.out 8).trans rfl, (ya BK143.out 9).trans rfl, (ya BK143.out 10).trans rfl, (ya BK144.out 0).trans rfl, (ya BK144.out 1).trans rfl, (ya BK144.out 2).trans rfl, (ya BK144.out 3).trans rfl, (ya BK144.out 4).trans rfl, (ya BK144.out 5).trans rfl, (ya BK144.out 6).trans rfl, (ya BK144.out 7).trans rfl, (ya BK144.out 8).trans rfl, (ya BK144.out 9).trans rfl, (ya BK144.out 10).trans rfl, ((HB.out.cell (yk w _ hw149_0)).trans hw149_0), ((HB.out.cell (yk w _ hw150_0)).trans hw150_0)⟩ (fun hHeld => ?_)
                 clear hK K
                 refine norm_ (a' := ?_) ?_ ?_
                 rotate_left
                 ·show Act.put _ (some 106) _ = _
                  simp only [Act.put, List.setIfInBounds_toArray, List.set_cons_zero, List.set_cons_succ, i64_w, i32_w]
                  rfl
                 refine pure_ (i := 11) (N := some 107) (v := ?_) (a' := ?_) #[true, true, true, true, true, true, true, true, true, true, true, true] rfl rfl (any_of HT_.out (by kernel_rfl)) (fun _ _ _ h => h) (Or.inl ⟨by rfl, ?_⟩) ?_ ?_
                 rotate_left
                 ·intro w'
                  go_simp
                  with_reducible rfl
                 rotate_left
                 ·simp only [Act.put, List.setIfInBounds_toArray, List.set_cons_zero, List.set_cons_succ, i64_w, i32_w]
                  rfl
                 refine done_ (done_of HT_.out (by kernel_rfl)) ?_
                 try go_wp2
                 go_roundg k4
                 case measure => have := HJ2.out; have := HK2.out; have := HK3.out; have := HK4.out; omega
                 case rel => exact ⟨(wrap64 (x93_4 + 1)), (by first | rfl | (simp; done) | (simp [*]; done)), H', ⟨by have := HJ2.out; have := HK2.out; have := HK3.out; have := HK4.out; omega⟩, ⟨by (with_reducible repeat (first | refine yh ?_ _ | refine yj ?_ | refine yi ?_ _)); exact BK143.out⟩, ⟨by (with_reducible repeat (first | refine yh ?_ _ | refine yj ?_ | refine yi ?_ _)); exact BK144.out⟩, ⟨by repeat (first | (with_reducible first | exact HB.out | apply yd | apply ye | apply yf | refine yg ?_ GE143.out | refine yg ?_ GE144.out) | exact HB.out)⟩⟩
                ·replace c55 := Bool.eq_false_iff.mpr c55
                 subst c55
                 have H1 : (some false) = some r := by rw [if_neg (show ¬ (false = true) by decide)] at H; exact H
                 clear H
                 have H := H1
                 clear H1
                 obtain rfl := Option.some.inj H
                 try go_wp2
                 have n0_ := yc (yj BK143.out)
                 have n1_ := yc (yj BK144.out)
                 have n2_ := yc (yf HB.out)
                 clear BK143
                 clear BK144
                 clear HB
                 have BK143 := n0_
                 have BK144 := n1_
                 have HB := n2_
                 clear n0_ n1_ n2_
                 have p149 : 0 ≤ (x93_4 : Int) := of_decide_eq_true (by first | (with_reducible assumption) | assumption)
                 have q149 : x93_4 < (l0_10.length : Int) := of_decide_eq_true (by first | (with_reducible assumption) | assumption)
                 obtain ⟨ad149, A149_0, c149_0, e149, hx149_0, hl149_0, hi149_0⟩ := at_L2 HR0_10.out x93_4 p149 q149
                 have hw149_0 := hx149_0
                 cases e149
                 replace hx149_0 := (HB.out.cell (yk w _ hx149_0)).trans hx149_0
                 have HR149_0 := yc hi149_0
                 have HC149_0 := yc hl149_0
                 clear hi149_0 hl149_0
                 replace p149 := eq_true p149
                 replace q149 := eq_true q149
                 have p150 : 0 ≤ (x93_4 : Int) := of_decide_eq_true (by first | (with_reducible assumption) | assumption)
                 have q150 : x93_4 < (l1_10.length : Int) := of_decide_eq_true (by first | (with_reducible assumption) | assumption)
                 obtain ⟨ad150, A150_0, c150_0, e150, hx150_0, hl150_0, hi150_0⟩ := at_L2 HR1_10.out x93_4 p150 q150
                 have hw150_0 := hx150_0
                 cases e150
                 replace hx150_0 := (HB.out.cell (yk w _ hx150_0)).trans hx150_0
                 have HR150_0 := yc hi150_0
                 have HC150_0 := yc hl150_0
                 clear hi150_0 hl150_0
                 replace p150 := eq_true p150
                 replace q150 := eq_true q150
                 refine start_ (n := 12) (S := fun w' => w'.cell? ⟨gb143, 0, none⟩ = some (.int .i64 a0_0) ∧ w'.cell? ⟨gb143, 1, none⟩ = some (.slice A0_1 l0_1.length c0_1) ∧ w'.cell? ⟨gb143, 2, none⟩ = some (.slice A0_2 l0_2.length c0_2) ∧ w'.cell? ⟨gb143, 3, none⟩ = some (.int .i64 a0_3) ∧ w'.cell? ⟨gb143, 4, none⟩ = some (.int .i64 a0_4) ∧ w'.cell? ⟨gb143, 5, none⟩ = some (.int .i64 a0_5) ∧ w'.cell? ⟨gb143, 6, none⟩ = some (.int .i64 a0_6) ∧ w'.cell? ⟨gb143, 7, none⟩ = some (.int .i64 a0_7) ∧ w'.cell? ⟨gb143, 8, none⟩ = some (.int .i64 a0_8) ∧ w'.cell? ⟨gb143, 9, none⟩ = some (.int .i64 a0_9) ∧ w'.cell? ⟨gb143, 10, none⟩ = some (.slice (some ad149) l0_10.length c0_10) ∧ w'.cell? ⟨gb144, 0, none⟩ = some (.int .i64 a1_0) ∧ w'.cell? ⟨gb144, 1, none⟩ = some (.slice A1_1 l1_1.length c1_1) ∧ w'.cell? ⟨gb144, 2, none⟩ = some (.slice A1_2 l1_2.length c1_2) ∧ w'.cell? ⟨gb144, 3, none⟩ = some (.int .i64 a1_3) ∧ w'.cell? ⟨gb144, 4, none⟩ = some (.int .i64 a1_4) ∧ w'.cell? ⟨gb144, 5, none⟩ = some (.int .i64 a1_5) ∧ w'.cell? ⟨gb144, 6, none⟩ = some (.int .i64 a1_6) ∧ w'.cell? ⟨gb144, 7, none⟩ = some (.int .i64 a1_7) ∧ w'.cell? ⟨gb144, 8, none⟩ = some (.int .i64 a1_8) ∧ w'.cell? ⟨gb144, 9, none⟩ = some (.int .i64 a1_9) ∧ w'.cell? ⟨gb144, 10, none⟩ = some (.slice (some ad150) l1_10.length c1_10) ∧ w'.cell? (ad149.add (x93_4).toNat) = some (.slice A149_0 (rd_L2 l0_10 x93_4).length c149_0) ∧ w'.cell? (ad150.add (x93_4).toNat) = some (.slice A150_0 (rd_L2 l1_10 x93_4).length c150_0)) (ds := []) #[false, false, false, false, false, false, false, false, false, false, false, false] (by kernel_rfl) rfl rfl ⟨(ya BK143.out 0).trans rfl, (ya BK143.out 1).trans rfl, (ya BK143.out 2).trans rfl, (ya BK143.out 3).trans rfl, (ya BK143.out 4).trans rfl, (ya BK143.out 5).trans rfl, (ya BK143.out 6).trans rfl, (ya BK143.out 7).trans rfl, (ya BK143.out 8).trans rfl, (ya BK143.out 9).trans rfl, (ya BK143.out 10).trans rfl, (ya BK144.out 0).trans rfl, (ya BK144.out 1).trans rfl, (ya BK144.out 2).trans rfl, (ya BK144.out 3).trans rfl, (ya BK144.out 4).trans rfl, (ya BK144.out 5).trans rfl, (ya BK144.out 6).trans rfl, (ya BK144.out 7).trans rfl, (ya BK144.out 8).trans rfl, (ya BK144.out 9).trans rfl, (ya BK144.out 10).trans rfl, ((HB.out.cell (yk w _ hw149_0)).trans hw149_0), ((HB.out.cell (yk w _ hw150_0)).trans hw150_0)⟩ (fun hHeld => ?_); refine with_tabW job_Same.tab18 job_Same.bits18 (fun HT_ HW_ => ?_)
                 generalize wr.drew = w58 at BK143 BK144 HB HR149_0 HR150_0 hx149_0 hx150_0 hHeld ⊢
                 refine pure_ (i := 0) (N := some 96) (v := ?_) (a' := ?_) #[true, false, false, false, false, false, false, false, false, false, false, false] rfl rfl (any_of HT_.out (by kernel_rfl)) (fun _ _ _ h => h) (Or.inl ⟨by rfl, ?_⟩) ?_ ?_
                 rotate_left
                 ·intro w'
                  go_simp
                  with_reducible rfl
                 rotate_left
                 ·simp only [Act.put, List.setIfInBounds_toArray, List.set_cons_zero, List.set_cons_succ, i64_w, i32_w]
                  rfl
                 refine pure_ (i := 2) (N := some 98) (v := ?_) (a' := ?_) #[true, false, true, false, false, false, false, false, false, false, false, false] rfl rfl (any_of HT_.out (by kernel_rfl)) (fun _ _ _ h => h) (Or.inl ⟨by rfl, ?_⟩) ?_ ?_
                 rotate_left
                 ·intro w'
                  go_simp
                  with_reducible rfl
                 rotate_left
                 ·simp only [Act.put, List.setIfInBounds_toArray, List.set_cons_zero, List.set_cons_succ, i64_w, i32_w]
                  rfl
                 refine pure_ (i := 5) (N := some 101) (v := ?_) (a' := ?_) #[true, false, true, false, false, true, false, false, false, false, false, false] rfl rfl (any_of HT_.out (by kernel_rfl)) (fun _ _ _ h => h) (Or.inl ⟨by rfl, ?_⟩) ?_ ?_
                 rotate_left
                 ·intro w'
                  go_simp
                  with_reducible rfl
                 rotate_left
                 ·simp only [Act.put, List.setIfInBounds_toArray, List.set_cons_zero, List.set_cons_succ, i64_w, i32_w]
                  rfl
                 refine pure_ (i := 7) (N := some 103) (v := ?_) (a' := ?_) #[true, false, true, false, false, true, false, true, false, false, false, false] rfl rfl (any_of HT_.out (by kernel_rfl)) (fun _ _ _ h => h) (Or.inl ⟨by rfl, ?_⟩) ?_ ?_
                 rotate_left
                 ·intro w'
                  go_simp
                  with_reducible rfl
                 rotate_left
                 ·simp only [Act.put, List.setIfInBounds_toArray, List.set_cons_zero, List.set_cons_succ, i64_w, i32_w]
                  rfl
                 refine take_ (i := 1) (N := some 97) (v := ?_) (a' := ?_) #[true, true, true, false, false, true, false, true, false, false, false, false] rfl rfl (take_ofW HT_.out HW_.out (by kernel_rfl)) (fun _ _ _ h => h) (Or.inl ⟨by rfl, ?_⟩) hHeld ?_ ?_
                 rotate_left
                 ·rintro w' ⟨s0, s1, s2, s3, s4, s5, s6, s7, s8, s9, s10, s11, s12, s13, s14, s15, s16, s17, s18, s19, s20, s21, s22, s23⟩
                  go_simp
                  with_reducible rfl
                 rotate_left
                 ·simp only [Act.put, List.setIfInBounds_toArray, List.set_cons_zero, List.set_cons_succ, i64_w, i32_w]
                  rfl
                 refine pure_ (i := 3) (N := some 99) (v := ?_) (a' := ?_) #[true, true, true, true, false, true, false, true, false, false, false, false] rfl rfl (any_of HT_.out (by kernel_rfl)) (fun _ _ _ h => h) (Or.inl ⟨by rfl, ?_⟩) ?_ ?_
                 rotate_left
                 ·intro w'
                  go_simp
                  with_reducible rfl
                 rotate_left
                 ·simp only [Act.put, List.setIfInBounds_toArray, List.set_cons_zero, List.set_cons_succ, i64_w, i32_w]
                  rfl
                 refine take_ (i := 4) (N := some 100) (v := ?_) (a' := ?_) #[true, true, true, true, true, true, false, true, false, false, false, false] rfl rfl (take_ofW HT_.out HW_.out (by kernel_rfl)) (fun _ _ _ h => h) (Or.inl ⟨by rfl, ?_⟩) hHeld ?_ ?_
                 rotate_left
                 ·rintro w' ⟨s0, s1, s2, s3, s4, s5, s6, s7, s8, s9, s10, s11, s12, s13, s14, s15, s16, s17, s18, s19, s20, s21, s22, s23⟩
                  go_simp
                  with_reducible rfl
                 rotate_left
                 ·simp only [Act.put, List.setIfInBounds_toArray, List.set_cons_zero, List.set_cons_succ, i64_w, i32_w]
                  rfl
                 refine take_ (i := 6) (N := some 102) (v := ?_) (a' := ?_) #[true, true, true, true, true, true, true, true, false, false, false, false] rfl rfl (take_ofW HT_.out HW_.out (by kernel_rfl)) (fun _ _ _ h => h) (Or.inl ⟨by rfl, ?_⟩) hHeld ?_ ?_
                 rotate_left
                 ·rintro w' ⟨s0, s1, s2, s3, s4, s5, s6, s7, s8, s9, s10, s11, s12, s13, s14, s15, s16, s17, s18, s19, s20, s21, s22, s23⟩
                  go_simp
                  with_reducible rfl
                 rotate_left
                 ·simp only [Act.put, List.setIfInBounds_toArray, List.set_cons_zero, List.set_cons_succ, i64_w, i32_w]
                  rfl
                 refine pure_ (i := 8) (N := some 104) (v := ?_) (a' := ?_) #[true, true, true, true, true, true, true, true, true, false, false, false] rfl rfl (any_of HT_.out (by kernel_rfl)) (fun _ _ _ h => h) (Or.inl ⟨by rfl, ?_⟩) ?_ ?_
                 rotate_left
                 ·intro w'
                  go_simp
                  with_reducible rfl
                 rotate_left
                 ·simp only [Act.put, List.setIfInBounds_toArray, List.set_cons_zero, List.set_cons_succ, i64_w, i32_w]
                  rfl
                 refine take_ (i := 9) (N := some 105) (v := ?_) (a' := ?_) #[true, true, true, true, true, true, true, true, true, true, false, false] rfl rfl (take_ofW HT_.out HW_.out (by kernel_rfl)) (fun _ _ _ h => h) (Or.inl ⟨by rfl, ?_⟩) hHeld ?_ ?_
                 rotate_left
                 ·rintro w' ⟨s0, s1, s2, s3, s4, s5, s6, s7, s8, s9, s10, s11, s12, s13, s14, s15, s16, s17, s18, s19, s20, s21, s22, s23⟩
                  go_simp
                  with_reducible rfl
                 rotate_left
                 ·simp only [Act.put, List.setIfInBounds_toArray, List.set_cons_zero, List.set_cons_succ, i64_w, i32_w]
                  rfl
                 refine one_ (i := 10) (N := some 106) #[true, true, true, true, true, true, true, true, true, true, true, false] rfl rfl (one_of HT_.out (by kernel_rfl)) (by decide) (fun K hK => ?_)
                 refine goes_ Tryz.func64 (by kernel_rfl) rfl #[.slice A149_0 (rd_L2 l0_10 x93_4).length c149_0, .slice A150_0 (rd_L2 l1_10 x93_4).length c150_0] (by rfl) rfl rfl (by (try simp only [List.map_toArray, List.map_cons, List.map_nil]); first | done | rfl | (simp only [List.length_drop, List.length_take]; rfl)) ?_
                 with_reducible refine (ins_Same.calls k4 _ _ (rd_L2 l0_10 x93_4) _ _ (rd_L2 l1_10 x93_4) false _ ?side1 ?side2 ?side3 ?side4 A54.out).mono ?_
                 (case side1 => repeat (first | exact (Kd.C_below HR149_0.out HB.out) | (with_reducible refine Kd.C_alloc ?_ _) | (with_reducible refine Kd.C_drewN ?_ _) | (with_reducible refine Kd.C_drew ?_)))
                 (case side2 => exact HC149_0.out)
                 (case side3 => repeat (first | exact (Kd.C_below HR150_0.out HB.out) | (with_reducible refine Kd.C_alloc ?_ _) | (with_reducible refine Kd.C_drewN ?_ _) | (with_reducible refine Kd.C_drew ?_)))
                 (case side4 => exact HC150_0.out)
                 rintro e w59 ⟨rfl, hb⟩
                 refine ⟨_, rfl, ?_⟩
                 have n0_ := yc (blk_below (g := gb143) (o := .cells #[.int .i64 a0_0, .slice A0_1 l0_1.length c0_1, .slice A0_2 l0_2.length c0_2, .int .i64 a0_3, .int .i64 a0_4, .int .i64 a0_5, .int .i64 a0_6, .int .i64 a0_7, .int .i64 a0_8, .int .i64 a0_9, .slice (some ad149) l0_10.length c0_10] 29 (0, 0)) (by (with_reducible repeat (first | refine yh ?_ _ | refine yj ?_ | refine yi ?_ _)); exact BK143.out) hb)
                 have n1_ := yc (blk_below (g := gb144) (o := .cells #[.int .i64 a1_0, .slice A1_1 l1_1.length c1_1, .slice A1_2 l1_2.length c1_2, .int .i64 a1_3, .int .i64 a1_4, .int .i64 a1_5, .int .i64 a1_6, .int .i64 a1_7, .int .i64 a1_8, .int .i64 a1_9, .slice (some ad150) l1_10.length c1_10] 29 (0, 0)) (by (with_reducible repeat (first | refine yh ?_ _ | refine yj ?_ | refine yi ?_ _)); exact BK144.out) hb)
                 have n2_ := yc (below_step (by repeat (first | (with_reducible first | exact HB.out | apply yd | apply ye | apply yf | refine yg ?_ GE143.out | refine yg ?_ GE144.out) | exact HB.out)) hb)
                 clear BK143
                 clear BK144
                 clear HB
                 have BK143 := n0_
                 have BK144 := n1_
                 have HB := n2_
                 clear n0_ n1_ n2_
                 (try clear hb)
                 (try clear hb2)
                 (try clear hk)
                 (try clear hi)
                 refine hK.out _ _ ⟨(ya BK143.out 0).trans rfl, (ya BK143.out 1).trans rfl, (ya BK143.out 2).trans rfl, (ya BK143.out 3).trans rfl, (ya BK143.out 4).trans rfl, (ya BK143.out 5).trans rfl, (ya BK143.out 6).trans rfl, (ya BK143.out 7).trans rfl, (ya BK143.out 8).trans rfl, (ya BK143.out 9).trans rfl, (ya BK143.out 10).trans rfl, (ya BK144.out 0).trans rfl, (ya BK144.out 1).trans rfl, (ya BK144.out 2).trans rfl, (ya BK144.out 3).trans rfl, (ya BK144.out 4).trans rfl, (ya BK144.out 5).trans rfl, (ya BK144.out 6).trans rfl, (ya BK144.out 7).trans rfl, (ya BK144.out 8).trans rfl, (ya BK144.out 9).trans rfl, (ya BK144.out 10).trans rfl, ((HB.out.cell (yk w _ hw149_0)).trans hw149_0), ((HB.out.cell (yk w _ hw150_0)).trans hw150_0)⟩ (fun hHeld => ?_)
                 clear hK K
                 refine norm_ (a' := ?_) ?_ ?_
                 rotate_left
                 ·show Act.put _ (some 106) _ = _
                  simp only [Act.put, List.setIfInBounds_toArray, List.set_cons_zero, List.set_cons_succ, i64_w, i32_w]
                  rfl
                 refine pure_ (i := 11) (N := some 107) (v := ?_) (a' := ?_) #[true, true, true, true, true, true, true, true, true, true, true, true] rfl rfl (any_of HT_.out (by kernel_rfl)) (fun _ _ _ h => h) (Or.inl ⟨by rfl, ?_⟩) ?_ ?_
                 rotate_left
                 ·intro w'
                  go_simp
                  with_reducible rfl
                 rotate_left
                 ·simp only [Act.put, List.setIfInBounds_toArray, List.set_cons_zero, List.set_cons_succ, i64_w, i32_w]
                  rfl
                 refine done_ (done_of HT_.out (by kernel_rfl)) ?_
                 try go_wp2
                 go_ret
                 exact ⟨by first | rfl | (simp [errW_none, errW_some] <;> rfl) | (simp [*, errW_none, errW_some] <;> rfl), by repeat (first | (with_reducible first | exact HB.out | apply yd | apply ye | apply yf | refine yg ?_ GE143.out | refine yg ?_ GE144.out) | exact HB.out)⟩
               ·rw [if_neg c53] at H
                exact absurd H (by simp)
              ·rw [if_neg c52] at H
               exact absurd H (by simp)
             ·rw [if_neg c51] at H
              exact absurd H (by simp)
            ·rw [if_neg c50] at H
             have c50b0 : decide (x93_4 < (l0_10.length : Int)) = false := decide_eq_false c50
             clear c50
             obtain rfl := Option.some.inj H
             go_wp2
             go_ret
             exact ⟨by first | rfl | (simp [errW_none, errW_some] <;> rfl) | (simp [*, errW_none, errW_some] <;> rfl), by repeat (first | (with_reducible first | exact HB.out | apply yd | apply ye | apply yf | refine yg ?_ GE143.out | refine yg ?_ GE144.out) | exact HB.out)⟩
end Go.Proofs.YtgkchcbnbbgdpaaGreatDoor.QJobCopies
