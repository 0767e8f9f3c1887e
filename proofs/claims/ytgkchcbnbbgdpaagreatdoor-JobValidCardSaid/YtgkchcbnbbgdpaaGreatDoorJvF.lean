/- Joined out of: AbVP77 AbVOne AbCC AbVCnt. -/
import Derived.Test.YtgkchcbnbbgdpaaGreatDoorJvE
import Derived.KernelRfl
import Derived.Test.YtgkchcbnbbgdpaaGreatDoorJvC
import Derived.Test.YtgkchcbnbbgdpaaGreatDoorJvD
set_option linter.unusedVariables false
set_option linter.unusedSimpArgs false
namespace Go.Ab
section
variable (op a b c k cells long : Int)
theorem one77_1 : ∃ h', Ca cxV 77 [insA 1 op a b c k, .int .i64 cells, .int .i64 long] ⟨0, .leaf⟩ (.int .i64 (oneI 1 op a b c k cells long)) h' := by
  by_cases q0 : a = 0
  · by_cases q1 : b = 0
    · by_cases q2 : c = 0
      · by_cases q3 : k = 0
        · by_cases q4 : op = 0
          · exact ora_path (D := [(!decide (a = 0)) = false, (!decide (b = 0)) = false, (!decide (c = 0)) = false, (!decide (k = 0)) = false, (!decide (op = 0)) = false]) (n := 300) (ans := decA 0x555555555f757755f7f757755f7f757755f7f757df555555555555555555555555555555) (ix := decI 0x1111112222222233333333444444445) (nx := 2) (v := 0) (by kernel_rfl) ⟨dNF q0, dNF q1, dNF q2, dNF q3, dNF q4, trivial⟩ (by unfold oneI; repeat (first | rw [if_pos (by omega)] | rw [if_neg (by omega)]))
          · exact ora_path (D := [(!decide (a = 0)) = false, (!decide (b = 0)) = false, (!decide (c = 0)) = false, (!decide (k = 0)) = false, (!decide (op = 0)) = true]) (n := 300) (ans := decA 0xb757755f7f757755f7f757755f7f757df555555555555555555555555555555) (ix := decI 0x1111112222222233333333444444445) (nx := 2) (v := 83) (by kernel_rfl) ⟨dNF q0, dNF q1, dNF q2, dNF q3, dNT q4, trivial⟩ (by unfold oneI; repeat (first | rw [if_pos (by omega)] | rw [if_neg (by omega)]))
        · exact ora_path (D := [(!decide (a = 0)) = false, (!decide (b = 0)) = false, (!decide (c = 0)) = false, (!decide (k = 0)) = true]) (n := 300) (ans := decA 0x6aaab757755f7f757755f7f757df555555555555555555555555555555) (ix := decI 0x111111222222223333333344444444) (nx := 2) (v := 83) (by kernel_rfl) ⟨dNF q0, dNF q1, dNF q2, dNT q3, trivial⟩ (by unfold oneI; repeat (first | rw [if_pos (by omega)] | rw [if_neg (by omega)]))
      · exact ora_path (D := [(!decide (a = 0)) = false, (!decide (b = 0)) = false, (!decide (c = 0)) = true]) (n := 300) (ans := decA 0x55556aaab757755f7f757df555555555555555555555555555555) (ix := decI 0x1111112222222233333333) (nx := 2) (v := 83) (by kernel_rfl) ⟨dNF q0, dNF q1, dNT q2, trivial⟩ (by unfold oneI; repeat (first | rw [if_pos (by omega)] | rw [if_neg (by omega)]))
    · exact ora_path (D := [(!decide (a = 0)) = false, (!decide (b = 0)) = true]) (n := 300) (ans := decA 0x555555556aaab757df555555555555555555555555555555) (ix := decI 0x11111122222222) (nx := 2) (v := 83) (by kernel_rfl) ⟨dNF q0, dNT q1, trivial⟩ (by unfold oneI; repeat (first | rw [if_pos (by omega)] | rw [if_neg (by omega)]))
  · exact ora_path (D := [(!decide (a = 0)) = true]) (n := 300) (ans := decA 0x1555555555555aaa555555555555555555555555555555) (ix := decI 0x111111) (nx := 2) (v := 83) (by kernel_rfl) ⟨dNT q0, trivial⟩ (by unfold oneI; repeat (first | rw [if_pos (by omega)] | rw [if_neg (by omega)]))
theorem one77_2 : ∃ h', Ca cxV 77 [insA 2 op a b c k, .int .i64 cells, .int .i64 long] ⟨0, .leaf⟩ (.int .i64 (oneI 2 op a b c k cells long)) h' := by
  by_cases q0 : a < 0
  · exact ora_path (D := [(decide (a < 0)) = true]) (n := 300) (ans := decA 0x1555556a555555555555555555555) (ix := decI 0x111) (nx := 2) (v := 82) (by kernel_rfl) ⟨dT q0, trivial⟩ (by unfold oneI; repeat (first | rw [if_pos (by omega)] | rw [if_neg (by omega)]))
  · by_cases q1 : 15 < a
    · exact ora_path (D := [(decide (a < 0)) = false, (decide (15 < a)) = true]) (n := 300) (ans := decA 0x1556aa7f555555555555555555555) (ix := decI 0x11122222) (nx := 2) (v := 82) (by kernel_rfl) ⟨dF q0, dT q1, trivial⟩ (by unfold oneI; repeat (first | rw [if_pos (by omega)] | rw [if_neg (by omega)]))
    · by_cases q2 : b = 0
      · by_cases q3 : c = 0
        · by_cases q4 : op = 0
          · exact ora_path (D := [(decide (a < 0)) = false, (decide (15 < a)) = false, (!decide (b = 0)) = false, (!decide (c = 0)) = false, (!decide (op = 0)) = false]) (n := 300) (ans := decA 0x155555555555575555555555555dd5dd5f55fdd5dd5557d55f555555555555555555dd5d55f7f555555555555555555555) (ix := decI 0x1112222233333333444444445) (nx := 2) (v := 0) (by kernel_rfl) ⟨dF q0, dF q1, dNF q2, dNF q3, dNF q4, trivial⟩ (by unfold oneI; repeat (first | rw [if_pos (by omega)] | rw [if_neg (by omega)]))
          · exact ora_path (D := [(decide (a < 0)) = false, (decide (15 < a)) = false, (!decide (b = 0)) = false, (!decide (c = 0)) = false, (!decide (op = 0)) = true]) (n := 300) (ans := decA 0x25555555555555dd5dd5f55fdd5dd5557d55f555555555555555555dd5d55f7f555555555555555555555) (ix := decI 0x1112222233333333444444445) (nx := 2) (v := 83) (by kernel_rfl) ⟨dF q0, dF q1, dNF q2, dNF q3, dNT q4, trivial⟩ (by unfold oneI; repeat (first | rw [if_pos (by omega)] | rw [if_neg (by omega)]))
        · exact ora_path (D := [(decide (a < 0)) = false, (decide (15 < a)) = false, (!decide (b = 0)) = false, (!decide (c = 0)) = true]) (n := 300) (ans := decA 0x15555aaaadd5dd5557d55f555555555555555555dd5d55f7f555555555555555555555) (ix := decI 0x111222223333333344444444) (nx := 2) (v := 83) (by kernel_rfl) ⟨dF q0, dF q1, dNF q2, dNT q3, trivial⟩ (by unfold oneI; repeat (first | rw [if_pos (by omega)] | rw [if_neg (by omega)]))
      · exact ora_path (D := [(decide (a < 0)) = false, (decide (15 < a)) = false, (!decide (b = 0)) = true]) (n := 300) (ans := decA 0x155555555aaaa555555555555555555dd5d55f7f555555555555555555555) (ix := decI 0x1112222233333333) (nx := 2) (v := 83) (by kernel_rfl) ⟨dF q0, dF q1, dNT q2, trivial⟩ (by unfold oneI; repeat (first | rw [if_pos (by omega)] | rw [if_neg (by omega)]))
theorem one77_3 : ∃ h', Ca cxV 77 [insA 3 op a b c k, .int .i64 cells, .int .i64 long] ⟨0, .leaf⟩ (.int .i64 (oneI 3 op a b c k cells long)) h' := by
  by_cases q0 : a < 0
  · exact ora_path (D := [(decide (a < 0)) = true]) (n := 300) (ans := decA 0x1555556a555555555555555555555) (ix := decI 0x111) (nx := 2) (v := 82) (by kernel_rfl) ⟨dT q0, trivial⟩ (by unfold oneI; repeat (first | rw [if_pos (by omega)] | rw [if_neg (by omega)]))
  · by_cases q1 : 15 < a
    · exact ora_path (D := [(decide (a < 0)) = false, (decide (15 < a)) = true]) (n := 300) (ans := decA 0x1556aa7f555555555555555555555) (ix := decI 0x11122222) (nx := 2) (v := 82) (by kernel_rfl) ⟨dF q0, dT q1, trivial⟩ (by unfold oneI; repeat (first | rw [if_pos (by omega)] | rw [if_neg (by omega)]))
    · by_cases q2 : b < 0
      · exact ora_path (D := [(decide (a < 0)) = false, (decide (15 < a)) = false, (decide (b < 0)) = true]) (n := 300) (ans := decA 0x555dea5755f7f555555555555555555555) (ix := decI 0x11122233322) (nx := 2) (v := 82) (by kernel_rfl) ⟨dF q0, dF q1, dT q2, trivial⟩ (by unfold oneI; repeat (first | rw [if_pos (by omega)] | rw [if_neg (by omega)]))
      · by_cases q3 : 15 < b
        · exact ora_path (D := [(decide (a < 0)) = false, (decide (15 < a)) = false, (decide (b < 0)) = false, (decide (15 < b)) = true]) (n := 300) (ans := decA 0x6aadff5755f7f555555555555555555555) (ix := decI 0x1112223332244444) (nx := 2) (v := 82) (by kernel_rfl) ⟨dF q0, dF q1, dF q2, dT q3, trivial⟩ (by unfold oneI; repeat (first | rw [if_pos (by omega)] | rw [if_neg (by omega)]))
        · by_cases q4 : c = 0
          · by_cases q5 : k = 0
            · by_cases q6 : op = 0
              · exact ora_path (D := [(decide (a < 0)) = false, (decide (15 < a)) = false, (decide (b < 0)) = false, (decide (15 < b)) = false, (!decide (c = 0)) = false, (!decide (k = 0)) = false, (!decide (op = 0)) = false]) (n := 300) (ans := decA 0x5555555555555f75775555f557f75775555f557d55555555555555555555555dd5d55fdff5755f7f555555555555555555555) (ix := decI 0x111222333224444455555555666666667) (nx := 2) (v := 0) (by kernel_rfl) ⟨dF q0, dF q1, dF q2, dF q3, dNF q4, dNF q5, dNF q6, trivial⟩ (by unfold oneI; repeat (first | rw [if_pos (by omega)] | rw [if_neg (by omega)]))
              · exact ora_path (D := [(decide (a < 0)) = false, (decide (15 < a)) = false, (decide (b < 0)) = false, (decide (15 < b)) = false, (!decide (c = 0)) = false, (!decide (k = 0)) = false, (!decide (op = 0)) = true]) (n := 300) (ans := decA 0xb75775555f557f75775555f557d55555555555555555555555dd5d55fdff5755f7f555555555555555555555) (ix := decI 0x111222333224444455555555666666667) (nx := 2) (v := 83) (by kernel_rfl) ⟨dF q0, dF q1, dF q2, dF q3, dNF q4, dNF q5, dNT q6, trivial⟩ (by unfold oneI; repeat (first | rw [if_pos (by omega)] | rw [if_neg (by omega)]))
            · exact ora_path (D := [(decide (a < 0)) = false, (decide (15 < a)) = false, (decide (b < 0)) = false, (decide (15 < b)) = false, (!decide (c = 0)) = false, (!decide (k = 0)) = true]) (n := 300) (ans := decA 0x6aaab75775555f557d55555555555555555555555dd5d55fdff5755f7f555555555555555555555) (ix := decI 0x11122233322444445555555566666666) (nx := 2) (v := 83) (by kernel_rfl) ⟨dF q0, dF q1, dF q2, dF q3, dNF q4, dNT q5, trivial⟩ (by unfold oneI; repeat (first | rw [if_pos (by omega)] | rw [if_neg (by omega)]))
          · exact ora_path (D := [(decide (a < 0)) = false, (decide (15 < a)) = false, (decide (b < 0)) = false, (decide (15 < b)) = false, (!decide (c = 0)) = true]) (n := 300) (ans := decA 0x55556aaa955555555555555555555555dd5d55fdff5755f7f555555555555555555555) (ix := decI 0x111222333224444455555555) (nx := 2) (v := 83) (by kernel_rfl) ⟨dF q0, dF q1, dF q2, dF q3, dNT q4, trivial⟩ (by unfold oneI; repeat (first | rw [if_pos (by omega)] | rw [if_neg (by omega)]))
theorem one77_4 : ∃ h', Ca cxV 77 [insA 4 op a b c k, .int .i64 cells, .int .i64 long] ⟨0, .leaf⟩ (.int .i64 (oneI 4 op a b c k cells long)) h' := by
  by_cases q0 : op < 19
  · exact ora_path (D := [(decide (op < 19)) = true]) (n := 300) (ans := decA 0x559a9555555555555555) (ix := decI 0x1111) (nx := 2) (v := 81) (by kernel_rfl) ⟨dT q0, trivial⟩ (by unfold oneI; repeat (first | rw [if_pos (by omega)] | rw [if_neg (by omega)]))
  · by_cases q1 : 21 < op
    · exact ora_path (D := [(decide (op < 19)) = false, (decide (21 < op)) = true]) (n := 300) (ans := decA 0x95dfd555555555555555) (ix := decI 0x11112) (nx := 2) (v := 81) (by kernel_rfl) ⟨dF q0, dT q1, trivial⟩ (by unfold oneI; repeat (first | rw [if_pos (by omega)] | rw [if_neg (by omega)]))
    · by_cases q2 : a < 0
      · exact ora_path (D := [(decide (op < 19)) = false, (decide (21 < op)) = false, (decide (a < 0)) = true]) (n := 300) (ans := decA 0x555555a9555d5dfd555555555555555) (ix := decI 0x11112333) (nx := 2) (v := 82) (by kernel_rfl) ⟨dF q0, dF q1, dT q2, trivial⟩ (by unfold oneI; repeat (first | rw [if_pos (by omega)] | rw [if_neg (by omega)]))
      · by_cases q3 : 15 < a
        · exact ora_path (D := [(decide (op < 19)) = false, (decide (21 < op)) = false, (decide (a < 0)) = false, (decide (15 < a)) = true]) (n := 300) (ans := decA 0x555aa9fd555d5dfd555555555555555) (ix := decI 0x1111233344444) (nx := 2) (v := 82) (by kernel_rfl) ⟨dF q0, dF q1, dF q2, dT q3, trivial⟩ (by unfold oneI; repeat (first | rw [if_pos (by omega)] | rw [if_neg (by omega)]))
        · by_cases q4 : b < 0
          · exact ora_path (D := [(decide (op < 19)) = false, (decide (21 < op)) = false, (decide (a < 0)) = false, (decide (15 < a)) = false, (decide (b < 0)) = true]) (n := 300) (ans := decA 0x15577a95d557dfd555d5dfd555555555555555) (ix := decI 0x1111233344455544) (nx := 2) (v := 82) (by kernel_rfl) ⟨dF q0, dF q1, dF q2, dF q3, dT q4, trivial⟩ (by unfold oneI; repeat (first | rw [if_pos (by omega)] | rw [if_neg (by omega)]))
          · by_cases q5 : 15 < b
            · exact ora_path (D := [(decide (op < 19)) = false, (decide (21 < op)) = false, (decide (a < 0)) = false, (decide (15 < a)) = false, (decide (b < 0)) = false, (decide (15 < b)) = true]) (n := 300) (ans := decA 0x1aab7fd5d557dfd555d5dfd555555555555555) (ix := decI 0x111123334445554466666) (nx := 2) (v := 82) (by kernel_rfl) ⟨dF q0, dF q1, dF q2, dF q3, dF q4, dT q5, trivial⟩ (by unfold oneI; repeat (first | rw [if_pos (by omega)] | rw [if_neg (by omega)]))
            · by_cases q6 : c = 0
              · by_cases q7 : k = 0
                · exact ora_path (D := [(decide (op < 19)) = false, (decide (21 < op)) = false, (decide (a < 0)) = false, (decide (15 < a)) = false, (decide (b < 0)) = false, (decide (15 < b)) = false, (!decide (c = 0)) = false, (!decide (k = 0)) = false]) (n := 300) (ans := decA 0x55555555555555577577557d555fdd5dd55557d555f55555555555555555555555555577575557f7fd5d557dfd555d5dfd555555555555555) (ix := decI 0x1111233344455544666667777777788888888) (nx := 2) (v := 0) (by kernel_rfl) ⟨dF q0, dF q1, dF q2, dF q3, dF q4, dF q5, dNF q6, dNF q7, trivial⟩ (by unfold oneI; repeat (first | rw [if_pos (by omega)] | rw [if_neg (by omega)]))
                · exact ora_path (D := [(decide (op < 19)) = false, (decide (21 < op)) = false, (decide (a < 0)) = false, (decide (15 < a)) = false, (decide (b < 0)) = false, (decide (15 < b)) = false, (!decide (c = 0)) = false, (!decide (k = 0)) = true]) (n := 300) (ans := decA 0x1aaaadd5dd55557d555f55555555555555555555555555577575557f7fd5d557dfd555d5dfd555555555555555) (ix := decI 0x1111233344455544666667777777788888888) (nx := 2) (v := 83) (by kernel_rfl) ⟨dF q0, dF q1, dF q2, dF q3, dF q4, dF q5, dNF q6, dNT q7, trivial⟩ (by unfold oneI; repeat (first | rw [if_pos (by omega)] | rw [if_neg (by omega)]))
              · exact ora_path (D := [(decide (op < 19)) = false, (decide (21 < op)) = false, (decide (a < 0)) = false, (decide (15 < a)) = false, (decide (b < 0)) = false, (decide (15 < b)) = false, (!decide (c = 0)) = true]) (n := 300) (ans := decA 0x15555aaaa55555555555555555555555555577575557f7fd5d557dfd555d5dfd555555555555555) (ix := decI 0x11112333444555446666677777777) (nx := 2) (v := 83) (by kernel_rfl) ⟨dF q0, dF q1, dF q2, dF q3, dF q4, dF q5, dNT q6, trivial⟩ (by unfold oneI; repeat (first | rw [if_pos (by omega)] | rw [if_neg (by omega)]))
theorem one77_5 : ∃ h', Ca cxV 77 [insA 5 op a b c k, .int .i64 cells, .int .i64 long] ⟨0, .leaf⟩ (.int .i64 (oneI 5 op a b c k cells long)) h' := by
  by_cases q0 : op < 1
  · exact ora_path (D := [(decide (op < 1)) = true]) (n := 300) (ans := decA 0x155559a9555555) (ix := decI 0x1111) (nx := 2) (v := 81) (by kernel_rfl) ⟨dT q0, trivial⟩ (by unfold oneI; repeat (first | rw [if_pos (by omega)] | rw [if_neg (by omega)]))
  · by_cases q1 : 18 < op
    · exact ora_path (D := [(decide (op < 1)) = false, (decide (18 < op)) = true]) (n := 300) (ans := decA 0x1aa95dfd555555) (ix := decI 0x111122222) (nx := 2) (v := 81) (by kernel_rfl) ⟨dF q0, dT q1, trivial⟩ (by unfold oneI; repeat (first | rw [if_pos (by omega)] | rw [if_neg (by omega)]))
    · by_cases q2 : a < 0
      · exact ora_path (D := [(decide (op < 1)) = false, (decide (18 < op)) = false, (decide (a < 0)) = true]) (n := 300) (ans := decA 0x555555a95557755755557d5dfd555555) (ix := decI 0x111122222333) (nx := 2) (v := 82) (by kernel_rfl) ⟨dF q0, dF q1, dT q2, trivial⟩ (by unfold oneI; repeat (first | rw [if_pos (by omega)] | rw [if_neg (by omega)]))
      · by_cases q3 : 15 < a
        · exact ora_path (D := [(decide (op < 1)) = false, (decide (18 < op)) = false, (decide (a < 0)) = false, (decide (15 < a)) = true]) (n := 300) (ans := decA 0x555aa9fd5557755755557d5dfd555555) (ix := decI 0x11112222233344444) (nx := 2) (v := 82) (by kernel_rfl) ⟨dF q0, dF q1, dF q2, dT q3, trivial⟩ (by unfold oneI; repeat (first | rw [if_pos (by omega)] | rw [if_neg (by omega)]))
        · by_cases q4 : b < 0
          · exact ora_path (D := [(decide (op < 1)) = false, (decide (18 < op)) = false, (decide (a < 0)) = false, (decide (15 < a)) = false, (decide (b < 0)) = true]) (n := 300) (ans := decA 0x15577a95d557dfd5557755755557d5dfd555555) (ix := decI 0x11112222233344455544) (nx := 2) (v := 82) (by kernel_rfl) ⟨dF q0, dF q1, dF q2, dF q3, dT q4, trivial⟩ (by unfold oneI; repeat (first | rw [if_pos (by omega)] | rw [if_neg (by omega)]))
          · by_cases q5 : 15 < b
            · exact ora_path (D := [(decide (op < 1)) = false, (decide (18 < op)) = false, (decide (a < 0)) = false, (decide (15 < a)) = false, (decide (b < 0)) = false, (decide (15 < b)) = true]) (n := 300) (ans := decA 0x1aab7fd5d557dfd5557755755557d5dfd555555) (ix := decI 0x1111222223334445554466666) (nx := 2) (v := 82) (by kernel_rfl) ⟨dF q0, dF q1, dF q2, dF q3, dF q4, dT q5, trivial⟩ (by unfold oneI; repeat (first | rw [if_pos (by omega)] | rw [if_neg (by omega)]))
            · by_cases q6 : c < 0
              · exact ora_path (D := [(decide (op < 1)) = false, (decide (18 < op)) = false, (decide (a < 0)) = false, (decide (15 < a)) = false, (decide (b < 0)) = false, (decide (15 < b)) = false, (decide (c < 0)) = true]) (n := 300) (ans := decA 0x77a95d5557f7fd5d557dfd5557755755557d5dfd555555) (ix := decI 0x1111222223334445554466677766) (nx := 2) (v := 82) (by kernel_rfl) ⟨dF q0, dF q1, dF q2, dF q3, dF q4, dF q5, dT q6, trivial⟩ (by unfold oneI; repeat (first | rw [if_pos (by omega)] | rw [if_neg (by omega)]))
              · by_cases q7 : 15 < c
                · exact ora_path (D := [(decide (op < 1)) = false, (decide (18 < op)) = false, (decide (a < 0)) = false, (decide (15 < a)) = false, (decide (b < 0)) = false, (decide (15 < b)) = false, (decide (c < 0)) = false, (decide (15 < c)) = true]) (n := 300) (ans := decA 0xb7fd5d5557f7fd5d557dfd5557755755557d5dfd555555) (ix := decI 0x11112222233344455544666777668) (nx := 2) (v := 82) (by kernel_rfl) ⟨dF q0, dF q1, dF q2, dF q3, dF q4, dF q5, dF q6, dT q7, trivial⟩ (by unfold oneI; repeat (first | rw [if_pos (by omega)] | rw [if_neg (by omega)]))
                · by_cases q8 : k = 0
                  · exact ora_path (D := [(decide (op < 1)) = false, (decide (18 < op)) = false, (decide (a < 0)) = false, (decide (15 < a)) = false, (decide (b < 0)) = false, (decide (15 < b)) = false, (decide (c < 0)) = false, (decide (15 < c)) = false, (!decide (k = 0)) = false]) (n := 300) (ans := decA 0x155555555555555555dd5dd5f5f55555555555555555555555555555555555555555f7fd5d5557f7fd5d557dfd5557755755557d5dfd555555) (ix := decI 0x1111222223334445554466677766899999999) (nx := 2) (v := 0) (by kernel_rfl) ⟨dF q0, dF q1, dF q2, dF q3, dF q4, dF q5, dF q6, dF q7, dNF q8, trivial⟩ (by unfold oneI; repeat (first | rw [if_pos (by omega)] | rw [if_neg (by omega)]))
                  · exact ora_path (D := [(decide (op < 1)) = false, (decide (18 < op)) = false, (decide (a < 0)) = false, (decide (15 < a)) = false, (decide (b < 0)) = false, (decide (15 < b)) = false, (decide (c < 0)) = false, (decide (15 < c)) = false, (!decide (k = 0)) = true]) (n := 300) (ans := decA 0x1aaaa55555555555555555555555555555555555555555f7fd5d5557f7fd5d557dfd5557755755557d5dfd555555) (ix := decI 0x1111222223334445554466677766899999999) (nx := 2) (v := 83) (by kernel_rfl) ⟨dF q0, dF q1, dF q2, dF q3, dF q4, dF q5, dF q6, dF q7, dNT q8, trivial⟩ (by unfold oneI; repeat (first | rw [if_pos (by omega)] | rw [if_neg (by omega)]))
theorem one77_6 : ∃ h', Ca cxV 77 [insA 6 op a b c k, .int .i64 cells, .int .i64 long] ⟨0, .leaf⟩ (.int .i64 (oneI 6 op a b c k cells long)) h' := by
  by_cases q0 : a < 0
  · exact ora_path (D := [(decide (a < 0)) = true]) (n := 300) (ans := decA 0x1555556a55555555555555555555555) (ix := decI 0x111) (nx := 2) (v := 82) (by kernel_rfl) ⟨dT q0, trivial⟩ (by unfold oneI; repeat (first | rw [if_pos (by omega)] | rw [if_neg (by omega)]))
  · by_cases q1 : 15 < a
    · exact ora_path (D := [(decide (a < 0)) = false, (decide (15 < a)) = true]) (n := 300) (ans := decA 0x1556aa7f55555555555555555555555) (ix := decI 0x11122222) (nx := 2) (v := 82) (by kernel_rfl) ⟨dF q0, dT q1, trivial⟩ (by unfold oneI; repeat (first | rw [if_pos (by omega)] | rw [if_neg (by omega)]))
    · by_cases q2 : b < 0
      · exact ora_path (D := [(decide (a < 0)) = false, (decide (15 < a)) = false, (decide (b < 0)) = true]) (n := 300) (ans := decA 0x555dea5755f7f55555555555555555555555) (ix := decI 0x11122233322) (nx := 2) (v := 82) (by kernel_rfl) ⟨dF q0, dF q1, dT q2, trivial⟩ (by unfold oneI; repeat (first | rw [if_pos (by omega)] | rw [if_neg (by omega)]))
      · by_cases q3 : 15 < b
        · exact ora_path (D := [(decide (a < 0)) = false, (decide (15 < a)) = false, (decide (b < 0)) = false, (decide (15 < b)) = true]) (n := 300) (ans := decA 0x6aadff5755f7f55555555555555555555555) (ix := decI 0x1112223332244444) (nx := 2) (v := 82) (by kernel_rfl) ⟨dF q0, dF q1, dF q2, dT q3, trivial⟩ (by unfold oneI; repeat (first | rw [if_pos (by omega)] | rw [if_neg (by omega)]))
        · by_cases q4 : c = 0
          · by_cases q5 : op = 0
            · exact ora_path (D := [(decide (a < 0)) = false, (decide (15 < a)) = false, (decide (b < 0)) = false, (decide (15 < b)) = false, (!decide (c = 0)) = false, (!decide (op = 0)) = false]) (n := 300) (ans := decA 0x555555555555555d555555555555557757757d557d5555555555555555555555555dd5d555fdff5755f7f55555555555555555555555) (ix := decI 0x1112223332244444555555556) (nx := 2) (v := 0) (by kernel_rfl) ⟨dF q0, dF q1, dF q2, dF q3, dNF q4, dNF q5, trivial⟩ (by unfold oneI; repeat (first | rw [if_pos (by omega)] | rw [if_neg (by omega)]))
            · exact ora_path (D := [(decide (a < 0)) = false, (decide (15 < a)) = false, (decide (b < 0)) = false, (decide (15 < b)) = false, (!decide (c = 0)) = false, (!decide (op = 0)) = true]) (n := 300) (ans := decA 0x9555555555555557757757d557d5555555555555555555555555dd5d555fdff5755f7f55555555555555555555555) (ix := decI 0x1112223332244444555555556) (nx := 2) (v := 83) (by kernel_rfl) ⟨dF q0, dF q1, dF q2, dF q3, dNF q4, dNT q5, trivial⟩ (by unfold oneI; repeat (first | rw [if_pos (by omega)] | rw [if_neg (by omega)]))
          · exact ora_path (D := [(decide (a < 0)) = false, (decide (15 < a)) = false, (decide (b < 0)) = false, (decide (15 < b)) = false, (!decide (c = 0)) = true]) (n := 300) (ans := decA 0x55556aaa95555555555555555555555555dd5d555fdff5755f7f55555555555555555555555) (ix := decI 0x111222333224444455555555) (nx := 2) (v := 83) (by kernel_rfl) ⟨dF q0, dF q1, dF q2, dF q3, dNT q4, trivial⟩ (by unfold oneI; repeat (first | rw [if_pos (by omega)] | rw [if_neg (by omega)]))
theorem one77_7 : ∃ h', Ca cxV 77 [insA 7 op a b c k, .int .i64 cells, .int .i64 long] ⟨0, .leaf⟩ (.int .i64 (oneI 7 op a b c k cells long)) h' := by
  by_cases q0 : a < 0
  · exact ora_path (D := [(decide (a < 0)) = true]) (n := 300) (ans := decA 0x1555556a55555555555555555555555) (ix := decI 0x111) (nx := 2) (v := 82) (by kernel_rfl) ⟨dT q0, trivial⟩ (by unfold oneI; repeat (first | rw [if_pos (by omega)] | rw [if_neg (by omega)]))
  · by_cases q1 : 15 < a
    · exact ora_path (D := [(decide (a < 0)) = false, (decide (15 < a)) = true]) (n := 300) (ans := decA 0x1556aa7f55555555555555555555555) (ix := decI 0x11122222) (nx := 2) (v := 82) (by kernel_rfl) ⟨dF q0, dT q1, trivial⟩ (by unfold oneI; repeat (first | rw [if_pos (by omega)] | rw [if_neg (by omega)]))
    · by_cases q2 : b < 0
      · exact ora_path (D := [(decide (a < 0)) = false, (decide (15 < a)) = false, (decide (b < 0)) = true]) (n := 300) (ans := decA 0x555dea5755f7f55555555555555555555555) (ix := decI 0x11122233322) (nx := 2) (v := 82) (by kernel_rfl) ⟨dF q0, dF q1, dT q2, trivial⟩ (by unfold oneI; repeat (first | rw [if_pos (by omega)] | rw [if_neg (by omega)]))
      · by_cases q3 : 15 < b
        · exact ora_path (D := [(decide (a < 0)) = false, (decide (15 < a)) = false, (decide (b < 0)) = false, (decide (15 < b)) = true]) (n := 300) (ans := decA 0x6aadff5755f7f55555555555555555555555) (ix := decI 0x1112223332244444) (nx := 2) (v := 82) (by kernel_rfl) ⟨dF q0, dF q1, dF q2, dT q3, trivial⟩ (by unfold oneI; repeat (first | rw [if_pos (by omega)] | rw [if_neg (by omega)]))
        · by_cases q4 : c = 0
          · by_cases q5 : op = 0
            · exact ora_path (D := [(decide (a < 0)) = false, (decide (15 < a)) = false, (decide (b < 0)) = false, (decide (15 < b)) = false, (!decide (c = 0)) = false, (!decide (op = 0)) = false]) (n := 300) (ans := decA 0x555555555555555d555555555555557757757d557d5555555555555555555555555dd5d555fdff5755f7f55555555555555555555555) (ix := decI 0x1112223332244444555555556) (nx := 2) (v := 0) (by kernel_rfl) ⟨dF q0, dF q1, dF q2, dF q3, dNF q4, dNF q5, trivial⟩ (by unfold oneI; repeat (first | rw [if_pos (by omega)] | rw [if_neg (by omega)]))
            · exact ora_path (D := [(decide (a < 0)) = false, (decide (15 < a)) = false, (decide (b < 0)) = false, (decide (15 < b)) = false, (!decide (c = 0)) = false, (!decide (op = 0)) = true]) (n := 300) (ans := decA 0x9555555555555557757757d557d5555555555555555555555555dd5d555fdff5755f7f55555555555555555555555) (ix := decI 0x1112223332244444555555556) (nx := 2) (v := 83) (by kernel_rfl) ⟨dF q0, dF q1, dF q2, dF q3, dNF q4, dNT q5, trivial⟩ (by unfold oneI; repeat (first | rw [if_pos (by omega)] | rw [if_neg (by omega)]))
          · exact ora_path (D := [(decide (a < 0)) = false, (decide (15 < a)) = false, (decide (b < 0)) = false, (decide (15 < b)) = false, (!decide (c = 0)) = true]) (n := 300) (ans := decA 0x55556aaa95555555555555555555555555dd5d555fdff5755f7f55555555555555555555555) (ix := decI 0x111222333224444455555555) (nx := 2) (v := 83) (by kernel_rfl) ⟨dF q0, dF q1, dF q2, dF q3, dNT q4, trivial⟩ (by unfold oneI; repeat (first | rw [if_pos (by omega)] | rw [if_neg (by omega)]))
theorem one77_8 : ∃ h', Ca cxV 77 [insA 8 op a b c k, .int .i64 cells, .int .i64 long] ⟨0, .leaf⟩ (.int .i64 (oneI 8 op a b c k cells long)) h' := by
  by_cases q0 : a < 0
  · exact ora_path (D := [(decide (a < 0)) = true]) (n := 300) (ans := decA 0x1555556a555555555555555555555) (ix := decI 0x111) (nx := 2) (v := 82) (by kernel_rfl) ⟨dT q0, trivial⟩ (by unfold oneI; repeat (first | rw [if_pos (by omega)] | rw [if_neg (by omega)]))
  · by_cases q1 : 15 < a
    · exact ora_path (D := [(decide (a < 0)) = false, (decide (15 < a)) = true]) (n := 300) (ans := decA 0x1556aa7f555555555555555555555) (ix := decI 0x11122222) (nx := 2) (v := 82) (by kernel_rfl) ⟨dF q0, dT q1, trivial⟩ (by unfold oneI; repeat (first | rw [if_pos (by omega)] | rw [if_neg (by omega)]))
    · by_cases q2 : b = 0
      · by_cases q3 : k = 0
        · by_cases q4 : op = 0
          · by_cases q5 : c < 0
            · exact ora_path (D := [(decide (a < 0)) = false, (decide (15 < a)) = false, (!decide (b = 0)) = false, (!decide (k = 0)) = false, (!decide (op = 0)) = false, (decide (c < 0)) = true]) (n := 300) (ans := decA 0x55559aa5555f75775555f557d555555555555775775557d55f555555555555555555dd5d55f7f555555555555555555555) (ix := decI 0x111222223333333344444444566666) (nx := 2) (v := 63) (by kernel_rfl) ⟨dF q0, dF q1, dNF q2, dNF q3, dNF q4, dT q5, trivial⟩ (by unfold oneI; repeat (first | rw [if_pos (by omega)] | rw [if_neg (by omega)]))
            · by_cases q6 : cells ≤ c
              · exact ora_path (D := [(decide (a < 0)) = false, (decide (15 < a)) = false, (!decide (b = 0)) = false, (!decide (k = 0)) = false, (!decide (op = 0)) = false, (decide (c < 0)) = false, (decide (cells ≤ c)) = true]) (n := 300) (ans := decA 0x59a9dff5555f75775555f557d555555555555775775557d55f555555555555555555dd5d55f7f555555555555555555555) (ix := decI 0x1112222233333333444444445666667777) (nx := 2) (v := 63) (by kernel_rfl) ⟨dF q0, dF q1, dNF q2, dNF q3, dNF q4, dF q5, dT q6, trivial⟩ (by unfold oneI; repeat (first | rw [if_pos (by omega)] | rw [if_neg (by omega)]))
              · by_cases q7 : 4 ≤ c
                · exact ora_path (D := [(decide (a < 0)) = false, (decide (15 < a)) = false, (!decide (b = 0)) = false, (!decide (k = 0)) = false, (!decide (op = 0)) = false, (decide (c < 0)) = false, (decide (cells ≤ c)) = false, (decide (4 ≤ c)) = true]) (n := 300) (ans := decA 0x9dfddff5555f75775555f557d555555555555775775557d55f555555555555555555dd5d55f7f555555555555555555555) (ix := decI 0x11122222333333334444444456666677778) (nx := 2) (v := 63) (by kernel_rfl) ⟨dF q0, dF q1, dNF q2, dNF q3, dNF q4, dF q5, dF q6, dT q7, trivial⟩ (by unfold oneI; repeat (first | rw [if_pos (by omega)] | rw [if_neg (by omega)]))
                · exact ora_path (D := [(decide (a < 0)) = false, (decide (15 < a)) = false, (!decide (b = 0)) = false, (!decide (k = 0)) = false, (!decide (op = 0)) = false, (decide (c < 0)) = false, (decide (cells ≤ c)) = false, (decide (4 ≤ c)) = false]) (n := 300) (ans := decA 0x555555ddfddff5555f75775555f557d555555555555775775557d55f555555555555555555dd5d55f7f555555555555555555555) (ix := decI 0x11122222333333334444444456666677778) (nx := 2) (v := 0) (by kernel_rfl) ⟨dF q0, dF q1, dNF q2, dNF q3, dNF q4, dF q5, dF q6, dF q7, trivial⟩ (by unfold oneI; repeat (first | rw [if_pos (by omega)] | rw [if_neg (by omega)]))
          · exact ora_path (D := [(decide (a < 0)) = false, (decide (15 < a)) = false, (!decide (b = 0)) = false, (!decide (k = 0)) = false, (!decide (op = 0)) = true]) (n := 300) (ans := decA 0xb75775555f557d555555555555775775557d55f555555555555555555dd5d55f7f555555555555555555555) (ix := decI 0x1112222233333333444444445) (nx := 2) (v := 83) (by kernel_rfl) ⟨dF q0, dF q1, dNF q2, dNF q3, dNT q4, trivial⟩ (by unfold oneI; repeat (first | rw [if_pos (by omega)] | rw [if_neg (by omega)]))
        · exact ora_path (D := [(decide (a < 0)) = false, (decide (15 < a)) = false, (!decide (b = 0)) = false, (!decide (k = 0)) = true]) (n := 300) (ans := decA 0x6aaa9555555555555775775557d55f555555555555555555dd5d55f7f555555555555555555555) (ix := decI 0x111222223333333344444444) (nx := 2) (v := 83) (by kernel_rfl) ⟨dF q0, dF q1, dNF q2, dNT q3, trivial⟩ (by unfold oneI; repeat (first | rw [if_pos (by omega)] | rw [if_neg (by omega)]))
      · exact ora_path (D := [(decide (a < 0)) = false, (decide (15 < a)) = false, (!decide (b = 0)) = true]) (n := 300) (ans := decA 0x155555555aaaa555555555555555555dd5d55f7f555555555555555555555) (ix := decI 0x1112222233333333) (nx := 2) (v := 83) (by kernel_rfl) ⟨dF q0, dF q1, dNT q2, trivial⟩ (by unfold oneI; repeat (first | rw [if_pos (by omega)] | rw [if_neg (by omega)]))
theorem one77_9 : ∃ h', Ca cxV 77 [insA 9 op a b c k, .int .i64 cells, .int .i64 long] ⟨0, .leaf⟩ (.int .i64 (oneI 9 op a b c k cells long)) h' := by
  by_cases q0 : a < 0
  · exact ora_path (D := [(decide (a < 0)) = true]) (n := 300) (ans := decA 0x1555556a5555555555555555555) (ix := decI 0x111) (nx := 2) (v := 82) (by kernel_rfl) ⟨dT q0, trivial⟩ (by unfold oneI; repeat (first | rw [if_pos (by omega)] | rw [if_neg (by omega)]))
  · by_cases q1 : 15 < a
    · exact ora_path (D := [(decide (a < 0)) = false, (decide (15 < a)) = true]) (n := 300) (ans := decA 0x1556aa7f5555555555555555555) (ix := decI 0x11122222) (nx := 2) (v := 82) (by kernel_rfl) ⟨dF q0, dT q1, trivial⟩ (by unfold oneI; repeat (first | rw [if_pos (by omega)] | rw [if_neg (by omega)]))
    · by_cases q2 : b = 0
      · by_cases q3 : c = 0
        · by_cases q4 : k = 0
          · by_cases q5 : op = 0
            · exact ora_path (D := [(decide (a < 0)) = false, (decide (15 < a)) = false, (!decide (b = 0)) = false, (!decide (c = 0)) = false, (!decide (k = 0)) = false, (!decide (op = 0)) = false]) (n := 300) (ans := decA 0x155555555557dd5dd557d5fdd5dd557d5fdd5dd557d5f5555555555555555dd5d5f7f5555555555555555555) (ix := decI 0x111222223333333344444444555555556) (nx := 2) (v := 0) (by kernel_rfl) ⟨dF q0, dF q1, dNF q2, dNF q3, dNF q4, dNF q5, trivial⟩ (by unfold oneI; repeat (first | rw [if_pos (by omega)] | rw [if_neg (by omega)]))
            · exact ora_path (D := [(decide (a < 0)) = false, (decide (15 < a)) = false, (!decide (b = 0)) = false, (!decide (c = 0)) = false, (!decide (k = 0)) = false, (!decide (op = 0)) = true]) (n := 300) (ans := decA 0x2dd5dd557d5fdd5dd557d5fdd5dd557d5f5555555555555555dd5d5f7f5555555555555555555) (ix := decI 0x111222223333333344444444555555556) (nx := 2) (v := 83) (by kernel_rfl) ⟨dF q0, dF q1, dNF q2, dNF q3, dNF q4, dNT q5, trivial⟩ (by unfold oneI; repeat (first | rw [if_pos (by omega)] | rw [if_neg (by omega)]))
          · exact ora_path (D := [(decide (a < 0)) = false, (decide (15 < a)) = false, (!decide (b = 0)) = false, (!decide (c = 0)) = false, (!decide (k = 0)) = true]) (n := 300) (ans := decA 0x1aaaadd5dd557d5fdd5dd557d5f5555555555555555dd5d5f7f5555555555555555555) (ix := decI 0x11122222333333334444444455555555) (nx := 2) (v := 83) (by kernel_rfl) ⟨dF q0, dF q1, dNF q2, dNF q3, dNT q4, trivial⟩ (by unfold oneI; repeat (first | rw [if_pos (by omega)] | rw [if_neg (by omega)]))
        · exact ora_path (D := [(decide (a < 0)) = false, (decide (15 < a)) = false, (!decide (b = 0)) = false, (!decide (c = 0)) = true]) (n := 300) (ans := decA 0x15555aaaadd5dd557d5f5555555555555555dd5d5f7f5555555555555555555) (ix := decI 0x111222223333333344444444) (nx := 2) (v := 83) (by kernel_rfl) ⟨dF q0, dF q1, dNF q2, dNT q3, trivial⟩ (by unfold oneI; repeat (first | rw [if_pos (by omega)] | rw [if_neg (by omega)]))
      · exact ora_path (D := [(decide (a < 0)) = false, (decide (15 < a)) = false, (!decide (b = 0)) = true]) (n := 300) (ans := decA 0x155555555aaaa5555555555555555dd5d5f7f5555555555555555555) (ix := decI 0x1112222233333333) (nx := 2) (v := 83) (by kernel_rfl) ⟨dF q0, dF q1, dNT q2, trivial⟩ (by unfold oneI; repeat (first | rw [if_pos (by omega)] | rw [if_neg (by omega)]))
theorem one77_10 : ∃ h', Ca cxV 77 [insA 10 op a b c k, .int .i64 cells, .int .i64 long] ⟨0, .leaf⟩ (.int .i64 (oneI 10 op a b c k cells long)) h' := by
  by_cases q0 : a = 0
  · by_cases q1 : b = 0
    · by_cases q2 : c = 0
      · by_cases q3 : op = 0
        · by_cases q4 : k < 0
          · exact ora_path (D := [(!decide (a = 0)) = false, (!decide (b = 0)) = false, (!decide (c = 0)) = false, (!decide (op = 0)) = false, (decide (k < 0)) = true]) (n := 300) (ans := decA 0x166a955555555755555555555dd5dd55f57f7577555f57f757d5f555555555555555555555555555555555555) (ix := decI 0x1111112222222233333333455555) (nx := 2) (v := 84) (by kernel_rfl) ⟨dNF q0, dNF q1, dNF q2, dNF q3, dT q4, trivial⟩ (by unfold oneI; repeat (first | rw [if_pos (by omega)] | rw [if_neg (by omega)]))
          · by_cases q5 : long ≤ k
            · exact ora_path (D := [(!decide (a = 0)) = false, (!decide (b = 0)) = false, (!decide (c = 0)) = false, (!decide (op = 0)) = false, (decide (k < 0)) = false, (decide (long ≤ k)) = true]) (n := 300) (ans := decA 0x277fd55555555755555555555dd5dd55f57f7577555f57f757d5f555555555555555555555555555555555555) (ix := decI 0x11111122222222333333334555556) (nx := 2) (v := 84) (by kernel_rfl) ⟨dNF q0, dNF q1, dNF q2, dNF q3, dF q4, dT q5, trivial⟩ (by unfold oneI; repeat (first | rw [if_pos (by omega)] | rw [if_neg (by omega)]))
            · exact ora_path (D := [(!decide (a = 0)) = false, (!decide (b = 0)) = false, (!decide (c = 0)) = false, (!decide (op = 0)) = false, (decide (k < 0)) = false, (decide (long ≤ k)) = false]) (n := 300) (ans := decA 0x377fd55555555755555555555dd5dd55f57f7577555f57f757d5f555555555555555555555555555555555555) (ix := decI 0x11111122222222333333334555556) (nx := 2) (v := 0) (by kernel_rfl) ⟨dNF q0, dNF q1, dNF q2, dNF q3, dF q4, dF q5, trivial⟩ (by unfold oneI; repeat (first | rw [if_pos (by omega)] | rw [if_neg (by omega)]))
        · exact ora_path (D := [(!decide (a = 0)) = false, (!decide (b = 0)) = false, (!decide (c = 0)) = false, (!decide (op = 0)) = true]) (n := 300) (ans := decA 0x255555555555dd5dd55f57f7577555f57f757d5f555555555555555555555555555555555555) (ix := decI 0x11111122222222333333334) (nx := 2) (v := 83) (by kernel_rfl) ⟨dNF q0, dNF q1, dNF q2, dNT q3, trivial⟩ (by unfold oneI; repeat (first | rw [if_pos (by omega)] | rw [if_neg (by omega)]))
      · exact ora_path (D := [(!decide (a = 0)) = false, (!decide (b = 0)) = false, (!decide (c = 0)) = true]) (n := 300) (ans := decA 0x55556aaab7577555f57f757d5f555555555555555555555555555555555555) (ix := decI 0x1111112222222233333333) (nx := 2) (v := 83) (by kernel_rfl) ⟨dNF q0, dNF q1, dNT q2, trivial⟩ (by unfold oneI; repeat (first | rw [if_pos (by omega)] | rw [if_neg (by omega)]))
    · exact ora_path (D := [(!decide (a = 0)) = false, (!decide (b = 0)) = true]) (n := 300) (ans := decA 0x555555556aaab757d5f555555555555555555555555555555555555) (ix := decI 0x11111122222222) (nx := 2) (v := 83) (by kernel_rfl) ⟨dNF q0, dNT q1, trivial⟩ (by unfold oneI; repeat (first | rw [if_pos (by omega)] | rw [if_neg (by omega)]))
  · exact ora_path (D := [(!decide (a = 0)) = true]) (n := 300) (ans := decA 0x1555555555555aaa555555555555555555555555555555555555) (ix := decI 0x111111) (nx := 2) (v := 83) (by kernel_rfl) ⟨dNT q0, trivial⟩ (by unfold oneI; repeat (first | rw [if_pos (by omega)] | rw [if_neg (by omega)]))
theorem one77_11 : ∃ h', Ca cxV 77 [insA 11 op a b c k, .int .i64 cells, .int .i64 long] ⟨0, .leaf⟩ (.int .i64 (oneI 11 op a b c k cells long)) h' := by
  by_cases q0 : a < 0
  · exact ora_path (D := [(decide (a < 0)) = true]) (n := 300) (ans := decA 0x1555556a555555555555555555555) (ix := decI 0x111) (nx := 2) (v := 82) (by kernel_rfl) ⟨dT q0, trivial⟩ (by unfold oneI; repeat (first | rw [if_pos (by omega)] | rw [if_neg (by omega)]))
  · by_cases q1 : 15 < a
    · exact ora_path (D := [(decide (a < 0)) = false, (decide (15 < a)) = true]) (n := 300) (ans := decA 0x1556aa7f555555555555555555555) (ix := decI 0x11122222) (nx := 2) (v := 82) (by kernel_rfl) ⟨dF q0, dT q1, trivial⟩ (by unfold oneI; repeat (first | rw [if_pos (by omega)] | rw [if_neg (by omega)]))
    · by_cases q2 : b = 0
      · by_cases q3 : c = 0
        · by_cases q4 : op = 0
          · by_cases q5 : k < 0
            · exact ora_path (D := [(decide (a < 0)) = false, (decide (15 < a)) = false, (!decide (b = 0)) = false, (!decide (c = 0)) = false, (!decide (op = 0)) = false, (decide (k < 0)) = true]) (n := 300) (ans := decA 0x59aa55555555555d555555555555775775557d55fdd5dd5557d55f555555555555555555dd5d55f7f555555555555555555555) (ix := decI 0x111222223333333344444444566666) (nx := 2) (v := 84) (by kernel_rfl) ⟨dF q0, dF q1, dNF q2, dNF q3, dNF q4, dT q5, trivial⟩ (by unfold oneI; repeat (first | rw [if_pos (by omega)] | rw [if_neg (by omega)]))
            · by_cases q6 : long ≤ k
              · exact ora_path (D := [(decide (a < 0)) = false, (decide (15 < a)) = false, (!decide (b = 0)) = false, (!decide (c = 0)) = false, (!decide (op = 0)) = false, (decide (k < 0)) = false, (decide (long ≤ k)) = true]) (n := 300) (ans := decA 0x9dff55555555555d555555555555775775557d55fdd5dd5557d55f555555555555555555dd5d55f7f555555555555555555555) (ix := decI 0x1112222233333333444444445666667) (nx := 2) (v := 84) (by kernel_rfl) ⟨dF q0, dF q1, dNF q2, dNF q3, dNF q4, dF q5, dT q6, trivial⟩ (by unfold oneI; repeat (first | rw [if_pos (by omega)] | rw [if_neg (by omega)]))
              · exact ora_path (D := [(decide (a < 0)) = false, (decide (15 < a)) = false, (!decide (b = 0)) = false, (!decide (c = 0)) = false, (!decide (op = 0)) = false, (decide (k < 0)) = false, (decide (long ≤ k)) = false]) (n := 300) (ans := decA 0xddff55555555555d555555555555775775557d55fdd5dd5557d55f555555555555555555dd5d55f7f555555555555555555555) (ix := decI 0x1112222233333333444444445666667) (nx := 2) (v := 0) (by kernel_rfl) ⟨dF q0, dF q1, dNF q2, dNF q3, dNF q4, dF q5, dF q6, trivial⟩ (by unfold oneI; repeat (first | rw [if_pos (by omega)] | rw [if_neg (by omega)]))
          · exact ora_path (D := [(decide (a < 0)) = false, (decide (15 < a)) = false, (!decide (b = 0)) = false, (!decide (c = 0)) = false, (!decide (op = 0)) = true]) (n := 300) (ans := decA 0x9555555555555775775557d55fdd5dd5557d55f555555555555555555dd5d55f7f555555555555555555555) (ix := decI 0x1112222233333333444444445) (nx := 2) (v := 83) (by kernel_rfl) ⟨dF q0, dF q1, dNF q2, dNF q3, dNT q4, trivial⟩ (by unfold oneI; repeat (first | rw [if_pos (by omega)] | rw [if_neg (by omega)]))
        · exact ora_path (D := [(decide (a < 0)) = false, (decide (15 < a)) = false, (!decide (b = 0)) = false, (!decide (c = 0)) = true]) (n := 300) (ans := decA 0x15555aaaadd5dd5557d55f555555555555555555dd5d55f7f555555555555555555555) (ix := decI 0x111222223333333344444444) (nx := 2) (v := 83) (by kernel_rfl) ⟨dF q0, dF q1, dNF q2, dNT q3, trivial⟩ (by unfold oneI; repeat (first | rw [if_pos (by omega)] | rw [if_neg (by omega)]))
      · exact ora_path (D := [(decide (a < 0)) = false, (decide (15 < a)) = false, (!decide (b = 0)) = true]) (n := 300) (ans := decA 0x155555555aaaa555555555555555555dd5d55f7f555555555555555555555) (ix := decI 0x1112222233333333) (nx := 2) (v := 83) (by kernel_rfl) ⟨dF q0, dF q1, dNT q2, trivial⟩ (by unfold oneI; repeat (first | rw [if_pos (by omega)] | rw [if_neg (by omega)]))
theorem one77_12 : ∃ h', Ca cxV 77 [insA 12 op a b c k, .int .i64 cells, .int .i64 long] ⟨0, .leaf⟩ (.int .i64 (oneI 12 op a b c k cells long)) h' := by
  by_cases q0 : a < 0
  · exact ora_path (D := [(decide (a < 0)) = true]) (n := 300) (ans := decA 0x1555556a555555555555555555555) (ix := decI 0x111) (nx := 2) (v := 82) (by kernel_rfl) ⟨dT q0, trivial⟩ (by unfold oneI; repeat (first | rw [if_pos (by omega)] | rw [if_neg (by omega)]))
  · by_cases q1 : 15 < a
    · exact ora_path (D := [(decide (a < 0)) = false, (decide (15 < a)) = true]) (n := 300) (ans := decA 0x1556aa7f555555555555555555555) (ix := decI 0x11122222) (nx := 2) (v := 82) (by kernel_rfl) ⟨dF q0, dT q1, trivial⟩ (by unfold oneI; repeat (first | rw [if_pos (by omega)] | rw [if_neg (by omega)]))
    · by_cases q2 : b = 0
      · by_cases q3 : c = 0
        · by_cases q4 : op = 0
          · by_cases q5 : k < 0
            · exact ora_path (D := [(decide (a < 0)) = false, (decide (15 < a)) = false, (!decide (b = 0)) = false, (!decide (c = 0)) = false, (!decide (op = 0)) = false, (decide (k < 0)) = true]) (n := 300) (ans := decA 0x59aa55555555555d555555555555775775557d55fdd5dd5557d55f555555555555555555dd5d55f7f555555555555555555555) (ix := decI 0x111222223333333344444444566666) (nx := 2) (v := 84) (by kernel_rfl) ⟨dF q0, dF q1, dNF q2, dNF q3, dNF q4, dT q5, trivial⟩ (by unfold oneI; repeat (first | rw [if_pos (by omega)] | rw [if_neg (by omega)]))
            · by_cases q6 : long ≤ k
              · exact ora_path (D := [(decide (a < 0)) = false, (decide (15 < a)) = false, (!decide (b = 0)) = false, (!decide (c = 0)) = false, (!decide (op = 0)) = false, (decide (k < 0)) = false, (decide (long ≤ k)) = true]) (n := 300) (ans := decA 0x9dff55555555555d555555555555775775557d55fdd5dd5557d55f555555555555555555dd5d55f7f555555555555555555555) (ix := decI 0x1112222233333333444444445666667) (nx := 2) (v := 84) (by kernel_rfl) ⟨dF q0, dF q1, dNF q2, dNF q3, dNF q4, dF q5, dT q6, trivial⟩ (by unfold oneI; repeat (first | rw [if_pos (by omega)] | rw [if_neg (by omega)]))
              · exact ora_path (D := [(decide (a < 0)) = false, (decide (15 < a)) = false, (!decide (b = 0)) = false, (!decide (c = 0)) = false, (!decide (op = 0)) = false, (decide (k < 0)) = false, (decide (long ≤ k)) = false]) (n := 300) (ans := decA 0xddff55555555555d555555555555775775557d55fdd5dd5557d55f555555555555555555dd5d55f7f555555555555555555555) (ix := decI 0x1112222233333333444444445666667) (nx := 2) (v := 0) (by kernel_rfl) ⟨dF q0, dF q1, dNF q2, dNF q3, dNF q4, dF q5, dF q6, trivial⟩ (by unfold oneI; repeat (first | rw [if_pos (by omega)] | rw [if_neg (by omega)]))
          · exact ora_path (D := [(decide (a < 0)) = false, (decide (15 < a)) = false, (!decide (b = 0)) = false, (!decide (c = 0)) = false, (!decide (op = 0)) = true]) (n := 300) (ans := decA 0x9555555555555775775557d55fdd5dd5557d55f555555555555555555dd5d55f7f555555555555555555555) (ix := decI 0x1112222233333333444444445) (nx := 2) (v := 83) (by kernel_rfl) ⟨dF q0, dF q1, dNF q2, dNF q3, dNT q4, trivial⟩ (by unfold oneI; repeat (first | rw [if_pos (by omega)] | rw [if_neg (by omega)]))
        · exact ora_path (D := [(decide (a < 0)) = false, (decide (15 < a)) = false, (!decide (b = 0)) = false, (!decide (c = 0)) = true]) (n := 300) (ans := decA 0x15555aaaadd5dd5557d55f555555555555555555dd5d55f7f555555555555555555555) (ix := decI 0x111222223333333344444444) (nx := 2) (v := 83) (by kernel_rfl) ⟨dF q0, dF q1, dNF q2, dNT q3, trivial⟩ (by unfold oneI; repeat (first | rw [if_pos (by omega)] | rw [if_neg (by omega)]))
      · exact ora_path (D := [(decide (a < 0)) = false, (decide (15 < a)) = false, (!decide (b = 0)) = true]) (n := 300) (ans := decA 0x155555555aaaa555555555555555555dd5d55f7f555555555555555555555) (ix := decI 0x1112222233333333) (nx := 2) (v := 83) (by kernel_rfl) ⟨dF q0, dF q1, dNT q2, trivial⟩ (by unfold oneI; repeat (first | rw [if_pos (by omega)] | rw [if_neg (by omega)]))
theorem one77_13 : ∃ h', Ca cxV 77 [insA 13 op a b c k, .int .i64 cells, .int .i64 long] ⟨0, .leaf⟩ (.int .i64 (oneI 13 op a b c k cells long)) h' := by
  by_cases q0 : a < 0
  · exact ora_path (D := [(decide (a < 0)) = true]) (n := 300) (ans := decA 0x1555556a5555555555555555555) (ix := decI 0x111) (nx := 2) (v := 82) (by kernel_rfl) ⟨dT q0, trivial⟩ (by unfold oneI; repeat (first | rw [if_pos (by omega)] | rw [if_neg (by omega)]))
  · by_cases q1 : 15 < a
    · exact ora_path (D := [(decide (a < 0)) = false, (decide (15 < a)) = true]) (n := 300) (ans := decA 0x1556aa7f5555555555555555555) (ix := decI 0x11122222) (nx := 2) (v := 82) (by kernel_rfl) ⟨dF q0, dT q1, trivial⟩ (by unfold oneI; repeat (first | rw [if_pos (by omega)] | rw [if_neg (by omega)]))
    · by_cases q2 : b = 0
      · by_cases q3 : c = 0
        · by_cases q4 : k = 0
          · by_cases q5 : op = 0
            · exact ora_path (D := [(decide (a < 0)) = false, (decide (15 < a)) = false, (!decide (b = 0)) = false, (!decide (c = 0)) = false, (!decide (k = 0)) = false, (!decide (op = 0)) = false]) (n := 300) (ans := decA 0x155555555557dd5dd557d5fdd5dd557d5fdd5dd557d5f5555555555555555dd5d5f7f5555555555555555555) (ix := decI 0x111222223333333344444444555555556) (nx := 2) (v := 0) (by kernel_rfl) ⟨dF q0, dF q1, dNF q2, dNF q3, dNF q4, dNF q5, trivial⟩ (by unfold oneI; repeat (first | rw [if_pos (by omega)] | rw [if_neg (by omega)]))
            · exact ora_path (D := [(decide (a < 0)) = false, (decide (15 < a)) = false, (!decide (b = 0)) = false, (!decide (c = 0)) = false, (!decide (k = 0)) = false, (!decide (op = 0)) = true]) (n := 300) (ans := decA 0x2dd5dd557d5fdd5dd557d5fdd5dd557d5f5555555555555555dd5d5f7f5555555555555555555) (ix := decI 0x111222223333333344444444555555556) (nx := 2) (v := 83) (by kernel_rfl) ⟨dF q0, dF q1, dNF q2, dNF q3, dNF q4, dNT q5, trivial⟩ (by unfold oneI; repeat (first | rw [if_pos (by omega)] | rw [if_neg (by omega)]))
          · exact ora_path (D := [(decide (a < 0)) = false, (decide (15 < a)) = false, (!decide (b = 0)) = false, (!decide (c = 0)) = false, (!decide (k = 0)) = true]) (n := 300) (ans := decA 0x1aaaadd5dd557d5fdd5dd557d5f5555555555555555dd5d5f7f5555555555555555555) (ix := decI 0x11122222333333334444444455555555) (nx := 2) (v := 83) (by kernel_rfl) ⟨dF q0, dF q1, dNF q2, dNF q3, dNT q4, trivial⟩ (by unfold oneI; repeat (first | rw [if_pos (by omega)] | rw [if_neg (by omega)]))
        · exact ora_path (D := [(decide (a < 0)) = false, (decide (15 < a)) = false, (!decide (b = 0)) = false, (!decide (c = 0)) = true]) (n := 300) (ans := decA 0x15555aaaadd5dd557d5f5555555555555555dd5d5f7f5555555555555555555) (ix := decI 0x111222223333333344444444) (nx := 2) (v := 83) (by kernel_rfl) ⟨dF q0, dF q1, dNF q2, dNT q3, trivial⟩ (by unfold oneI; repeat (first | rw [if_pos (by omega)] | rw [if_neg (by omega)]))
      · exact ora_path (D := [(decide (a < 0)) = false, (decide (15 < a)) = false, (!decide (b = 0)) = true]) (n := 300) (ans := decA 0x155555555aaaa5555555555555555dd5d5f7f5555555555555555555) (ix := decI 0x1112222233333333) (nx := 2) (v := 83) (by kernel_rfl) ⟨dF q0, dF q1, dNT q2, trivial⟩ (by unfold oneI; repeat (first | rw [if_pos (by omega)] | rw [if_neg (by omega)]))
end
end Go.Ab
namespace Go.Ab
open Go.Proofs Go.RowKit
theorem kinds {kd : Int} (h : 1 ≤ kd ∧ kd ≤ 13) : kd = 1 ∨ kd = 2 ∨ kd = 3 ∨ kd = 4 ∨ kd = 5 ∨ kd = 6 ∨ kd = 7 ∨ kd = 8 ∨ kd = 9 ∨ kd = 10 ∨ kd = 11 ∨ kd = 12 ∨ kd = 13 := by omega
theorem one73 (kd op a b c k cells long : Int) : ∃ h', Ca cxV 73 [insA kd op a b c k, .int .i64 cells, .int .i64 long] ⟨0, .leaf⟩ (.int .i64 (oneI kd op a b c k cells long)) h' := by
  by_cases hk : 1 ≤ kd ∧ kd ≤ 13
  · rcases kinds hk with rfl | rfl | rfl | rfl | rfl | rfl | rfl | rfl | rfl | rfl | rfl | rfl | rfl
    · exact one73_1 op a b c k cells long
    · exact one73_2 op a b c k cells long
    · exact one73_3 op a b c k cells long
    · exact one73_4 op a b c k cells long
    · exact one73_5 op a b c k cells long
    · exact one73_6 op a b c k cells long
    · exact one73_7 op a b c k cells long
    · exact one73_8 op a b c k cells long
    · exact one73_9 op a b c k cells long
    · exact one73_10 op a b c k cells long
    · exact one73_11 op a b c k cells long
    · exact one73_12 op a b c k cells long
    · exact one73_13 op a b c k cells long
  · exact ora_path (D := [decide (kd = 1) = false, decide (kd = 2) = false, decide (kd = 3) = false, decide (kd = 4) = false, decide (kd = 5) = false, decide (kd = 6) = false, decide (kd = 7) = false, decide (kd = 8) = false, decide (kd = 9) = false, decide (kd = 13) = false, decide (kd = 10) = false, decide (kd = 11) = false, decide (kd = 12) = false]) (n := 300) (ans := decA 0x7ffffff) (ix := decI 0x123456789abcd) (nx := 3) (v := 81) (by kernel_rfl) ⟨dF (by omega), dF (by omega), dF (by omega), dF (by omega), dF (by omega), dF (by omega), dF (by omega), dF (by omega), dF (by omega), dF (by omega), dF (by omega), dF (by omega), dF (by omega), trivial⟩ (by unfold oneI; rw [if_pos (by omega)])
theorem one77 (kd op a b c k cells long : Int) : ∃ h', Ca cxV 77 [insA kd op a b c k, .int .i64 cells, .int .i64 long] ⟨0, .leaf⟩ (.int .i64 (oneI kd op a b c k cells long)) h' := by
  by_cases hk : 1 ≤ kd ∧ kd ≤ 13
  · rcases kinds hk with rfl | rfl | rfl | rfl | rfl | rfl | rfl | rfl | rfl | rfl | rfl | rfl | rfl
    · exact one77_1 op a b c k cells long
    · exact one77_2 op a b c k cells long
    · exact one77_3 op a b c k cells long
    · exact one77_4 op a b c k cells long
    · exact one77_5 op a b c k cells long
    · exact one77_6 op a b c k cells long
    · exact one77_7 op a b c k cells long
    · exact one77_8 op a b c k cells long
    · exact one77_9 op a b c k cells long
    · exact one77_10 op a b c k cells long
    · exact one77_11 op a b c k cells long
    · exact one77_12 op a b c k cells long
    · exact one77_13 op a b c k cells long
  · by_cases h1 : kd < 1
    · exact ora_path (D := [decide (kd < 1) = true]) (n := 300) (ans := decA 0x1555556a) (ix := decI 0x111) (nx := 2) (v := 81) (by kernel_rfl) ⟨dT h1, trivial⟩ (by unfold oneI; rw [if_pos (by omega)])
    · exact ora_path (D := [decide (kd < 1) = false, decide (13 < kd) = true]) (n := 300) (ans := decA 0x155555bf) (ix := decI 0x1112) (nx := 2) (v := 81) (by kernel_rfl) ⟨dF h1, dT (by omega), trivial⟩ (by unfold oneI; rw [if_pos (by omega)])
theorem cxV_ok : CxOk Tryz.prog cxV := by
  refine ⟨fun f cf h => ?_, fun f e h => (by cases h), fun f e h => (by cases h)⟩
  change fnV f = some cf at h
  unfold fnV at h
  split at h
  · cases h; exact ⟨_, Tryz.func73, by kernel_rfl⟩
  · cases h; exact ⟨_, Tryz.func103, by kernel_rfl⟩
  · cases h; exact ⟨_, Tryz.func104, by kernel_rfl⟩
  · cases h; exact ⟨_, Tryz.func77, by kernel_rfl⟩
  · cases h; exact ⟨_, Tryz.func99, by kernel_rfl⟩
  · cases h; exact ⟨_, Tryz.func100, by kernel_rfl⟩
  · cases h; exact ⟨_, Tryz.func105, by kernel_rfl⟩
  · cases h
theorem ins_lr (σ : Ren) (kd op a b c k cells long : Int) : LR σ [insA kd op a b c k, .int .i64 cells, .int .i64 long] [.agg #[.int .i64 kd, .int .i64 op, .int .i64 a, .int .i64 b, .int .i64 c, .int .i64 k], .int .i64 cells, .int .i64 long] := by
  refine LR.cons ?_ (.cons (.int _ _) (.cons (.int _ _) (.nil _)))
  exact VR.mk_agg (cs := [.int .i64 kd, .int .i64 op, .int .i64 a, .int .i64 b, .int .i64 c, .int .i64 k]) (ds := [.int .i64 kd, .int .i64 op, .int .i64 a, .int .i64 b, .int .i64 c, .int .i64 k]) (.cons (.int _ _) (.cons (.int _ _) (.cons (.int _ _) (.cons (.int _ _) (.cons (.int _ _) (.cons (.int _ _) (.nil _)))))))
theorem one73_calls (kd op a b c k cells long : Int) (w : World) : Calls Tryz.prog 73 #[.agg #[.int .i64 kd, .int .i64 op, .int .i64 a, .int .i64 b, .int .i64 c, .int .i64 k], .int .i64 cells, .int .i64 long] w
    fun e w' => e = .returned (.int .i64 (oneI kd op a b c k cells long)) ∧ Below w.heap.size w w' := by
  obtain ⟨h', hc⟩ := one73 kd op a b c k cells long
  refine (hc.calls mixedT cxV_ok (HR.none 0 w) (ins_lr _ kd op a b c k cells long) (fun _ _ _ => rfl)).mono ?_
  rintro e w' ⟨v', σ', rfl, hv, _, hx⟩
  cases hv
  exact ⟨rfl, hx.below⟩
theorem one77_calls (kd op a b c k cells long : Int) (w : World) : Calls Tryz.prog 77 #[.agg #[.int .i64 kd, .int .i64 op, .int .i64 a, .int .i64 b, .int .i64 c, .int .i64 k], .int .i64 cells, .int .i64 long] w
    fun e w' => e = .returned (.int .i64 (oneI kd op a b c k cells long)) ∧ Below w.heap.size w w' := by
  obtain ⟨h', hc⟩ := one77 kd op a b c k cells long
  refine (hc.calls mixedT cxV_ok (HR.none 0 w) (ins_lr _ kd op a b c k cells long) (fun _ _ _ => rfl)).mono ?_
  rintro e w' ⟨v', σ', rfl, hv, _, hx⟩
  cases hv
  exact ⟨rfl, hx.below⟩
end Go.Ab
namespace Go.Ab
def cc31 : CC :=
  (.seq (.reg [⟨(some 1), .box (.t 0), none, []⟩, ⟨(some 2), .mv (.k (.int .i64 0)), none, []⟩, ⟨(some 3), .mv (.k (.int .i64 0)), none, []⟩])
  (.seq (.seq (.reg [⟨(some 4), .fieldA 0 (.t 1), none, []⟩, ⟨(some 5), .load 1 false (.t 4), none, []⟩])
  (.block 0 (.seq (.reg [⟨(some 7), .bin .eql .plain (.t 5) (.k (.int .i64 1)), none, []⟩, ⟨(some 6), .mv (.t 7), none, []⟩])
  (.cond (.t 6)
  (.seq (.seq (.reg [⟨(some 8), .fieldA 4 (.t 1), none, []⟩, ⟨(some 9), .load 1 false (.t 8), none, []⟩, ⟨(some 10), .bin .neq .plain (.t 9) (.k (.int .i64 0)), none, []⟩, ⟨(some 11), .mv (.t 10), none, []⟩, ⟨(some 12), .fieldA 5 (.t 1), some (11, false), []⟩, ⟨(some 13), .load 1 false (.t 12), some (11, false), []⟩, ⟨(some 14), .bin .neq .plain (.t 13) (.k (.int .i64 0)), some (11, false), []⟩, ⟨(some 15), .pick (.t 11) (.k (.bool true)) (.t 14), none, []⟩])
  (.cond (.t 15)
  (.seq (.reg [⟨(some 2), .mv (.k (.int .i64 0)), none, []⟩, ⟨(some 3), .mv (.k (.int .i64 152)), none, []⟩])
  .ret)
  .skip))
  (.seq (.reg [⟨(some 16), .load 6 true (.t 1), none, []⟩, ⟨(some 17), .call (.k (.fn 72 [] [])) [(.t 16)], none, []⟩, ⟨(some 18), .ext 0 (.t 17), none, []⟩, ⟨(some 19), .ext 1 (.t 17), none, []⟩, ⟨(some 2), .mv (.t 18), none, []⟩, ⟨(some 3), .mv (.t 19), none, []⟩])
  .ret))
  (.seq (.reg [⟨(some 21), .bin .eql .plain (.t 5) (.k (.int .i64 2)), none, []⟩, ⟨(some 20), .mv (.t 21), none, []⟩])
  (.cond (.t 20)
  (.seq (.seq (.reg [⟨(some 22), .fieldA 1 (.t 1), none, []⟩, ⟨(some 23), .load 1 false (.t 22), none, []⟩, ⟨(some 24), .bin .neq .plain (.t 23) (.k (.int .i64 0)), none, []⟩, ⟨(some 25), .mv (.t 24), none, []⟩, ⟨(some 26), .fieldA 2 (.t 1), some (25, false), []⟩, ⟨(some 27), .load 1 false (.t 26), some (25, false), []⟩, ⟨(some 28), .bin .neq .plain (.t 27) (.k (.int .i64 0)), some (25, false), []⟩, ⟨(some 29), .pick (.t 25) (.k (.bool true)) (.t 28), none, []⟩, ⟨(some 30), .mv (.t 29), none, []⟩, ⟨(some 31), .fieldA 3 (.t 1), some (30, false), []⟩, ⟨(some 32), .load 1 false (.t 31), some (30, false), []⟩, ⟨(some 33), .bin .neq .plain (.t 32) (.k (.int .i64 0)), some (30, false), []⟩, ⟨(some 34), .pick (.t 30) (.k (.bool true)) (.t 33), none, []⟩])
  (.cond (.t 34)
  (.seq (.reg [⟨(some 2), .mv (.k (.int .i64 0)), none, []⟩, ⟨(some 3), .mv (.k (.int .i64 152)), none, []⟩])
  .ret)
  .skip))
  (.seq (.seq (.reg [⟨(some 35), .fieldA 4 (.t 1), none, []⟩, ⟨(some 36), .load 1 false (.t 35), none, []⟩, ⟨(some 37), .bin .lss .plain (.t 36) (.k (.int .i64 0)), none, []⟩, ⟨(some 38), .mv (.t 37), none, []⟩, ⟨(some 39), .fieldA 5 (.t 1), some (38, false), []⟩, ⟨(some 40), .load 1 false (.t 39), some (38, false), []⟩, ⟨(some 41), .bin .lss .plain (.t 40) (.k (.int .i64 1)), some (38, false), []⟩, ⟨(some 42), .pick (.t 38) (.k (.bool true)) (.t 41), none, []⟩, ⟨(some 43), .mv (.t 42), none, []⟩, ⟨(some 44), .fieldA 5 (.t 1), some (43, false), []⟩, ⟨(some 45), .load 1 false (.t 44), some (43, false), []⟩, ⟨(some 46), .bin .gtr .plain (.t 45) (.k (.int .i64 6)), some (43, false), []⟩, ⟨(some 47), .pick (.t 43) (.k (.bool true)) (.t 46), none, []⟩])
  (.cond (.t 47)
  (.seq (.reg [⟨(some 2), .mv (.k (.int .i64 0)), none, []⟩, ⟨(some 3), .mv (.k (.int .i64 152)), none, []⟩])
  .ret)
  .skip))
  (.seq (.seq (.draw [⟨(some 48), .fieldA 4 (.t 1), none, []⟩, ⟨(some 49), .load 1 false (.t 48), none, []⟩, ⟨(some 50), .fieldA 5 (.t 1), none, []⟩, ⟨(some 51), .load 1 false (.t 50), none, []⟩, ⟨(some 52), .bin .quo .plain (.k (.int .i64 200)) (.t 51), none, []⟩, ⟨(some 53), .bin .gtr .plain (.t 49) (.t 52), none, []⟩] none)
  (.cond (.t 53)
  (.seq (.reg [⟨(some 2), .mv (.k (.int .i64 0)), none, []⟩, ⟨(some 3), .mv (.k (.int .i64 151)), none, []⟩])
  .ret)
  .skip))
  (.seq (.reg [⟨(some 54), .fieldA 4 (.t 1), none, []⟩, ⟨(some 55), .load 1 false (.t 54), none, []⟩, ⟨(some 56), .fieldA 5 (.t 1), none, []⟩, ⟨(some 57), .load 1 false (.t 56), none, []⟩, ⟨(some 58), .bin .mul .plain (.t 55) (.t 57), none, []⟩, ⟨(some 2), .mv (.t 58), none, []⟩, ⟨(some 3), .mv (.k (.int .i64 0)), none, []⟩])
  .ret))))
  .skip))))))
  (.seq (.reg [⟨(some 2), .mv (.k (.int .i64 0)), none, []⟩, ⟨(some 3), .mv (.k (.int .i64 152)), none, []⟩])
  .ret)))
def cf31 : CFn := ⟨cc31, 59, [(2, none), (3, none)]⟩
def cc72 : CC :=
  (.seq (.reg [⟨(some 1), .box (.t 0), none, []⟩, ⟨(some 2), .mv (.k (.int .i64 0)), none, []⟩, ⟨(some 3), .mv (.k (.int .i64 0)), none, []⟩])
  (.seq (.seq (.reg [⟨(some 8), .fieldA 3 (.t 1), none, []⟩, ⟨(some 9), .load 1 false (.t 8), none, []⟩, ⟨(some 10), .bin .eql .plain (.t 9) (.k (.int .i64 0)), none, []⟩])
  (.cond (.t 10)
  (.seq (.reg [⟨(some 2), .mv (.k (.int .i64 0)), none, []⟩, ⟨(some 3), .mv (.k (.int .i64 150)), none, []⟩])
  .ret)
  .skip))
  (.seq (.draw [⟨(some 11), .fieldA 2 (.t 1), none, []⟩, ⟨(some 12), .load 1 false (.t 11), none, []⟩, ⟨(some 13), .conv .u64 (.t 12), none, []⟩, ⟨(some 14), .fieldA 1 (.t 1), none, []⟩, ⟨(some 15), .load 1 false (.t 14), none, []⟩, ⟨(some 16), .conv .u64 (.t 15), none, []⟩, ⟨(some 17), .bin .sub .plain (.t 13) (.t 16), none, []⟩, ⟨(some 18), .fieldA 3 (.t 1), none, []⟩, ⟨(some 19), .load 1 false (.t 18), none, []⟩, ⟨(some 20), .conv .u64 (.t 19), none, []⟩, ⟨(some 4), .mv (.t 17), none, []⟩, ⟨(some 5), .mv (.t 20), none, []⟩] none)
  (.seq (.reg [⟨(some 21), .fieldA 1 (.t 1), none, []⟩, ⟨(some 22), .load 1 false (.t 21), none, []⟩, ⟨(some 23), .fieldA 2 (.t 1), none, []⟩, ⟨(some 24), .load 1 false (.t 23), none, []⟩, ⟨(some 25), .bin .geq .plain (.t 22) (.t 24), none, []⟩, ⟨(some 6), .mv (.t 25), none, []⟩])
  (.seq (.seq (.reg [⟨(some 26), .fieldA 3 (.t 1), none, []⟩, ⟨(some 27), .load 1 false (.t 26), none, []⟩, ⟨(some 28), .bin .lss .plain (.t 27) (.k (.int .i64 0)), none, []⟩])
  (.cond (.t 28)
  (.draw [⟨(some 29), .mv (.t 4), none, []⟩, ⟨(some 30), .un .neg (.t 29), none, []⟩, ⟨(some 31), .mv (.t 5), none, []⟩, ⟨(some 32), .un .neg (.t 31), none, []⟩, ⟨(some 33), .fieldA 1 (.t 1), none, []⟩, ⟨(some 34), .load 1 false (.t 33), none, []⟩, ⟨(some 35), .fieldA 2 (.t 1), none, []⟩, ⟨(some 36), .load 1 false (.t 35), none, []⟩, ⟨(some 37), .bin .leq .plain (.t 34) (.t 36), none, []⟩, ⟨(some 4), .mv (.t 30), none, []⟩, ⟨(some 5), .mv (.t 32), none, []⟩, ⟨(some 6), .mv (.t 37), none, []⟩] none)
  .skip))
  (.seq (.seq (.reg [⟨(some 38), .mv (.t 6), none, []⟩])
  (.cond (.t 38)
  (.seq (.reg [⟨(some 2), .mv (.k (.int .i64 0)), none, []⟩, ⟨(some 3), .mv (.k (.int .i64 0)), none, []⟩])
  .ret)
  .skip))
  (.seq (.reg [⟨(some 39), .mv (.t 4), none, []⟩, ⟨(some 40), .bin .sub .plain (.t 39) (.k (.int .u64 1)), none, []⟩, ⟨(some 41), .mv (.t 5), none, []⟩, ⟨(some 42), .bin .quo .plain (.t 40) (.t 41), none, []⟩, ⟨(some 43), .bin .add .plain (.t 42) (.k (.int .u64 1)), none, []⟩, ⟨(some 7), .mv (.t 43), none, []⟩])
  (.seq (.seq (.reg [⟨(some 44), .mv (.t 7), none, []⟩, ⟨(some 45), .bin .gtr .plain (.t 44) (.k (.int .u64 200)), none, []⟩])
  (.cond (.t 45)
  (.seq (.reg [⟨(some 2), .mv (.k (.int .i64 0)), none, []⟩, ⟨(some 3), .mv (.k (.int .i64 151)), none, []⟩])
  .ret)
  .skip))
  (.seq (.reg [⟨(some 46), .mv (.t 7), none, []⟩, ⟨(some 47), .conv .i64 (.t 46), none, []⟩, ⟨(some 2), .mv (.t 47), none, []⟩, ⟨(some 3), .mv (.k (.int .i64 0)), none, []⟩])
  .ret)))))))))
def cf72 : CFn := ⟨cc72, 48, [(2, none), (3, none)]⟩
def fnC (n : Nat) : Option CFn := match n with | 31 => some cf31 | 72 => some cf72 | _ => none
def cxC : Cx := { fn := fnC, ext := fun _ => none }
def shapeA (kd lo hi step items stages : Int) : AV := .agg [.int .i64 kd, .int .i64 lo, .int .i64 hi, .int .i64 step, .int .i64 items, .int .i64 stages]
end Go.Ab
namespace Go.Ab
open Go.Proofs Go.RowKit
def view2 : OR (AV × H) → Option (AV × Nat × Prop)
  | .ok (.tup [_, b], h) _ l => some (b, h.next, AndL l)
  | _ => none
theorem ora_path2 {cx : Cx} {n f : Nat} {args : List AV} {h : H} {ans : Ans} {ix : List Nat} {D : List Prop} {v : Int} {nx : Nat} (e : view2 ((levO cx n).call f args h ans []) = some (.int .i64 v, nx, pick D ix)) (hD : AndL D) :
    ∃ a h', Ca cx f args h (.tup [a, .int .i64 v]) h' := by
  cases hr : (levO cx n).call f args h ans [] with
  | ok p an lg =>
    obtain ⟨v1, h1⟩ := p
    rw [hr] at e
    unfold view2 at e
    split at e
    · next a b h2 _ l heq =>
      cases heq
      simp only [Option.some.injEq, Prod.mk.injEq] at e
      obtain ⟨rfl, _, e3⟩ := e
      have hl := pick_of hD ix
      rw [← e3] at hl
      exact ⟨a, h1, ⟨⟨n, ((levO_ok cx n).2 _ _ _ _ _ _ _ _ _ hr (AndL.all hl)).2⟩⟩⟩
    · cases e
  | ask b => rw [hr] at e; cases e
  | no => rw [hr] at e; cases e
def count1 (lo hi step items stages : Int) : Option Int := if items = 0 then if stages = 0 then if step = 0 then some 150 else (if step < 0 then if lo ≤ hi then some 0 else (if IntKind.u64.wrap (0 - IntKind.u64.wrap step) = 0 then none else (if 200 < IntKind.u64.wrap (IntKind.u64.wrap ((IntKind.u64.wrap (IntKind.u64.wrap (0 - IntKind.u64.wrap (IntKind.u64.wrap hi - IntKind.u64.wrap lo)) - 1)).tdiv (IntKind.u64.wrap (0 - IntKind.u64.wrap step))) + 1) then some 151 else (some 0))) else (if hi ≤ lo then some 0 else (if IntKind.u64.wrap step = 0 then none else (if 200 < IntKind.u64.wrap (IntKind.u64.wrap ((IntKind.u64.wrap (IntKind.u64.wrap (IntKind.u64.wrap hi - IntKind.u64.wrap lo) - 1)).tdiv (IntKind.u64.wrap step)) + 1) then some 151 else (some 0))))) else (some 152) else (some 152)
def count2 (lo hi step items stages : Int) : Option Int := if lo = 0 then if hi = 0 then if step = 0 then if items < 0 then some 152 else (if stages < 1 then some 152 else (if 6 < stages then some 152 else (if stages = 0 then none else (if IntKind.i64.wrap (Int.tdiv 200 stages) < items then some 151 else (some 0))))) else (some 152) else (some 152) else (some 152)
def countO (kd lo hi step items stages : Int) : Option Int := if kd = 1 then count1 lo hi step items stages else if kd = 2 then count2 lo hi step items stages else some 152
section
variable (lo hi step items stages : Int)
theorem cnt_1 (r : Int) (hr : count1 lo hi step items stages = some r) : ∃ a h', Ca cxC 31 [shapeA 1 lo hi step items stages] ⟨0, .leaf⟩ (.tup [a, .int .i64 r]) h' := by
  by_cases q0 : items = 0
  · by_cases q1 : stages = 0
    · by_cases q2 : step = 0
      · unfold count1 at hr; rw [if_pos q0, if_pos q1, if_pos q2] at hr; injection hr with hr; subst hr
        exact ora_path2 (D := [(!decide (items = 0)) = false, (!decide (stages = 0)) = false, (decide (step = 0)) = true]) (n := 300) (ans := decA 0x2ffd) (ix := decI 0x111123) (nx := 2) (by kernel_rfl) ⟨dNF q0, dNF q1, dT q2, trivial⟩
      · by_cases q3 : step < 0
        · by_cases q4 : lo ≤ hi
          · unfold count1 at hr; rw [if_pos q0, if_pos q1, if_neg q2, if_pos q3, if_pos q4] at hr; injection hr with hr; subst hr
            exact ora_path2 (D := [(!decide (items = 0)) = false, (!decide (stages = 0)) = false, (decide (step = 0)) = false, (decide (step < 0)) = true, (decide (lo ≤ hi)) = true]) (n := 300) (ans := decA 0x2bffd) (ix := decI 0x11112345) (nx := 2) (by kernel_rfl) ⟨dNF q0, dNF q1, dF q2, dT q3, dT q4, trivial⟩
          · by_cases q5 : IntKind.u64.wrap (0 - IntKind.u64.wrap step) = 0
            · unfold count1 at hr; rw [if_pos q0, if_pos q1, if_neg q2, if_pos q3, if_neg q4, if_pos q5] at hr; cases hr
            · by_cases q6 : 200 < IntKind.u64.wrap (IntKind.u64.wrap ((IntKind.u64.wrap (IntKind.u64.wrap (0 - IntKind.u64.wrap (IntKind.u64.wrap hi - IntKind.u64.wrap lo)) - 1)).tdiv (IntKind.u64.wrap (0 - IntKind.u64.wrap step))) + 1)
              · unfold count1 at hr; rw [if_pos q0, if_pos q1, if_neg q2, if_pos q3, if_neg q4, if_neg q5, if_pos q6] at hr; injection hr with hr; subst hr
                exact ora_path2 (D := [(!decide (items = 0)) = false, (!decide (stages = 0)) = false, (decide (step = 0)) = false, (decide (step < 0)) = true, (decide (lo ≤ hi)) = false, (decide (IntKind.u64.wrap (0 - IntKind.u64.wrap step) = 0)) = false, (decide (200 < IntKind.u64.wrap (IntKind.u64.wrap ((IntKind.u64.wrap (IntKind.u64.wrap (0 - IntKind.u64.wrap (IntKind.u64.wrap hi - IntKind.u64.wrap lo)) - 1)).tdiv (IntKind.u64.wrap (0 - IntKind.u64.wrap step))) + 1))) = true]) (n := 300) (ans := decA 0x2fbffd) (ix := decI 0x1111234567) (nx := 2) (by kernel_rfl) ⟨dNF q0, dNF q1, dF q2, dT q3, dF q4, dF q5, dT q6, trivial⟩
              · unfold count1 at hr; rw [if_pos q0, if_pos q1, if_neg q2, if_pos q3, if_neg q4, if_neg q5, if_neg q6] at hr; injection hr with hr; subst hr
                exact ora_path2 (D := [(!decide (items = 0)) = false, (!decide (stages = 0)) = false, (decide (step = 0)) = false, (decide (step < 0)) = true, (decide (lo ≤ hi)) = false, (decide (IntKind.u64.wrap (0 - IntKind.u64.wrap step) = 0)) = false, (decide (200 < IntKind.u64.wrap (IntKind.u64.wrap ((IntKind.u64.wrap (IntKind.u64.wrap (0 - IntKind.u64.wrap (IntKind.u64.wrap hi - IntKind.u64.wrap lo)) - 1)).tdiv (IntKind.u64.wrap (0 - IntKind.u64.wrap step))) + 1))) = false]) (n := 300) (ans := decA 0x3fbffd) (ix := decI 0x1111234567) (nx := 2) (by kernel_rfl) ⟨dNF q0, dNF q1, dF q2, dT q3, dF q4, dF q5, dF q6, trivial⟩
        · by_cases q4 : hi ≤ lo
          · unfold count1 at hr; rw [if_pos q0, if_pos q1, if_neg q2, if_neg q3, if_pos q4] at hr; injection hr with hr; subst hr
            exact ora_path2 (D := [(!decide (items = 0)) = false, (!decide (stages = 0)) = false, (decide (step = 0)) = false, (decide (step < 0)) = false, (decide (hi ≤ lo)) = true]) (n := 300) (ans := decA 0x2fffd) (ix := decI 0x11112345) (nx := 2) (by kernel_rfl) ⟨dNF q0, dNF q1, dF q2, dF q3, dT q4, trivial⟩
          · by_cases q5 : IntKind.u64.wrap step = 0
            · unfold count1 at hr; rw [if_pos q0, if_pos q1, if_neg q2, if_neg q3, if_neg q4, if_pos q5] at hr; cases hr
            · by_cases q6 : 200 < IntKind.u64.wrap (IntKind.u64.wrap ((IntKind.u64.wrap (IntKind.u64.wrap (IntKind.u64.wrap hi - IntKind.u64.wrap lo) - 1)).tdiv (IntKind.u64.wrap step)) + 1)
              · unfold count1 at hr; rw [if_pos q0, if_pos q1, if_neg q2, if_neg q3, if_neg q4, if_neg q5, if_pos q6] at hr; injection hr with hr; subst hr
                exact ora_path2 (D := [(!decide (items = 0)) = false, (!decide (stages = 0)) = false, (decide (step = 0)) = false, (decide (step < 0)) = false, (decide (hi ≤ lo)) = false, (decide (IntKind.u64.wrap step = 0)) = false, (decide (200 < IntKind.u64.wrap (IntKind.u64.wrap ((IntKind.u64.wrap (IntKind.u64.wrap (IntKind.u64.wrap hi - IntKind.u64.wrap lo) - 1)).tdiv (IntKind.u64.wrap step)) + 1))) = true]) (n := 300) (ans := decA 0x2ffffd) (ix := decI 0x1111234567) (nx := 2) (by kernel_rfl) ⟨dNF q0, dNF q1, dF q2, dF q3, dF q4, dF q5, dT q6, trivial⟩
              · unfold count1 at hr; rw [if_pos q0, if_pos q1, if_neg q2, if_neg q3, if_neg q4, if_neg q5, if_neg q6] at hr; injection hr with hr; subst hr
                exact ora_path2 (D := [(!decide (items = 0)) = false, (!decide (stages = 0)) = false, (decide (step = 0)) = false, (decide (step < 0)) = false, (decide (hi ≤ lo)) = false, (decide (IntKind.u64.wrap step = 0)) = false, (decide (200 < IntKind.u64.wrap (IntKind.u64.wrap ((IntKind.u64.wrap (IntKind.u64.wrap (IntKind.u64.wrap hi - IntKind.u64.wrap lo) - 1)).tdiv (IntKind.u64.wrap step)) + 1))) = false]) (n := 300) (ans := decA 0x3ffffd) (ix := decI 0x1111234567) (nx := 2) (by kernel_rfl) ⟨dNF q0, dNF q1, dF q2, dF q3, dF q4, dF q5, dF q6, trivial⟩
    · unfold count1 at hr; rw [if_pos q0, if_neg q1] at hr; injection hr with hr; subst hr
      exact ora_path2 (D := [(!decide (items = 0)) = false, (!decide (stages = 0)) = true]) (n := 300) (ans := decA 0xbfd) (ix := decI 0x11112) (nx := 1) (by kernel_rfl) ⟨dNF q0, dNT q1, trivial⟩
  · unfold count1 at hr; rw [if_neg q0] at hr; injection hr with hr; subst hr
    exact ora_path2 (D := [(!decide (items = 0)) = true]) (n := 300) (ans := decA 0x6a9) (ix := decI 0x1111) (nx := 1) (by kernel_rfl) ⟨dNT q0, trivial⟩
theorem cnt_2 (r : Int) (hr : count2 lo hi step items stages = some r) : ∃ a h', Ca cxC 31 [shapeA 2 lo hi step items stages] ⟨0, .leaf⟩ (.tup [a, .int .i64 r]) h' := by
  by_cases q0 : lo = 0
  · by_cases q1 : hi = 0
    · by_cases q2 : step = 0
      · by_cases q3 : items < 0
        · unfold count2 at hr; rw [if_pos q0, if_pos q1, if_pos q2, if_pos q3] at hr; injection hr with hr; subst hr
          exact ora_path2 (D := [(!decide (lo = 0)) = false, (!decide (hi = 0)) = false, (!decide (step = 0)) = false, (decide (items < 0)) = true]) (n := 300) (ans := decA 0x556abffff5) (ix := decI 0x1111222234444) (nx := 1) (by kernel_rfl) ⟨dNF q0, dNF q1, dNF q2, dT q3, trivial⟩
        · by_cases q4 : stages < 1
          · unfold count2 at hr; rw [if_pos q0, if_pos q1, if_pos q2, if_neg q3, if_pos q4] at hr; injection hr with hr; subst hr
            exact ora_path2 (D := [(!decide (lo = 0)) = false, (!decide (hi = 0)) = false, (!decide (step = 0)) = false, (decide (items < 0)) = false, (decide (stages < 1)) = true]) (n := 300) (ans := decA 0x6abffffff5) (ix := decI 0x11112222344445555) (nx := 1) (by kernel_rfl) ⟨dNF q0, dNF q1, dNF q2, dF q3, dT q4, trivial⟩
          · by_cases q5 : 6 < stages
            · unfold count2 at hr; rw [if_pos q0, if_pos q1, if_pos q2, if_neg q3, if_neg q4, if_pos q5] at hr; injection hr with hr; subst hr
              exact ora_path2 (D := [(!decide (lo = 0)) = false, (!decide (hi = 0)) = false, (!decide (step = 0)) = false, (decide (items < 0)) = false, (decide (stages < 1)) = false, (decide (6 < stages)) = true]) (n := 300) (ans := decA 0xbffffffff5) (ix := decI 0x111122223444455556) (nx := 1) (by kernel_rfl) ⟨dNF q0, dNF q1, dNF q2, dF q3, dF q4, dT q5, trivial⟩
            · by_cases q6 : stages = 0
              · unfold count2 at hr; rw [if_pos q0, if_pos q1, if_pos q2, if_neg q3, if_neg q4, if_neg q5, if_pos q6] at hr; cases hr
              · by_cases q7 : IntKind.i64.wrap (Int.tdiv 200 stages) < items
                · unfold count2 at hr; rw [if_pos q0, if_pos q1, if_pos q2, if_neg q3, if_neg q4, if_neg q5, if_neg q6, if_pos q7] at hr; injection hr with hr; subst hr
                  exact ora_path2 (D := [(!decide (lo = 0)) = false, (!decide (hi = 0)) = false, (!decide (step = 0)) = false, (decide (items < 0)) = false, (decide (stages < 1)) = false, (decide (6 < stages)) = false, (decide (stages = 0)) = false, (decide (IntKind.i64.wrap (Int.tdiv 200 stages) < items)) = true]) (n := 300) (ans := decA 0xbfffffffff5) (ix := decI 0x11112222344445555678) (nx := 1) (by kernel_rfl) ⟨dNF q0, dNF q1, dNF q2, dF q3, dF q4, dF q5, dF q6, dT q7, trivial⟩
                · unfold count2 at hr; rw [if_pos q0, if_pos q1, if_pos q2, if_neg q3, if_neg q4, if_neg q5, if_neg q6, if_neg q7] at hr; injection hr with hr; subst hr
                  exact ora_path2 (D := [(!decide (lo = 0)) = false, (!decide (hi = 0)) = false, (!decide (step = 0)) = false, (decide (items < 0)) = false, (decide (stages < 1)) = false, (decide (6 < stages)) = false, (decide (stages = 0)) = false, (decide (IntKind.i64.wrap (Int.tdiv 200 stages) < items)) = false]) (n := 300) (ans := decA 0xffffffffff5) (ix := decI 0x11112222344445555678) (nx := 1) (by kernel_rfl) ⟨dNF q0, dNF q1, dNF q2, dF q3, dF q4, dF q5, dF q6, dF q7, trivial⟩
      · unfold count2 at hr; rw [if_pos q0, if_pos q1, if_neg q2] at hr; injection hr with hr; subst hr
        exact ora_path2 (D := [(!decide (lo = 0)) = false, (!decide (hi = 0)) = false, (!decide (step = 0)) = true]) (n := 300) (ans := decA 0x2ffff5) (ix := decI 0x111122223) (nx := 1) (by kernel_rfl) ⟨dNF q0, dNF q1, dNT q2, trivial⟩
    · unfold count2 at hr; rw [if_pos q0, if_neg q1] at hr; injection hr with hr; subst hr
      exact ora_path2 (D := [(!decide (lo = 0)) = false, (!decide (hi = 0)) = true]) (n := 300) (ans := decA 0x1aaff5) (ix := decI 0x11112222) (nx := 1) (by kernel_rfl) ⟨dNF q0, dNT q1, trivial⟩
  · unfold count2 at hr; rw [if_neg q0] at hr; injection hr with hr; subst hr
    exact ora_path2 (D := [(!decide (lo = 0)) = true]) (n := 300) (ans := decA 0x155aa5) (ix := decI 0x1111) (nx := 1) (by kernel_rfl) ⟨dNT q0, trivial⟩
theorem cnt_0 (kd lo hi step items stages : Int) (h1 : ¬ kd = 1) (h2 : ¬ kd = 2) : ∃ a h', Ca cxC 31 [shapeA kd lo hi step items stages] ⟨0, .leaf⟩ (.tup [a, .int .i64 152]) h' :=
  ora_path2 (D := [decide (kd = 1) = false, decide (kd = 2) = false]) (n := 300) (ans := decA 0xf) (ix := decI 0x12) (nx := 1) (by kernel_rfl) ⟨dF h1, dF h2, trivial⟩
end
theorem cntO (kd lo hi step items stages r : Int) (hr : countO kd lo hi step items stages = some r) : ∃ a h', Ca cxC 31 [shapeA kd lo hi step items stages] ⟨0, .leaf⟩ (.tup [a, .int .i64 r]) h' := by
  unfold countO at hr
  split at hr
  · next h => subst h; exact cnt_1 lo hi step items stages r hr
  · next h1 =>
    split at hr
    · next h => subst h; exact cnt_2 lo hi step items stages r hr
    · next h2 => injection hr with hr; subst hr; exact cnt_0 kd lo hi step items stages h1 h2
theorem cxC_ok : CxOk Tryz.prog cxC := by
  refine ⟨fun f cf h => ?_, fun f e h => (by cases h), fun f e h => (by cases h)⟩
  change fnC f = some cf at h
  unfold fnC at h
  split at h
  · cases h; exact ⟨_, Tryz.func31, by kernel_rfl⟩
  · cases h; exact ⟨_, Tryz.func72, by kernel_rfl⟩
  · cases h
theorem count_calls (kd lo hi step items stages r : Int) (w : World) (hr : countO kd lo hi step items stages = some r) :
    Calls Tryz.prog 31 #[.agg #[.int .i64 kd, .int .i64 lo, .int .i64 hi, .int .i64 step, .int .i64 items, .int .i64 stages]] w fun e w' => (∃ v_ : Value, e = .returned (.tuple #[v_, .int .i64 r])) ∧ Below w.heap.size w w' := by
  obtain ⟨a, h', hc⟩ := cntO kd lo hi step items stages r hr
  have hl : LR (fun _ => Option.none) [shapeA kd lo hi step items stages] [.agg #[.int .i64 kd, .int .i64 lo, .int .i64 hi, .int .i64 step, .int .i64 items, .int .i64 stages]] :=
    LR.cons (VR.mk_agg (cs := [.int .i64 kd, .int .i64 lo, .int .i64 hi, .int .i64 step, .int .i64 items, .int .i64 stages]) (ds := [.int .i64 kd, .int .i64 lo, .int .i64 hi, .int .i64 step, .int .i64 items, .int .i64 stages]) (.cons (.int _ _) (.cons (.int _ _) (.cons (.int _ _) (.cons (.int _ _) (.cons (.int _ _) (.cons (.int _ _) (.nil _)))))))) (.nil _)
  refine (hc.calls mixedT cxC_ok (HR.none 0 w) hl (fun _ _ _ => rfl)).mono ?_
  rintro e w' ⟨v', σ', rfl, hv, _, hx⟩
  refine ⟨?_, hx.below⟩
  cases hv with
  | tup h1 h2 =>
    rename_i ds
    obtain ⟨l⟩ := ds
    match l, h1, h2 with
    | [v0, v1], _, h2 =>
      have := h2 1 (.int .i64 r) v1 rfl rfl
      cases this
      exact ⟨v0, rfl⟩
end Go.Ab
