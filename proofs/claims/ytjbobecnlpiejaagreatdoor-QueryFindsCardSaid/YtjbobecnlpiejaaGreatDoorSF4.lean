import Derived.Test.YtjbobecnlpiejaaGreatDoorSF3
set_option linter.unusedVariables false
set_option linter.unusedSimpArgs false
namespace Go.Proofs.YtjbobecnlpiejaaGreatDoor.Q
open Go.Proofs.YtjbobecnlpiejaaGreatDoorZ
open Go.RowKit Go.Proofs.YtjbobecnlpiejaaGreatDoorW.PrintWords Go.Proofs.YtjbobecnlpiejaaGreatDoorW.PrintLast Go.Proofs.YtjbobecnlpiejaaGreatDoorW.PrintMore
attribute [local go_sem] qac qbc qhc qgc
mutual
def qgb.j0 : Nat → Bool → Bool → Bool → ByteArray → ByteArray → List (S59) → Int → Int → ByteArray → ByteArray → ByteArray → List (S55) → Option (Bool)
 | 0, _, _, _, _, _, _, _, _, _, _, _, _ => none
 | k + 1, x28, x442000, x442001, x442002, x442003, x442004, x443000, x443001, x443002, x443003, x443004, x443005 => if x28 = true then (some false) else (qgb.l0 k (x442004.length : Int) 0 x442000 x442001 x442002 x442003 x442004 x443000 x443001 x443002 x443003 x443004 x443005)
def qgb.l0 : Nat → Int → Int → Bool → Bool → ByteArray → ByteArray → List (S59) → Int → Int → ByteArray → ByteArray → ByteArray → List (S55) → Option (Bool)
 | 0, _, _, _, _, _, _, _, _, _, _, _, _, _ => none
 | k + 1, x31, x32, x442000, x442001, x442002, x442003, x442004, x443000, x443001, x443002, x443003, x443004, x443005 => if x32 < x31 then (if 0 ≤ x32 then (if x32 < (x442004.length : Int) then ((qsc.f k x443005 ((qdc x442004 x32).f0)).bind fun bt444 => (if bt444.2 = true then (if (qdc x442004 x32).f2 = true then (if bt444.1.toList = ((qdc x442004 x32).f1).toList then (qgb.l0 k x31 (wrap64 (x32 + 1)) x442000 x442001 x442002 x442003 x442004 x443000 x443001 x443002 x443003 x443004 x443005) else (some false)) else (qgb.l0 k x31 (wrap64 (x32 + 1)) x442000 x442001 x442002 x442003 x442004 x443000 x443001 x443002 x443003 x443004 x443005)) else (some false))) else (none)) else (none)) else (some true)
end
def qgb.f (k : Nat) (a0_0 : Bool) (a0_1 : Bool) (a0_2 : ByteArray) (a0_3 : ByteArray) (l0_4 : List (S59)) (a1_0 : Int) (a1_1 : Int) (a1_2 : ByteArray) (a1_3 : ByteArray) (a1_4 : ByteArray) (l1_5 : List (S55)) : Option (Bool) := if a0_2.toList = ([] : List UInt8) then (if a0_1 = true then (qgb.j0 k (a1_3.toList != a0_3.toList) a0_0 a0_1 a0_2 a0_3 l0_4 a1_0 a1_1 a1_2 a1_3 a1_4 l1_5) else (qgb.j0 k false a0_0 a0_1 a0_2 a0_3 l0_4 a1_0 a1_1 a1_2 a1_3 a1_4 l1_5)) else (if a1_2.toList = a0_2.toList then (if a0_1 = true then (qgb.j0 k (a1_3.toList != a0_3.toList) a0_0 a0_1 a0_2 a0_3 l0_4 a1_0 a1_1 a1_2 a1_3 a1_4 l1_5) else (qgb.j0 k false a0_0 a0_1 a0_2 a0_3 l0_4 a1_0 a1_1 a1_2 a1_3 a1_4 l1_5)) else (qgb.j0 k true a0_0 a0_1 a0_2 a0_3 l0_4 a1_0 a1_1 a1_2 a1_3 a1_4 l1_5))
set_option maxHeartbeats 8000000 in
set_option maxRecDepth 100000 in
theorem qgb.calls (k : Nat) (a0_0 : Bool) (a0_1 : Bool) (a0_2 : ByteArray) (a0_3 : ByteArray) (A0_4 : Option Addr) (c0_4 : Nat) (l0_4 : List (S59)) (a1_0 : Int) (a1_1 : Int) (a1_2 : ByteArray) (a1_3 : ByteArray) (a1_4 : ByteArray) (A1_5 : Option Addr) (c1_5 : Nat) (l1_5 : List (S55)) (r : Bool) (w : World) (hr0_4 : Kd.C k59 w A0_4 l0_4.length l0_4) (hc0_4 : l0_4.length ≤ c0_4) (hr1_5 : Kd.C k55 w A1_5 l1_5.length l1_5) (hc1_5 : l1_5.length ≤ c1_5) (h : qgb.f k a0_0 a0_1 a0_2 a0_3 l0_4 a1_0 a1_1 a1_2 a1_3 a1_4 l1_5 = some r) :
  Calls Tryz.prog 54 #[.agg #[.bool a0_0, .bool a0_1, .string a0_2, .string a0_3, .slice A0_4 l0_4.length c0_4], .agg #[.int .i64 a1_0, .int .i64 a1_1, .string a1_2, .string a1_3, .string a1_4, .slice A1_5 l1_5.length c1_5]] w fun e w' => e = .returned (.bool r) ∧ Below w.heap.size w w' := by
 have hu58 := Tryz.underlying58;have hu53 := Tryz.underlying53;have HR0_4 := qa.mk hr0_4;clear hr0_4 hc0_4;have HR1_5 := qa.mk hr1_5;have HC1_5 := qa.mk hc1_5;clear hr1_5 hc1_5;have HB := qa.mk (Below.refl w.heap.size w);have H : (if a0_2.toList = ([] : List UInt8) then (if a0_1 = true then (qgb.j0 k (a1_3.toList != a0_3.toList) a0_0 a0_1 a0_2 a0_3 l0_4 a1_0 a1_1 a1_2 a1_3 a1_4 l1_5) else (qgb.j0 k false a0_0 a0_1 a0_2 a0_3 l0_4 a1_0 a1_1 a1_2 a1_3 a1_4 l1_5)) else (if a1_2.toList = a0_2.toList then (if a0_1 = true then (qgb.j0 k (a1_3.toList != a0_3.toList) a0_0 a0_1 a0_2 a0_3 l0_4 a1_0 a1_1 a1_2 a1_3 a1_4 l1_5) else (qgb.j0 k false a0_0 a0_1 a0_2 a0_3 l0_4 a1_0 a1_1 a1_2 a1_3 a1_4 l1_5)) else (qgb.j0 k true a0_0 a0_1 a0_2 a0_3 l0_4 a1_0 a1_1 a1_2 a1_3 a1_4 l1_5))) = some r := h;clear h;have HC3 := qa.mk H;clear H;(go_enter Tryz.func54, Tryz.ntmps54);go_upto_region 1 with (first | ((with_reducible refine qmb (N := 2) rfl ?_); refine qob ?hg (N := 2) ?hd (cs := #[.bool a0_0, .bool a0_1, .string a0_2, .string a0_3, .slice A0_4 l0_4.length c0_4]) (t := 58) ?hr ?_; (case hd => rfl); (case hg => rfl); (case hr => exact zz7); intro gb441 hg w4 hbox hb; have n0_ := qa.mk (qo zz32 hb); have n1_ := qa.mk (hbox); have n2_ := qa.mk ((by rw [hg]; exact (ql zz32) : w.heap.size ≤ gb441)); have n3_ := qa.mk ((by rw [hg]; exact (ql zz32) : w.heap.size ≤ gb441)); clear HB; have HB := n0_; have BK441 := n1_; have GW441 := n2_; have GE441 := n3_; clear n0_ n1_ n2_ n3_; clear hb hbox hg) | ((with_reducible refine qmb (N := 3) rfl ?_); refine qob ?hg (N := 3) ?hd (cs := #[.int .i64 a1_0, .int .i64 a1_1, .string a1_2, .string a1_3, .string a1_4, .slice A1_5 l1_5.length c1_5]) (t := 53) ?hr ?_; (case hd => rfl); (case hg => rfl); (case hr => exact zz7); intro gb442 hg w5 hbox hb; have n0_ := qa.mk (qvb (g := gb441) (o := .cells #[.bool a0_0, .bool a0_1, .string a0_2, .string a0_3, .slice A0_4 l0_4.length c0_4] 58 (0, 0)) zz65 hb); have n1_ := qa.mk (qo zz71 hb); have n2_ := qa.mk (hbox); have n3_ := qa.mk ((by rw [hg]; exact (ql zz71) : w.heap.size ≤ gb442)); have n4_ := qa.mk ((by rw [hg]; exact (ql zz71) : w.heap.size ≤ gb442)); have n5_ := qa.mk ((by rw [hg]; exact qjd (qmc (g := gb441) (o := .cells #[.bool a0_0, .bool a0_1, .string a0_2, .string a0_3, .slice A0_4 l0_4.length c0_4] 58 (0, 0)) zz65) : gb441 ≠ gb442)); have n6_ := qa.mk ((by rw [hg]; exact Nat.ne_of_gt (qmc (g := gb441) (o := .cells #[.bool a0_0, .bool a0_1, .string a0_2, .string a0_3, .slice A0_4 l0_4.length c0_4] 58 (0, 0)) zz65) : gb442 ≠ gb441)); clear BK441; clear HB; have BK441 := n0_; have HB := n1_; have BK442 := n2_; have GW442 := n3_; have GE442 := n4_; have NB441_442 := n5_; have NB442_441 := n6_; clear n0_ n1_ n2_ n3_ n4_ n5_ n6_; clear hb hbox hg))
 repeat (go_quiet (first | ((with_reducible refine qmb (N := 2) rfl ?_); refine qob ?hg (N := 2) ?hd (cs := #[.bool a0_0, .bool a0_1, .string a0_2, .string a0_3, .slice A0_4 l0_4.length c0_4]) (t := 58) ?hr ?_; (case hd => rfl); (case hg => rfl); (case hr => exact zz7); intro gb441 hg w4 hbox hb; have n0_ := qa.mk (qo zz32 hb); have n1_ := qa.mk (hbox); have n2_ := qa.mk ((by rw [hg]; exact (ql zz32) : w.heap.size ≤ gb441)); have n3_ := qa.mk ((by rw [hg]; exact (ql zz32) : w.heap.size ≤ gb441)); clear HB; have HB := n0_; have BK441 := n1_; have GW441 := n2_; have GE441 := n3_; clear n0_ n1_ n2_ n3_; clear hb hbox hg) | ((with_reducible refine qmb (N := 3) rfl ?_); refine qob ?hg (N := 3) ?hd (cs := #[.int .i64 a1_0, .int .i64 a1_1, .string a1_2, .string a1_3, .string a1_4, .slice A1_5 l1_5.length c1_5]) (t := 53) ?hr ?_; (case hd => rfl); (case hg => rfl); (case hr => exact zz7); intro gb442 hg w5 hbox hb; have n0_ := qa.mk (qvb (g := gb441) (o := .cells #[.bool a0_0, .bool a0_1, .string a0_2, .string a0_3, .slice A0_4 l0_4.length c0_4] 58 (0, 0)) zz65 hb); have n1_ := qa.mk (qo zz71 hb); have n2_ := qa.mk (hbox); have n3_ := qa.mk ((by rw [hg]; exact (ql zz71) : w.heap.size ≤ gb442)); have n4_ := qa.mk ((by rw [hg]; exact (ql zz71) : w.heap.size ≤ gb442)); have n5_ := qa.mk ((by rw [hg]; exact qjd (qmc (g := gb441) (o := .cells #[.bool a0_0, .bool a0_1, .string a0_2, .string a0_3, .slice A0_4 l0_4.length c0_4] 58 (0, 0)) zz65) : gb441 ≠ gb442)); have n6_ := qa.mk ((by rw [hg]; exact Nat.ne_of_gt (qmc (g := gb441) (o := .cells #[.bool a0_0, .bool a0_1, .string a0_2, .string a0_3, .slice A0_4 l0_4.length c0_4] 58 (0, 0)) zz65) : gb442 ≠ gb441)); clear BK441; clear HB; have BK441 := n0_; have HB := n1_; have BK442 := n2_; have GW442 := n3_; have GE442 := n4_; have NB441_442 := n5_; have NB442_441 := n6_; clear n0_ n1_ n2_ n3_ n4_ n5_ n6_; clear hb hbox hg)); go_upto_region 1 with (first | ((with_reducible refine qmb (N := 2) rfl ?_); refine qob ?hg (N := 2) ?hd (cs := #[.bool a0_0, .bool a0_1, .string a0_2, .string a0_3, .slice A0_4 l0_4.length c0_4]) (t := 58) ?hr ?_; (case hd => rfl); (case hg => rfl); (case hr => exact zz7); intro gb441 hg w4 hbox hb; have n0_ := qa.mk (qo zz32 hb); have n1_ := qa.mk (hbox); have n2_ := qa.mk ((by rw [hg]; exact (ql zz32) : w.heap.size ≤ gb441)); have n3_ := qa.mk ((by rw [hg]; exact (ql zz32) : w.heap.size ≤ gb441)); clear HB; have HB := n0_; have BK441 := n1_; have GW441 := n2_; have GE441 := n3_; clear n0_ n1_ n2_ n3_; clear hb hbox hg) | ((with_reducible refine qmb (N := 3) rfl ?_); refine qob ?hg (N := 3) ?hd (cs := #[.int .i64 a1_0, .int .i64 a1_1, .string a1_2, .string a1_3, .string a1_4, .slice A1_5 l1_5.length c1_5]) (t := 53) ?hr ?_; (case hd => rfl); (case hg => rfl); (case hr => exact zz7); intro gb442 hg w5 hbox hb; have n0_ := qa.mk (qvb (g := gb441) (o := .cells #[.bool a0_0, .bool a0_1, .string a0_2, .string a0_3, .slice A0_4 l0_4.length c0_4] 58 (0, 0)) zz65 hb); have n1_ := qa.mk (qo zz71 hb); have n2_ := qa.mk (hbox); have n3_ := qa.mk ((by rw [hg]; exact (ql zz71) : w.heap.size ≤ gb442)); have n4_ := qa.mk ((by rw [hg]; exact (ql zz71) : w.heap.size ≤ gb442)); have n5_ := qa.mk ((by rw [hg]; exact qjd (qmc (g := gb441) (o := .cells #[.bool a0_0, .bool a0_1, .string a0_2, .string a0_3, .slice A0_4 l0_4.length c0_4] 58 (0, 0)) zz65) : gb441 ≠ gb442)); have n6_ := qa.mk ((by rw [hg]; exact Nat.ne_of_gt (qmc (g := gb441) (o := .cells #[.bool a0_0, .bool a0_1, .string a0_2, .string a0_3, .slice A0_4 l0_4.length c0_4] 58 (0, 0)) zz65) : gb442 ≠ gb441)); clear BK441; clear HB; have BK441 := n0_; have HB := n1_; have BK442 := n2_; have GW442 := n3_; have GE442 := n4_; have NB441_442 := n5_; have NB442_441 := n6_; clear n0_ n1_ n2_ n3_ n4_ n5_ n6_; clear hb hbox hg)))
 (try simp only [Act.put, List.setIfInBounds_toArray, List.set_cons_zero, List.set_cons_succ])
 go_cut [28] (fun v28 wc => ∃ (kq : Nat) (x28_2 : Bool), v28 = .bool x28_2 ∧ qa (qgb.j0 kq x28_2 a0_0 a0_1 a0_2 a0_3 l0_4 a1_0 a1_1 a1_2 a1_3 a1_4 l1_5 = some r) ∧ qa (kq ≤ k) ∧ qa (wc.heap[gb441]? = some (.cells #[.bool a0_0, .bool a0_1, .string a0_2, .string a0_3, (.slice A0_4 l0_4.length c0_4)] 58 (0, 0))) ∧ qa (wc.heap[gb442]? = some (.cells #[.int .i64 a1_0, .int .i64 a1_1, .string a1_2, .string a1_3, .string a1_4, (.slice A1_5 l1_5.length c1_5)] 53 (0, 0))) ∧ qa (Below w.heap.size w wc))
 case first =>
  have H := HC3.out;clear HC3;by_cases c6 : a0_2.toList = ([] : List UInt8)
  ·rw [if_pos c6] at H;have c6b0 : (a0_2.toList == ([] : List UInt8)) = true := beq_iff_eq.mpr c6;have c6b1 : (a0_2.toList != ([] : List UInt8)) = false := bne_eq_false_iff_eq.mpr c6
   (try (have c6b2 : List.isEmpty (a0_2.toList) = true := by simpa using c6))
   clear c6
   (first | rw [c6b0] | (simp only [i64_w, i32_w]; rw [c6b0]) | rw [c6b2] | skip)
   by_cases c7 : a0_1 = true
   ·subst c7;(have H1 : (qgb.j0 k (a1_3.toList != a0_3.toList) a0_0 true a0_2 a0_3 l0_4 a1_0 a1_1 a1_2 a1_3 a1_4 l1_5) = some r := by rw [if_pos rfl] at H; exact H);clear H;have H := H1;clear H1;have H' := qa.mk H;clear H;have hnb8 := NB441_442.out;have hnc8 := NB442_441.out;have hcz9_0 := ce BK441 0 (.bool a0_0);have hcz9_1 := ce BK441 1 (.bool true);have hcz9_2 := ce BK441 2 (.string a0_2);have hcz9_3 := ce BK441 3 (.string a0_3);have hcz9_4 := ce BK441 4 (.slice A0_4 l0_4.length c0_4);have hfz9_0 := qe BK441.out 0;have hfz9_1 := qe BK441.out 1;have hfz9_2 := qe BK441.out 2;have hfz9_3 := qe BK441.out 3;have hfz9_4 := qe BK441.out 4;have hcz10_0 := ce BK442 0 (.int .i64 a1_0);have hcz10_1 := ce BK442 1 (.int .i64 a1_1);have hcz10_2 := ce BK442 2 (.string a1_2);have hcz10_3 := ce BK442 3 (.string a1_3);have hcz10_4 := ce BK442 4 (.string a1_4);have hcz10_5 := ce BK442 5 (.slice A1_5 l1_5.length c1_5);have hfz10_0 := qe BK442.out 0;have hfz10_1 := qe BK442.out 1;have hfz10_2 := qe BK442.out 2;have hfz10_3 := qe BK442.out 3;have hfz10_4 := qe BK442.out 4;have hfz10_5 := qe BK442.out 5;go_wp2
    repeat (go_quiet (fail); try go_wp2)
    go_meet
    case rel => exact ⟨_, ((a1_3.toList != a0_3.toList)), zz8, H', ⟨zz4⟩, ⟨zz65⟩, ⟨zz65⟩, ⟨zz101⟩⟩
   ·replace c7 := Bool.eq_false_iff.mpr c7;subst c7;(have H1 : (qgb.j0 k false a0_0 false a0_2 a0_3 l0_4 a1_0 a1_1 a1_2 a1_3 a1_4 l1_5) = some r := by rw [if_neg (show ¬ (false = true) by decide)] at H; exact H);clear H;have H := H1;clear H1;have H' := qa.mk H;clear H;have hnb11 := NB441_442.out;have hnc11 := NB442_441.out;have hcz12_0 := ce BK441 0 (.bool a0_0);have hcz12_1 := ce BK441 1 (.bool false);have hcz12_2 := ce BK441 2 (.string a0_2);have hcz12_3 := ce BK441 3 (.string a0_3);have hcz12_4 := ce BK441 4 (.slice A0_4 l0_4.length c0_4);have hfz12_0 := qe BK441.out 0;have hfz12_1 := qe BK441.out 1;have hfz12_2 := qe BK441.out 2;have hfz12_3 := qe BK441.out 3;have hfz12_4 := qe BK441.out 4;go_wp2
    repeat (go_quiet (fail); try go_wp2)
    go_meet
    case rel => exact ⟨_, (false), zz8, H', ⟨zz4⟩, ⟨zz65⟩, ⟨zz65⟩, ⟨zz101⟩⟩
  ·rw [if_neg c6] at H;have c6b0 : (a0_2.toList == ([] : List UInt8)) = false := beq_eq_false_iff_ne.mpr c6;have c6b1 : (a0_2.toList != ([] : List UInt8)) = true := bne_iff_ne.mpr c6
   (try (have c6b2 : List.isEmpty (a0_2.toList) = false := by simpa using c6))
   (first | rw [c6b0] | (simp only [i64_w, i32_w]; rw [c6b0]) | rw [c6b2] | skip)
   by_cases c13 : a1_2.toList = a0_2.toList
   ·rw [if_pos c13] at H;have c13b0 : (a1_2.toList == a0_2.toList) = true := beq_iff_eq.mpr c13;have c13b1 : (a1_2.toList != a0_2.toList) = false := bne_eq_false_iff_eq.mpr c13;clear c13;by_cases c14 : a0_1 = true
    ·subst c14;(have H1 : (qgb.j0 k (a1_3.toList != a0_3.toList) a0_0 true a0_2 a0_3 l0_4 a1_0 a1_1 a1_2 a1_3 a1_4 l1_5) = some r := by rw [if_pos rfl] at H; exact H);clear H;have H := H1;clear H1;have H' := qa.mk H;clear H;have hnb15 := NB441_442.out;have hnc15 := NB442_441.out;have hcz16_0 := ce BK441 0 (.bool a0_0);have hcz16_1 := ce BK441 1 (.bool true);have hcz16_2 := ce BK441 2 (.string a0_2);have hcz16_3 := ce BK441 3 (.string a0_3);have hcz16_4 := ce BK441 4 (.slice A0_4 l0_4.length c0_4);have hfz16_0 := qe BK441.out 0;have hfz16_1 := qe BK441.out 1;have hfz16_2 := qe BK441.out 2;have hfz16_3 := qe BK441.out 3;have hfz16_4 := qe BK441.out 4;have hcz17_0 := ce BK442 0 (.int .i64 a1_0);have hcz17_1 := ce BK442 1 (.int .i64 a1_1);have hcz17_2 := ce BK442 2 (.string a1_2);have hcz17_3 := ce BK442 3 (.string a1_3);have hcz17_4 := ce BK442 4 (.string a1_4);have hcz17_5 := ce BK442 5 (.slice A1_5 l1_5.length c1_5);have hfz17_0 := qe BK442.out 0;have hfz17_1 := qe BK442.out 1;have hfz17_2 := qe BK442.out 2;have hfz17_3 := qe BK442.out 3;have hfz17_4 := qe BK442.out 4;have hfz17_5 := qe BK442.out 5;go_wp2
     repeat (go_quiet (fail); try go_wp2)
     go_meet
     case rel => exact ⟨_, ((a1_3.toList != a0_3.toList)), zz8, H', ⟨zz4⟩, ⟨zz65⟩, ⟨zz65⟩, ⟨zz101⟩⟩
    ·replace c14 := Bool.eq_false_iff.mpr c14;subst c14;(have H1 : (qgb.j0 k false a0_0 false a0_2 a0_3 l0_4 a1_0 a1_1 a1_2 a1_3 a1_4 l1_5) = some r := by rw [if_neg (show ¬ (false = true) by decide)] at H; exact H);clear H;have H := H1;clear H1;have H' := qa.mk H;clear H;have hnb18 := NB441_442.out;have hnc18 := NB442_441.out;have hcz19_0 := ce BK441 0 (.bool a0_0);have hcz19_1 := ce BK441 1 (.bool false);have hcz19_2 := ce BK441 2 (.string a0_2);have hcz19_3 := ce BK441 3 (.string a0_3);have hcz19_4 := ce BK441 4 (.slice A0_4 l0_4.length c0_4);have hfz19_0 := qe BK441.out 0;have hfz19_1 := qe BK441.out 1;have hfz19_2 := qe BK441.out 2;have hfz19_3 := qe BK441.out 3;have hfz19_4 := qe BK441.out 4;have hcz20_0 := ce BK442 0 (.int .i64 a1_0);have hcz20_1 := ce BK442 1 (.int .i64 a1_1);have hcz20_2 := ce BK442 2 (.string a1_2);have hcz20_3 := ce BK442 3 (.string a1_3);have hcz20_4 := ce BK442 4 (.string a1_4);have hcz20_5 := ce BK442 5 (.slice A1_5 l1_5.length c1_5);have hfz20_0 := qe BK442.out 0;have hfz20_1 := qe BK442.out 1;have hfz20_2 := qe BK442.out 2;have hfz20_3 := qe BK442.out 3;have hfz20_4 := qe BK442.out 4;have hfz20_5 := qe BK442.out 5;go_wp2
     repeat (go_quiet (fail); try go_wp2)
     go_meet
     case rel => exact ⟨_, (false), zz8, H', ⟨zz4⟩, ⟨zz65⟩, ⟨zz65⟩, ⟨zz101⟩⟩
   ·rw [if_neg c13] at H;have c13b0 : (a1_2.toList == a0_2.toList) = false := beq_eq_false_iff_ne.mpr c13;have c13b1 : (a1_2.toList != a0_2.toList) = true := bne_iff_ne.mpr c13;have H' := qa.mk H;clear H;have hnb21 := NB441_442.out;have hnc21 := NB442_441.out;have hcz22_0 := ce BK441 0 (.bool a0_0);have hcz22_1 := ce BK441 1 (.bool a0_1);have hcz22_2 := ce BK441 2 (.string a0_2);have hcz22_3 := ce BK441 3 (.string a0_3);have hcz22_4 := ce BK441 4 (.slice A0_4 l0_4.length c0_4);have hfz22_0 := qe BK441.out 0;have hfz22_1 := qe BK441.out 1;have hfz22_2 := qe BK441.out 2;have hfz22_3 := qe BK441.out 3;have hfz22_4 := qe BK441.out 4;have hcz23_0 := ce BK442 0 (.int .i64 a1_0);have hcz23_1 := ce BK442 1 (.int .i64 a1_1);have hcz23_2 := ce BK442 2 (.string a1_2);have hcz23_3 := ce BK442 3 (.string a1_3);have hcz23_4 := ce BK442 4 (.string a1_4);have hcz23_5 := ce BK442 5 (.slice A1_5 l1_5.length c1_5);have hfz23_0 := qe BK442.out 0;have hfz23_1 := qe BK442.out 1;have hfz23_2 := qe BK442.out 2;have hfz23_3 := qe BK442.out 3;have hfz23_4 := qe BK442.out 4;have hfz23_5 := qe BK442.out 5;go_wp2
    repeat (go_quiet (fail); try go_wp2)
    go_meet
    case rel => exact ⟨_, (true), zz8, H', ⟨zz4⟩, ⟨zz65⟩, ⟨zz65⟩, ⟨zz101⟩⟩
 case rest =>
  clear HC3;obtain ⟨kq, x28_2, rfl, HA, HJ2, BK441, BK442, HB⟩ := hcut
  cases kq with
  | zero => exact absurd HA.out (by simp [qgb.j0])
  | succ kj2 =>
   have H := HA.out;clear HA;simp only [qgb.j0] at H;by_cases c24 : x28_2 = true
   ·subst c24;(have H1 : (some false) = some r := by rw [if_pos rfl] at H; exact H);clear H;have H := H1;clear H1;obtain rfl := Option.some.inj H;go_wp2
    repeat (go_quiet (fail); try go_wp2)
    go_ret;exact ⟨zz98, zz101⟩
   ·replace c24 := Bool.eq_false_iff.mpr c24;subst c24;(have H1 : (qgb.l0 kj2 (l0_4.length : Int) 0 a0_0 a0_1 a0_2 a0_3 l0_4 a1_0 a1_1 a1_2 a1_3 a1_4 l1_5) = some r := by rw [if_neg (show ¬ (false = true) by decide)] at H; exact H);clear H;have H := H1;clear H1;have H' := qa.mk H;clear H;have hnb25 := NB441_442.out;have hnc25 := NB442_441.out;have hcz26_0 := ce BK441 0 (.bool a0_0);have hcz26_1 := ce BK441 1 (.bool a0_1);have hcz26_2 := ce BK441 2 (.string a0_2);have hcz26_3 := ce BK441 3 (.string a0_3);have hcz26_4 := ce BK441 4 (.slice A0_4 l0_4.length c0_4);have hfz26_0 := qe BK441.out 0;have hfz26_1 := qe BK441.out 1;have hfz26_2 := qe BK441.out 2;have hfz26_3 := qe BK441.out 3;have hfz26_4 := qe BK441.out 4;go_wp2
    repeat (go_quiet (fail); try go_wp2)
    go_loopg [32] kj2 (fun kq v32 w' => ∃ (x32_2 : Int), v32 = .int .i64 x32_2 ∧ qa (qgb.l0 kq (l0_4.length : Int) x32_2 a0_0 a0_1 a0_2 a0_3 l0_4 a1_0 a1_1 a1_2 a1_3 a1_4 l1_5 = some r) ∧ qa (kq ≤ kj2) ∧ qa (w'.heap[gb441]? = some (.cells #[.bool a0_0, .bool a0_1, .string a0_2, .string a0_3, (.slice A0_4 l0_4.length c0_4)] 58 (0, 0))) ∧ qa (w'.heap[gb442]? = some (.cells #[.int .i64 a1_0, .int .i64 a1_1, .string a1_2, .string a1_3, .string a1_4, (.slice A1_5 l1_5.length c1_5)] 53 (0, 0))) ∧ qa (Below w.heap.size w w'))
    case atStart => exact ⟨(0), zz8, H', ⟨Nat.le_refl _⟩, ⟨zz65⟩, ⟨zz65⟩, ⟨zz101⟩⟩
    case round =>
     clear H';obtain ⟨x32_2, rfl, HA, HK2, BK441, BK442, HB⟩ := hrel
     cases gk with
     | zero => exact absurd HA.out (by simp [qgb.l0])
     | succ k2 =>
      have H := HA.out;clear HA;simp only [qgb.l0] at H;by_cases c27 : x32_2 < (l0_4.length : Int)
      ·rw [if_pos c27] at H;have c27b0 : decide (x32_2 < (l0_4.length : Int)) = true := decide_eq_true c27;clear c27;by_cases c28 : 0 ≤ x32_2
       ·rw [if_pos c28] at H;have c28b0 : decide (0 ≤ x32_2) = true := decide_eq_true c28;clear c28;by_cases c29 : x32_2 < (l0_4.length : Int)
        ·rw [if_pos c29] at H;have c29b0 : decide (x32_2 < (l0_4.length : Int)) = true := decide_eq_true c29;clear c29;replace H := Option.bind_eq_some_iff.mp H;obtain ⟨⟨t444, t445⟩, A300, H⟩ := H;replace H : (if t445 = true then (if (qdc l0_4 x32_2).f2 = true then (if t444.toList = ((qdc l0_4 x32_2).f1).toList then (qgb.l0 k2 (l0_4.length : Int) (wrap64 (x32_2 + 1)) a0_0 a0_1 a0_2 a0_3 l0_4 a1_0 a1_1 a1_2 a1_3 a1_4 l1_5) else (some false)) else (qgb.l0 k2 (l0_4.length : Int) (wrap64 (x32_2 + 1)) a0_0 a0_1 a0_2 a0_3 l0_4 a1_0 a1_1 a1_2 a1_3 a1_4 l1_5)) else (some false)) = some r := H;have A30 := qa.mk A300;clear A300;by_cases c31 : t445 = true
         ·subst c31;(have H1 : (if (qdc l0_4 x32_2).f2 = true then (if t444.toList = ((qdc l0_4 x32_2).f1).toList then (qgb.l0 k2 (l0_4.length : Int) (wrap64 (x32_2 + 1)) a0_0 a0_1 a0_2 a0_3 l0_4 a1_0 a1_1 a1_2 a1_3 a1_4 l1_5) else (some false)) else (qgb.l0 k2 (l0_4.length : Int) (wrap64 (x32_2 + 1)) a0_0 a0_1 a0_2 a0_3 l0_4 a1_0 a1_1 a1_2 a1_3 a1_4 l1_5)) = some r := by rw [if_pos rfl] at H; exact H);clear H;have H := H1;clear H1;obtain ⟨bq32, hbq32⟩ : ∃ b_ : Bool, b_ = ((qdc l0_4 x32_2).f2) := ⟨_, rfl⟩;(replace H : (if bq32 = true then (if t444.toList = ((qdc l0_4 x32_2).f1).toList then (qgb.l0 k2 (l0_4.length : Int) (wrap64 (x32_2 + 1)) a0_0 a0_1 a0_2 a0_3 l0_4 a1_0 a1_1 a1_2 a1_3 a1_4 l1_5) else (some false)) else (qgb.l0 k2 (l0_4.length : Int) (wrap64 (x32_2 + 1)) a0_0 a0_1 a0_2 a0_3 l0_4 a1_0 a1_1 a1_2 a1_3 a1_4 l1_5)) = some r := by rw [← hbq32] at H; exact H);have Nbq32 := qa.mk hbq32;clear hbq32
          (try rw [← Nbq32.out])
          by_cases c33 : bq32 = true
          ·subst c33;(have H1 : (if t444.toList = ((qdc l0_4 x32_2).f1).toList then (qgb.l0 k2 (l0_4.length : Int) (wrap64 (x32_2 + 1)) a0_0 a0_1 a0_2 a0_3 l0_4 a1_0 a1_1 a1_2 a1_3 a1_4 l1_5) else (some false)) = some r := by rw [if_pos rfl] at H; exact H);clear H;have H := H1;clear H1;by_cases c34 : t444.toList = ((qdc l0_4 x32_2).f1).toList
           ·rw [if_pos c34] at H;have c34b0 : (t444.toList == ((qdc l0_4 x32_2).f1).toList) = true := beq_iff_eq.mpr c34;have c34b1 : (t444.toList != ((qdc l0_4 x32_2).f1).toList) = false := bne_eq_false_iff_eq.mpr c34;clear c34;have H' := qa.mk H;clear H;have hnb35 := NB442_441.out;have hnc35 := NB441_442.out;have hcz36_0 := ce BK442 0 (.int .i64 a1_0);have hcz36_1 := ce BK442 1 (.int .i64 a1_1);have hcz36_2 := ce BK442 2 (.string a1_2);have hcz36_3 := ce BK442 3 (.string a1_3);have hcz36_4 := ce BK442 4 (.string a1_4);have hcz36_5 := ce BK442 5 (.slice A1_5 l1_5.length c1_5);have hfz36_0 := qe BK442.out 0;have hfz36_1 := qe BK442.out 1;have hfz36_2 := qe BK442.out 2;have hfz36_3 := qe BK442.out 3;have hfz36_4 := qe BK442.out 4;have hfz36_5 := qe BK442.out 5;have hcz37_0 := ce BK441 0 (.bool a0_0);have hcz37_1 := ce BK441 1 (.bool a0_1);have hcz37_2 := ce BK441 2 (.string a0_2);have hcz37_3 := ce BK441 3 (.string a0_3);have hcz37_4 := ce BK441 4 (.slice A0_4 l0_4.length c0_4);have hfz37_0 := qe BK441.out 0;have hfz37_1 := qe BK441.out 1;have hfz37_2 := qe BK441.out 2;have hfz37_3 := qe BK441.out 3;have hfz37_4 := qe BK441.out 4;have p443 : 0 ≤ (x32_2 : Int) := of_decide_eq_true zz13;have q443 : x32_2 < (l0_4.length : Int) := of_decide_eq_true zz13;obtain ⟨ad443, e443, hx443_0, hx443_1, hx443_2⟩ := at_T59 HR0_4.out x32_2 p443 q443
            (try rw [← Nbq32.out] at hx443_2)
            cases e443;replace hx443_0 := cx HB hx443_0;replace hx443_1 := cx HB hx443_1;replace hx443_2 := cx HB hx443_2;replace p443 := eq_true p443;replace q443 := eq_true q443;go_wp2_with (first | (go_at_call 72; (with_reducible refine (qsc.calls k2 _ _ l1_5 ((qdc l0_4 x32_2).f0) t444 true _ ?side1 ?side2 A30.out).mono ?_); (case side1 => exact zz135); (case side2 => exact HC1_5.out); rintro e w' ⟨rfl, ⟨nd, rfl⟩⟩; (try first | exact ⟨rfl, _, World.drewN_drewN _ _ _⟩ | exact ⟨rfl, _, Eq.trans (World.drewN_drewN _ _ _) (congrArg (World.drewN _) (Nat.add_assoc _ _ _))⟩); have p446 : 0 ≤ (x32_2 : Int) := of_decide_eq_true zz13; have q446 : x32_2 < (l0_4.length : Int) := of_decide_eq_true zz13; obtain ⟨ad446, e446, hx446_0, hx446_1, hx446_2⟩ := at_T59 HR0_4.out x32_2 p446 q446; (try rw [← Nbq32.out] at hx446_2); obtain rfl : ad443 = ad446 := zz0; replace hx446_0 := cx HB hx446_0; replace hx446_1 := cx HB hx446_1; replace hx446_2 := cx HB hx446_2; replace p446 := eq_true p446; replace q446 := eq_true q446; have p447 : 0 ≤ (x32_2 : Int) := of_decide_eq_true zz13; have q447 : x32_2 < (l0_4.length : Int) := of_decide_eq_true zz13; obtain ⟨ad447, e447, hx447_0, hx447_1, hx447_2⟩ := at_T59 HR0_4.out x32_2 p447 q447; (try rw [← Nbq32.out] at hx447_2); obtain rfl : ad443 = ad447 := (by injection e447); replace hx447_0 := cx HB hx447_0; replace hx447_1 := cx HB hx447_1; replace hx447_2 := cx HB hx447_2; replace p447 := eq_true p447; replace q447 := eq_true q447))
            repeat (go_quiet (first | (go_at_call 72; (with_reducible refine (qsc.calls k2 _ _ l1_5 ((qdc l0_4 x32_2).f0) t444 true _ ?side1 ?side2 A30.out).mono ?_); (case side1 => exact zz135); (case side2 => exact HC1_5.out); rintro e w' ⟨rfl, ⟨nd, rfl⟩⟩; (try first | exact ⟨rfl, _, World.drewN_drewN _ _ _⟩ | exact ⟨rfl, _, Eq.trans (World.drewN_drewN _ _ _) (congrArg (World.drewN _) (Nat.add_assoc _ _ _))⟩); have p446 : 0 ≤ (x32_2 : Int) := of_decide_eq_true zz13; have q446 : x32_2 < (l0_4.length : Int) := of_decide_eq_true zz13; obtain ⟨ad446, e446, hx446_0, hx446_1, hx446_2⟩ := at_T59 HR0_4.out x32_2 p446 q446; (try rw [← Nbq32.out] at hx446_2); obtain rfl : ad443 = ad446 := zz0; replace hx446_0 := cx HB hx446_0; replace hx446_1 := cx HB hx446_1; replace hx446_2 := cx HB hx446_2; replace p446 := eq_true p446; replace q446 := eq_true q446; have p447 : 0 ≤ (x32_2 : Int) := of_decide_eq_true zz13; have q447 : x32_2 < (l0_4.length : Int) := of_decide_eq_true zz13; obtain ⟨ad447, e447, hx447_0, hx447_1, hx447_2⟩ := at_T59 HR0_4.out x32_2 p447 q447; (try rw [← Nbq32.out] at hx447_2); obtain rfl : ad443 = ad447 := (by injection e447); replace hx447_0 := cx HB hx447_0; replace hx447_1 := cx HB hx447_1; replace hx447_2 := cx HB hx447_2; replace p447 := eq_true p447; replace q447 := eq_true q447)); try go_wp2_with (first | (go_at_call 72; (with_reducible refine (qsc.calls k2 _ _ l1_5 ((qdc l0_4 x32_2).f0) t444 true _ ?side1 ?side2 A30.out).mono ?_); (case side1 => exact zz135); (case side2 => exact HC1_5.out); rintro e w' ⟨rfl, ⟨nd, rfl⟩⟩; (try first | exact ⟨rfl, _, World.drewN_drewN _ _ _⟩ | exact ⟨rfl, _, Eq.trans (World.drewN_drewN _ _ _) (congrArg (World.drewN _) (Nat.add_assoc _ _ _))⟩); have p446 : 0 ≤ (x32_2 : Int) := of_decide_eq_true zz13; have q446 : x32_2 < (l0_4.length : Int) := of_decide_eq_true zz13; obtain ⟨ad446, e446, hx446_0, hx446_1, hx446_2⟩ := at_T59 HR0_4.out x32_2 p446 q446; (try rw [← Nbq32.out] at hx446_2); obtain rfl : ad443 = ad446 := zz0; replace hx446_0 := cx HB hx446_0; replace hx446_1 := cx HB hx446_1; replace hx446_2 := cx HB hx446_2; replace p446 := eq_true p446; replace q446 := eq_true q446; have p447 : 0 ≤ (x32_2 : Int) := of_decide_eq_true zz13; have q447 : x32_2 < (l0_4.length : Int) := of_decide_eq_true zz13; obtain ⟨ad447, e447, hx447_0, hx447_1, hx447_2⟩ := at_T59 HR0_4.out x32_2 p447 q447; (try rw [← Nbq32.out] at hx447_2); obtain rfl : ad443 = ad447 := (by injection e447); replace hx447_0 := cx HB hx447_0; replace hx447_1 := cx HB hx447_1; replace hx447_2 := cx HB hx447_2; replace p447 := eq_true p447; replace q447 := eq_true q447)))
            go_roundg k2
            case measure => have := HJ2.out; have := HK2.out; omega
            case rel => (try rw [← Nbq32.out]); exact ⟨(wrap64 (x32_2 + 1)), zz8, H', ⟨zz5⟩, ⟨zz65⟩, ⟨zz65⟩, ⟨zz101⟩⟩
           ·rw [if_neg c34] at H;have c34b0 : (t444.toList == ((qdc l0_4 x32_2).f1).toList) = false := beq_eq_false_iff_ne.mpr c34;have c34b1 : (t444.toList != ((qdc l0_4 x32_2).f1).toList) = true := bne_iff_ne.mpr c34;obtain rfl := Option.some.inj H;have hnb38 := NB442_441.out;have hnc38 := NB441_442.out;have hcz39_0 := ce BK442 0 (.int .i64 a1_0);have hcz39_1 := ce BK442 1 (.int .i64 a1_1);have hcz39_2 := ce BK442 2 (.string a1_2);have hcz39_3 := ce BK442 3 (.string a1_3);have hcz39_4 := ce BK442 4 (.string a1_4);have hcz39_5 := ce BK442 5 (.slice A1_5 l1_5.length c1_5);have hfz39_0 := qe BK442.out 0;have hfz39_1 := qe BK442.out 1;have hfz39_2 := qe BK442.out 2;have hfz39_3 := qe BK442.out 3;have hfz39_4 := qe BK442.out 4;have hfz39_5 := qe BK442.out 5;have hcz40_0 := ce BK441 0 (.bool a0_0);have hcz40_1 := ce BK441 1 (.bool a0_1);have hcz40_2 := ce BK441 2 (.string a0_2);have hcz40_3 := ce BK441 3 (.string a0_3);have hcz40_4 := ce BK441 4 (.slice A0_4 l0_4.length c0_4);have hfz40_0 := qe BK441.out 0;have hfz40_1 := qe BK441.out 1;have hfz40_2 := qe BK441.out 2;have hfz40_3 := qe BK441.out 3;have hfz40_4 := qe BK441.out 4;have p443 : 0 ≤ (x32_2 : Int) := of_decide_eq_true zz13;have q443 : x32_2 < (l0_4.length : Int) := of_decide_eq_true zz13;obtain ⟨ad443, e443, hx443_0, hx443_1, hx443_2⟩ := at_T59 HR0_4.out x32_2 p443 q443
            (try rw [← Nbq32.out] at hx443_2)
            cases e443;replace hx443_0 := cx HB hx443_0;replace hx443_1 := cx HB hx443_1;replace hx443_2 := cx HB hx443_2;replace p443 := eq_true p443;replace q443 := eq_true q443;go_wp2_with (first | (go_at_call 72; (with_reducible refine (qsc.calls k2 _ _ l1_5 ((qdc l0_4 x32_2).f0) t444 true _ ?side1 ?side2 A30.out).mono ?_); (case side1 => exact zz135); (case side2 => exact HC1_5.out); rintro e w' ⟨rfl, ⟨nd, rfl⟩⟩; (try first | exact ⟨rfl, _, World.drewN_drewN _ _ _⟩ | exact ⟨rfl, _, Eq.trans (World.drewN_drewN _ _ _) (congrArg (World.drewN _) (Nat.add_assoc _ _ _))⟩); have p446 : 0 ≤ (x32_2 : Int) := of_decide_eq_true zz13; have q446 : x32_2 < (l0_4.length : Int) := of_decide_eq_true zz13; obtain ⟨ad446, e446, hx446_0, hx446_1, hx446_2⟩ := at_T59 HR0_4.out x32_2 p446 q446; (try rw [← Nbq32.out] at hx446_2); obtain rfl : ad443 = ad446 := zz0; replace hx446_0 := cx HB hx446_0; replace hx446_1 := cx HB hx446_1; replace hx446_2 := cx HB hx446_2; replace p446 := eq_true p446; replace q446 := eq_true q446; have p447 : 0 ≤ (x32_2 : Int) := of_decide_eq_true zz13; have q447 : x32_2 < (l0_4.length : Int) := of_decide_eq_true zz13; obtain ⟨ad447, e447, hx447_0, hx447_1, hx447_2⟩ := at_T59 HR0_4.out x32_2 p447 q447; (try rw [← Nbq32.out] at hx447_2); obtain rfl : ad443 = ad447 := (by injection e447); replace hx447_0 := cx HB hx447_0; replace hx447_1 := cx HB hx447_1; replace hx447_2 := cx HB hx447_2; replace p447 := eq_true p447; replace q447 := eq_true q447))
            repeat (go_quiet (first | (go_at_call 72; (with_reducible refine (qsc.calls k2 _ _ l1_5 ((qdc l0_4 x32_2).f0) t444 true _ ?side1 ?side2 A30.out).mono ?_); (case side1 => exact zz135); (case side2 => exact HC1_5.out); rintro e w' ⟨rfl, ⟨nd, rfl⟩⟩; (try first | exact ⟨rfl, _, World.drewN_drewN _ _ _⟩ | exact ⟨rfl, _, Eq.trans (World.drewN_drewN _ _ _) (congrArg (World.drewN _) (Nat.add_assoc _ _ _))⟩); have p446 : 0 ≤ (x32_2 : Int) := of_decide_eq_true zz13; have q446 : x32_2 < (l0_4.length : Int) := of_decide_eq_true zz13; obtain ⟨ad446, e446, hx446_0, hx446_1, hx446_2⟩ := at_T59 HR0_4.out x32_2 p446 q446; (try rw [← Nbq32.out] at hx446_2); obtain rfl : ad443 = ad446 := zz0; replace hx446_0 := cx HB hx446_0; replace hx446_1 := cx HB hx446_1; replace hx446_2 := cx HB hx446_2; replace p446 := eq_true p446; replace q446 := eq_true q446; have p447 : 0 ≤ (x32_2 : Int) := of_decide_eq_true zz13; have q447 : x32_2 < (l0_4.length : Int) := of_decide_eq_true zz13; obtain ⟨ad447, e447, hx447_0, hx447_1, hx447_2⟩ := at_T59 HR0_4.out x32_2 p447 q447; (try rw [← Nbq32.out] at hx447_2); obtain rfl : ad443 = ad447 := (by injection e447); replace hx447_0 := cx HB hx447_0; replace hx447_1 := cx HB hx447_1; replace hx447_2 := cx HB hx447_2; replace p447 := eq_true p447; replace q447 := eq_true q447)); try go_wp2_with (first | (go_at_call 72; (with_reducible refine (qsc.calls k2 _ _ l1_5 ((qdc l0_4 x32_2).f0) t444 true _ ?side1 ?side2 A30.out).mono ?_); (case side1 => exact zz135); (case side2 => exact HC1_5.out); rintro e w' ⟨rfl, ⟨nd, rfl⟩⟩; (try first | exact ⟨rfl, _, World.drewN_drewN _ _ _⟩ | exact ⟨rfl, _, Eq.trans (World.drewN_drewN _ _ _) (congrArg (World.drewN _) (Nat.add_assoc _ _ _))⟩); have p446 : 0 ≤ (x32_2 : Int) := of_decide_eq_true zz13; have q446 : x32_2 < (l0_4.length : Int) := of_decide_eq_true zz13; obtain ⟨ad446, e446, hx446_0, hx446_1, hx446_2⟩ := at_T59 HR0_4.out x32_2 p446 q446; (try rw [← Nbq32.out] at hx446_2); obtain rfl : ad443 = ad446 := zz0; replace hx446_0 := cx HB hx446_0; replace hx446_1 := cx HB hx446_1; replace hx446_2 := cx HB hx446_2; replace p446 := eq_true p446; replace q446 := eq_true q446; have p447 : 0 ≤ (x32_2 : Int) := of_decide_eq_true zz13; have q447 : x32_2 < (l0_4.length : Int) := of_decide_eq_true zz13; obtain ⟨ad447, e447, hx447_0, hx447_1, hx447_2⟩ := at_T59 HR0_4.out x32_2 p447 q447; (try rw [← Nbq32.out] at hx447_2); obtain rfl : ad443 = ad447 := (by injection e447); replace hx447_0 := cx HB hx447_0; replace hx447_1 := cx HB hx447_1; replace hx447_2 := cx HB hx447_2; replace p447 := eq_true p447; replace q447 := eq_true q447)))
            go_ret;exact ⟨zz98, zz101⟩
          ·replace c33 := Bool.eq_false_iff.mpr c33;subst c33;(have H1 : (qgb.l0 k2 (l0_4.length : Int) (wrap64 (x32_2 + 1)) a0_0 a0_1 a0_2 a0_3 l0_4 a1_0 a1_1 a1_2 a1_3 a1_4 l1_5) = some r := by rw [if_neg (show ¬ (false = true) by decide)] at H; exact H);clear H;have H := H1;clear H1;have H' := qa.mk H;clear H;have hnb41 := NB442_441.out;have hnc41 := NB441_442.out;have hcz42_0 := ce BK442 0 (.int .i64 a1_0);have hcz42_1 := ce BK442 1 (.int .i64 a1_1);have hcz42_2 := ce BK442 2 (.string a1_2);have hcz42_3 := ce BK442 3 (.string a1_3);have hcz42_4 := ce BK442 4 (.string a1_4);have hcz42_5 := ce BK442 5 (.slice A1_5 l1_5.length c1_5);have hfz42_0 := qe BK442.out 0;have hfz42_1 := qe BK442.out 1;have hfz42_2 := qe BK442.out 2;have hfz42_3 := qe BK442.out 3;have hfz42_4 := qe BK442.out 4;have hfz42_5 := qe BK442.out 5;have hcz43_0 := ce BK441 0 (.bool a0_0);have hcz43_1 := ce BK441 1 (.bool a0_1);have hcz43_2 := ce BK441 2 (.string a0_2);have hcz43_3 := ce BK441 3 (.string a0_3);have hcz43_4 := ce BK441 4 (.slice A0_4 l0_4.length c0_4);have hfz43_0 := qe BK441.out 0;have hfz43_1 := qe BK441.out 1;have hfz43_2 := qe BK441.out 2;have hfz43_3 := qe BK441.out 3;have hfz43_4 := qe BK441.out 4;have p443 : 0 ≤ (x32_2 : Int) := of_decide_eq_true zz13;have q443 : x32_2 < (l0_4.length : Int) := of_decide_eq_true zz13;obtain ⟨ad443, e443, hx443_0, hx443_1, hx443_2⟩ := at_T59 HR0_4.out x32_2 p443 q443
           (try rw [← Nbq32.out] at hx443_2)
           cases e443;replace hx443_0 := cx HB hx443_0;replace hx443_1 := cx HB hx443_1;replace hx443_2 := cx HB hx443_2;replace p443 := eq_true p443;replace q443 := eq_true q443;go_wp2_with (first | (go_at_call 72; (with_reducible refine (qsc.calls k2 _ _ l1_5 ((qdc l0_4 x32_2).f0) t444 true _ ?side1 ?side2 A30.out).mono ?_); (case side1 => exact zz135); (case side2 => exact HC1_5.out); rintro e w' ⟨rfl, ⟨nd, rfl⟩⟩; (try first | exact ⟨rfl, _, World.drewN_drewN _ _ _⟩ | exact ⟨rfl, _, Eq.trans (World.drewN_drewN _ _ _) (congrArg (World.drewN _) (Nat.add_assoc _ _ _))⟩); have p446 : 0 ≤ (x32_2 : Int) := of_decide_eq_true zz13; have q446 : x32_2 < (l0_4.length : Int) := of_decide_eq_true zz13; obtain ⟨ad446, e446, hx446_0, hx446_1, hx446_2⟩ := at_T59 HR0_4.out x32_2 p446 q446; (try rw [← Nbq32.out] at hx446_2); obtain rfl : ad443 = ad446 := zz0; replace hx446_0 := cx HB hx446_0; replace hx446_1 := cx HB hx446_1; replace hx446_2 := cx HB hx446_2; replace p446 := eq_true p446; replace q446 := eq_true q446))
           repeat (go_quiet (first | (go_at_call 72; (with_reducible refine (qsc.calls k2 _ _ l1_5 ((qdc l0_4 x32_2).f0) t444 true _ ?side1 ?side2 A30.out).mono ?_); (case side1 => exact zz135); (case side2 => exact HC1_5.out); rintro e w' ⟨rfl, ⟨nd, rfl⟩⟩; (try first | exact ⟨rfl, _, World.drewN_drewN _ _ _⟩ | exact ⟨rfl, _, Eq.trans (World.drewN_drewN _ _ _) (congrArg (World.drewN _) (Nat.add_assoc _ _ _))⟩); have p446 : 0 ≤ (x32_2 : Int) := of_decide_eq_true zz13; have q446 : x32_2 < (l0_4.length : Int) := of_decide_eq_true zz13; obtain ⟨ad446, e446, hx446_0, hx446_1, hx446_2⟩ := at_T59 HR0_4.out x32_2 p446 q446; (try rw [← Nbq32.out] at hx446_2); obtain rfl : ad443 = ad446 := zz0; replace hx446_0 := cx HB hx446_0; replace hx446_1 := cx HB hx446_1; replace hx446_2 := cx HB hx446_2; replace p446 := eq_true p446; replace q446 := eq_true q446)); try go_wp2_with (first | (go_at_call 72; (with_reducible refine (qsc.calls k2 _ _ l1_5 ((qdc l0_4 x32_2).f0) t444 true _ ?side1 ?side2 A30.out).mono ?_); (case side1 => exact zz135); (case side2 => exact HC1_5.out); rintro e w' ⟨rfl, ⟨nd, rfl⟩⟩; (try first | exact ⟨rfl, _, World.drewN_drewN _ _ _⟩ | exact ⟨rfl, _, Eq.trans (World.drewN_drewN _ _ _) (congrArg (World.drewN _) (Nat.add_assoc _ _ _))⟩); have p446 : 0 ≤ (x32_2 : Int) := of_decide_eq_true zz13; have q446 : x32_2 < (l0_4.length : Int) := of_decide_eq_true zz13; obtain ⟨ad446, e446, hx446_0, hx446_1, hx446_2⟩ := at_T59 HR0_4.out x32_2 p446 q446; (try rw [← Nbq32.out] at hx446_2); obtain rfl : ad443 = ad446 := zz0; replace hx446_0 := cx HB hx446_0; replace hx446_1 := cx HB hx446_1; replace hx446_2 := cx HB hx446_2; replace p446 := eq_true p446; replace q446 := eq_true q446)))
           go_roundg k2
           case measure => have := HJ2.out; have := HK2.out; omega
           case rel => (try rw [← Nbq32.out]); exact ⟨(wrap64 (x32_2 + 1)), zz8, H', ⟨zz5⟩, ⟨zz65⟩, ⟨zz65⟩, ⟨zz101⟩⟩
         ·replace c31 := Bool.eq_false_iff.mpr c31;subst c31;(have H1 : (some false) = some r := by rw [if_neg (show ¬ (false = true) by decide)] at H; exact H);clear H;have H := H1;clear H1;obtain rfl := Option.some.inj H;have hnb44 := NB442_441.out;have hnc44 := NB441_442.out;have hcz45_0 := ce BK442 0 (.int .i64 a1_0);have hcz45_1 := ce BK442 1 (.int .i64 a1_1);have hcz45_2 := ce BK442 2 (.string a1_2);have hcz45_3 := ce BK442 3 (.string a1_3);have hcz45_4 := ce BK442 4 (.string a1_4);have hcz45_5 := ce BK442 5 (.slice A1_5 l1_5.length c1_5);have hfz45_0 := qe BK442.out 0;have hfz45_1 := qe BK442.out 1;have hfz45_2 := qe BK442.out 2;have hfz45_3 := qe BK442.out 3;have hfz45_4 := qe BK442.out 4;have hfz45_5 := qe BK442.out 5;have hcz46_0 := ce BK441 0 (.bool a0_0);have hcz46_1 := ce BK441 1 (.bool a0_1);have hcz46_2 := ce BK441 2 (.string a0_2);have hcz46_3 := ce BK441 3 (.string a0_3);have hcz46_4 := ce BK441 4 (.slice A0_4 l0_4.length c0_4);have hfz46_0 := qe BK441.out 0;have hfz46_1 := qe BK441.out 1;have hfz46_2 := qe BK441.out 2;have hfz46_3 := qe BK441.out 3;have hfz46_4 := qe BK441.out 4;have p443 : 0 ≤ (x32_2 : Int) := of_decide_eq_true zz13;have q443 : x32_2 < (l0_4.length : Int) := of_decide_eq_true zz13;obtain ⟨ad443, e443, hx443_0, hx443_1, hx443_2⟩ := at_T59 HR0_4.out x32_2 p443 q443;cases e443;replace hx443_0 := cx HB hx443_0;replace hx443_1 := cx HB hx443_1;replace hx443_2 := cx HB hx443_2;replace p443 := eq_true p443;replace q443 := eq_true q443;go_wp2_with (first | (go_at_call 72; (with_reducible refine (qsc.calls k2 _ _ l1_5 ((qdc l0_4 x32_2).f0) t444 false _ ?side1 ?side2 A30.out).mono ?_); (case side1 => exact zz135); (case side2 => exact HC1_5.out); rintro e w' ⟨rfl, ⟨nd, rfl⟩⟩; (try first | exact ⟨rfl, _, World.drewN_drewN _ _ _⟩ | exact ⟨rfl, _, Eq.trans (World.drewN_drewN _ _ _) (congrArg (World.drewN _) (Nat.add_assoc _ _ _))⟩)))
          repeat (go_quiet (first | (go_at_call 72; (with_reducible refine (qsc.calls k2 _ _ l1_5 ((qdc l0_4 x32_2).f0) t444 false _ ?side1 ?side2 A30.out).mono ?_); (case side1 => exact zz135); (case side2 => exact HC1_5.out); rintro e w' ⟨rfl, ⟨nd, rfl⟩⟩; (try first | exact ⟨rfl, _, World.drewN_drewN _ _ _⟩ | exact ⟨rfl, _, Eq.trans (World.drewN_drewN _ _ _) (congrArg (World.drewN _) (Nat.add_assoc _ _ _))⟩))); try go_wp2_with (first | (go_at_call 72; (with_reducible refine (qsc.calls k2 _ _ l1_5 ((qdc l0_4 x32_2).f0) t444 false _ ?side1 ?side2 A30.out).mono ?_); (case side1 => exact zz135); (case side2 => exact HC1_5.out); rintro e w' ⟨rfl, ⟨nd, rfl⟩⟩; (try first | exact ⟨rfl, _, World.drewN_drewN _ _ _⟩ | exact ⟨rfl, _, Eq.trans (World.drewN_drewN _ _ _) (congrArg (World.drewN _) (Nat.add_assoc _ _ _))⟩))))
          go_ret;exact ⟨zz98, zz101⟩
        ·rw [if_neg c29] at H;exact absurd H (by simp)
       ·rw [if_neg c28] at H;exact absurd H (by simp)
      ·rw [if_neg c27] at H;have c27b0 : decide (x32_2 < (l0_4.length : Int)) = false := decide_eq_false c27;clear c27;obtain rfl := Option.some.inj H;go_wp2
       repeat (go_quiet (fail); try go_wp2)
       go_ret;exact ⟨zz98, zz101⟩
end Go.Proofs.YtjbobecnlpiejaaGreatDoor.Q
namespace Go.Proofs.YtjbobecnlpiejaaGreatDoor.Q.P
open Go.Proofs.YtjbobecnlpiejaaGreatDoorZ
open Go.RowKit Go.Proofs.YtjbobecnlpiejaaGreatDoorW.PrintWords Go.Proofs.YtjbobecnlpiejaaGreatDoorW.PrintLast Go.Proofs.YtjbobecnlpiejaaGreatDoorW.PrintMore
theorem find_both (x : List S55) (s : ByteArray) (hx : x.length ≤ 1000) (d : Nat) : ∀ (k i : Nat) (x6 : Int), i + d = x.length → d < k → ∃ r v, qad.l0 k x s x6 x (x.length : Int) (i : Int) = some r ∧ Ev (fun k => qrc.l0 k x s (x.length : Int) (i : Int)) v ∧ (r.2 = true → v = r.1 ∧ 0 ≤ v ∧ v < (x.length : Int)) ∧ (r.2 = false → v = -1) := by
 induction d with
 | zero =>
  intro k i x6 hi hk;obtain ⟨k, rfl⟩ : ∃ m, k = m + 1 := ⟨k - 1, by omega⟩;refine ⟨(x6, false), -1, ?_, Ev.step (fun k => ?_) (Ev.now _), nofun, fun _ => rfl⟩
  ·rw [qad.l0, if_neg (by omega)]
  ·rw [qrc.l0, if_neg (by omega)]
 | succ d ih =>
  intro k i x6 hi hk;obtain ⟨k, rfl⟩ : ∃ m, k = m + 1 := ⟨k - 1, by omega⟩;(have hil : i < x.length := by omega);have i0 : (0 : Int) ≤ (i : Int) := Int.natCast_nonneg i;have i1 : (i : Int) < (x.length : Int) := Int.ofNat_lt.2 hil;have hw : wrap64 ((i : Int) + 1) = ((i + 1 : Nat) : Int) := w64 (by omega) (by omega);by_cases h : (qab x (i : Int)).f0.toList = s.toList
  ·refine ⟨((i : Int), true), (i : Int), ?_, Ev.step (fun k => ?_) (Ev.now _), fun _ => ⟨rfl, i0, i1⟩, nofun⟩
   ·rw [qad.l0, if_pos i1, if_pos i0, if_pos i1, if_pos h]
   ·rw [qrc.l0, if_pos i1, if_pos i0, if_pos i1, if_pos h]
  ·have ref : ∀ {v : Int}, Ev (fun k => qrc.l0 k x s (x.length : Int) ((i + 1 : Nat) : Int)) v → Ev (fun k => qrc.l0 k x s (x.length : Int) (i : Int)) v := fun q => Ev.step (fun k => by rw [qrc.l0, if_pos i1, if_pos i0, if_pos i1, if_neg h, hw]) q;by_cases c1 : x6 < (x.length : Int)
   ·obtain ⟨r, v, a1, a2, a3⟩ := ih k (i + 1) x6 (by omega) (by omega);exact ⟨r, v, by rw [qad.l0, if_pos i1, if_pos i0, if_pos i1, if_neg h, if_pos c1, hw]; exact a1, ref a2, a3⟩
   ·by_cases c2 : Op.bytesLess (qab x (i : Int)).f0.toList s.toList = true
    ·obtain ⟨r, v, a1, a2, a3⟩ := ih k (i + 1) x6 (by omega) (by omega);exact ⟨r, v, by rw [qad.l0, if_pos i1, if_pos i0, if_pos i1, if_neg h, if_neg c1, if_pos c2, hw]; exact a1, ref a2, a3⟩
    ·obtain ⟨r, v, a1, a2, a3⟩ := ih k (i + 1) (i : Int) (by omega) (by omega);exact ⟨r, v, by rw [qad.l0, if_pos i1, if_pos i0, if_pos i1, if_neg h, if_neg c1, if_neg c2, hw]; exact a1, ref a2, a3⟩
theorem get_both (x : List S55) (s : ByteArray) (hx : x.length ≤ 1000) : ∃ v, attrs_Get.f (x.length + 2) x s = some v ∧ Ev (fun k => qsc.f k x s) v := by
 obtain ⟨r, v, h1, ⟨K, h2⟩, h3, h4⟩ := find_both x s hx x.length (x.length + 2) 0 (x.length : Int) (by omega) (by omega);have e1 : qad.f (x.length + 2) x s = some r := h1;have e2 : ∀ k, K ≤ k → qrc.f k x s = some v := fun k hk => h2 k hk;cases hb : r.2
 ·have hv := h4 hb;refine ⟨((⟨#[]⟩ : ByteArray), false), ?_, ⟨K, fun k hk => ?_⟩⟩
  ·rw [attrs_Get.f, e1, Option.bind_some, hb, if_neg (by decide)]
  ·show qsc.f k x s = _;rw [qsc.f, e2 k hk, Option.bind_some, if_pos (by omega)]
 ·obtain ⟨hv, h5, h6⟩ := h3 hb;refine ⟨((qab x v).f1, true), ?_, ⟨K, fun k hk => ?_⟩⟩
  ·rw [attrs_Get.f, e1, Option.bind_some, hb, if_pos rfl, ← hv, if_pos h5, if_pos h6]
  ·show qsc.f k x s = _;rw [qsc.f, e2 k hk, Option.bind_some, if_neg (by omega), if_pos h5, if_pos h6]
theorem one_l0 (cs : List S50) (x : List S55) (hx : x.length ≤ 1000) (hc : cs.length ≤ 1000) (b0 b1 : Bool) (s2 s3 : ByteArray) (n0 n1 : Int) (t2 t3 t4 : ByteArray) (d : Nat) : ∀ i : Nat, i + d = cs.length → Ev (fun k => qgb.l0 k (cs.length : Int) (i : Int) b0 b1 s2 s3 (cs.map toC) n0 n1 t2 t3 t4 x) (!((cs.drop i).any (badB x))) := by
 induction d with
 | zero =>
  intro i hi;rw [List.drop_eq_nil_of_le (by omega)];refine Ev.step (fun k => ?_) (Ev.now _);rw [qgb.l0, if_neg (by omega)];rfl
 | succ d ih =>
  intro i hi;(have hil : i < cs.length := by omega);have i0 : (0 : Int) ≤ (i : Int) := Int.natCast_nonneg i;have i1 : (i : Int) < (cs.length : Int) := Int.ofNat_lt.2 hil;(have i2 : (i : Int) < ((cs.map toC).length : Int) := by rw [List.length_map]; exact i1);have hw : wrap64 ((i : Int) + 1) = ((i + 1 : Nat) : Int) := w64 (by omega) (by omega);obtain ⟨K, hK⟩ := ih (i + 1) (by omega);obtain ⟨v, hv, K2, hK2⟩ := get_both x cs[i].f0 hx
  have hbad : badB x cs[i] = (!v.2 || (cs[i].f2 && (v.1.toList != cs[i].f1.toList))) := by
   unfold badB qjc.bad;rw [hv];rfl
  rw [List.drop_eq_getElem_cons hil, List.any_cons, hbad];refine ⟨K + K2 + 1, fun k hk => ?_⟩;obtain ⟨k, rfl⟩ : ∃ m, k = m + 1 := ⟨k - 1, by omega⟩;show qgb.l0 (k + 1) _ _ _ _ _ _ _ _ _ _ _ _ _ = _;have hn := hK k (by omega);rw [qgb.l0, if_pos i1, if_pos i0, if_pos i2, rd_mapC cs i hil, show qsc.f k x (toC cs[i]).f0 = some v from hK2 k (by omega), Option.bind_some];obtain ⟨v1, v2⟩ := v;cases v2
  ·rw [if_neg (show ¬ (v1, false).2 = true from Bool.false_ne_true)]; rfl
  rw [if_pos rfl];show (if cs[i].f2 = true then (if v1.toList = cs[i].f1.toList then _ else _) else _) = _;rw [hw];cases cs[i].f2
  ·rw [if_neg (by decide)];simpa using hn
  ·rw [if_pos rfl];by_cases h : v1.toList = cs[i].f1.toList
   ·rw [if_pos h];simpa [h] using hn
   ·rw [if_neg h];have : (v1.toList != cs[i].f1.toList) = true := bne_iff_ne.2 h;simp [this]
theorem one_spec (p : S48) (x : S53) (hx : x.f5.length ≤ 1000) (hc : p.f4.length ≤ 1000) : Ev (fun k => qgb.f k (toP p).f0 (toP p).f1 (toP p).f2 (toP p).f3 (toP p).f4 x.f0 x.f1 x.f2 x.f3 x.f4 x.f5) (hasB p x) := by
 obtain ⟨p0, p1, p2, p3, p4⟩ := p;obtain ⟨K, hK⟩ := one_l0 p4 x.f5 hx hc p0 p1 p2 p3 x.f0 x.f1 x.f2 x.f3 x.f4 p4.length 0 (by omega)
 have j0 : ∀ k b, K ≤ k → qgb.j0 (k + 1) b p0 p1 p2 p3 (p4.map toC) x.f0 x.f1 x.f2 x.f3 x.f4 x.f5 = some (!b && !(p4.any (badB x.f5))) := fun k b hk => by
  cases b
  ·rw [qgb.j0, if_neg (by decide), List.length_map];exact hK k hk
  ·rw [qgb.j0, if_pos rfl];rfl
 refine ⟨K + 1, fun k hk => ?_⟩;obtain ⟨k, rfl⟩ : ∃ m, k = m + 1 := ⟨k - 1, by omega⟩;show qgb.f (k + 1) p0 p1 p2 p3 (p4.map toC) x.f0 x.f1 x.f2 x.f3 x.f4 x.f5 = some _;unfold qgb.f hasB;dsimp only;have e3 : (p3.toList != x.f3.toList) = (x.f3.toList != p3.toList) := bne_comm;rw [e3];by_cases h1 : p2.toList = []
 ·rw [if_pos h1, h1];cases p1
  ·rw [if_neg (by decide), j0 k _ (by omega)]; rfl
  ·rw [if_pos rfl, j0 k _ (by omega)]; rfl
 ·have h1b : (p2.toList != []) = true := bne_iff_ne.2 h1;rw [if_neg h1, h1b, Bool.true_and];by_cases h2 : x.f2.toList = p2.toList
  ·have h2b : (p2.toList != x.f2.toList) = false := bne_eq_false_iff_eq.2 h2.symm;rw [if_pos h2, h2b, Bool.false_or];cases p1
   ·rw [if_neg (by decide), j0 k _ (by omega)]; rfl
   ·rw [if_pos rfl, j0 k _ (by omega)]; rfl
  ·have h2b : (p2.toList != x.f2.toList) = true := bne_iff_ne.2 (Ne.symm h2);rw [if_neg h2, h2b, j0 k _ (by omega)];rfl
end Go.Proofs.YtjbobecnlpiejaaGreatDoor.Q.P
namespace Go.Proofs.YtjbobecnlpiejaaGreatDoor.Q
open Go.Proofs.YtjbobecnlpiejaaGreatDoorZ
open Go.RowKit Go.Proofs.YtjbobecnlpiejaaGreatDoorW.PrintWords Go.Proofs.YtjbobecnlpiejaaGreatDoorW.PrintLast Go.Proofs.YtjbobecnlpiejaaGreatDoorW.PrintMore
attribute [local go_sem] qac qbc qhc qgc
def qlc.l0 : Nat → List (S53) → Int → Int → Option (Bool)
 | 0, _, _, _ => none
 | k + 1, x0, x2, x7 => if x7 > 0 then (if x7 = x2 then (some true) else (if 0 ≤ (wrap64 (x7 - 1)) then (if (wrap64 (x7 - 1)) < (x0.length : Int) then (qlc.l0 k x0 x2 ((qf x0 (wrap64 (x7 - 1))).f1)) else (none)) else (none))) else (some false)
def qlc.f (k : Nat) (l0 : List (S53)) (a1 : Int) (a2 : Int) : Option (Bool) := qlc.l0 k l0 a2 a1
set_option maxHeartbeats 8000000 in
set_option maxRecDepth 100000 in
theorem qlc.calls (k : Nat) (A0 : Option Addr) (c0 : Nat) (l0 : List (S53)) (a1 : Int) (a2 : Int) (r : Bool) (w : World) (hr0 : Kd.C k53 w A0 l0.length l0) (hc0 : l0.length ≤ c0) (h : qlc.f k l0 a1 a2 = some r) :
  Calls Tryz.prog 52 #[.slice A0 l0.length c0, .int .i64 a1, .int .i64 a2] w fun e w' => e = .returned (.bool r) ∧ Drawn0 w w' := by
 have HR0 := qa.mk hr0;clear hr0 hc0;have H : (qlc.l0 k l0 a2 a1) = some r := h;clear h;have H' := qa.mk H;clear H;(go_enter Tryz.func52, Tryz.ntmps52);go_wp2
 go_loopg [7] k (fun kq v7 w' => ∃ (x7_1 : Int), v7 = .int .i64 x7_1 ∧ qa (qlc.l0 kq l0 a2 x7_1 = some r) ∧ qa (kq ≤ k) ∧ Drawn0 w w')
 case atStart => exact ⟨(a1), zz8, H', ⟨Nat.le_refl _⟩, zz15⟩
 case round =>
  clear H';(try clear p2);obtain ⟨x7_1, rfl, HA, HK1, ⟨m1, rfl⟩⟩ := hrel
  cases gk with
  | zero => exact absurd HA.out (by simp [qlc.l0])
  | succ k1 =>
   have H := HA.out;clear HA;simp only [qlc.l0] at H;by_cases c4 : x7_1 > 0
   ·rw [if_pos c4] at H;have c4b0 : decide (0 < x7_1) = true := decide_eq_true c4;clear c4;by_cases c5 : x7_1 = a2
    ·rw [if_pos c5] at H;have c5b0 : (x7_1 == a2) = true := beq_iff_eq.mpr c5;have c5b1 : (x7_1 != a2) = false := bne_eq_false_iff_eq.mpr c5;clear c5;obtain rfl := Option.some.inj H;go_wp2;go_ret;exact ⟨zz8, zz15⟩
    ·rw [if_neg c5] at H;have c5b0 : (x7_1 == a2) = false := beq_eq_false_iff_ne.mpr c5;have c5b1 : (x7_1 != a2) = true := bne_iff_ne.mpr c5;obtain ⟨ji6, hji6⟩ : ∃ j_ : Int, (wrap64 (x7_1 - 1)) = j_ := ⟨_, rfl⟩;(replace H : (if 0 ≤ (ji6) then (if (ji6) < (l0.length : Int) then (qlc.l0 k1 l0 a2 ((qf l0 (ji6)).f1)) else (none)) else (none)) = some r := by first | (rw [hji6] at H; exact H) | (simp only [hji6] at H ⊢; exact H));have hji6w : (IntKind.i64.wrap (x7_1 - 1)) = ji6 := (i64_w _).trans hji6;by_cases c7 : 0 ≤ (ji6)
     ·rw [if_pos c7] at H;have c7b0 : decide (0 ≤ (ji6)) = true := decide_eq_true c7;clear c7;by_cases c8 : (ji6) < (l0.length : Int)
      ·rw [if_pos c8] at H;have c8b0 : decide ((ji6) < (l0.length : Int)) = true := decide_eq_true c8;clear c8;have H' := qa.mk H;clear H;have p405 : 0 ≤ ((ji6) : Int) := of_decide_eq_true zz13;have q405 : (ji6) < (l0.length : Int) := of_decide_eq_true zz13;obtain ⟨ad405, A405_5, c405_5, e405, hx405_0, hx405_1, hx405_2, hx405_3, hx405_4, hx405_5, hl405_5, hi405_5⟩ := qzc HR0.out (ji6) p405 q405;cases e405;clear hi405_5 hl405_5;replace p405 := eq_true p405;replace q405 := eq_true q405;go_wp2;go_roundg k1
       case measure => have := HK1.out; omega
       case rel => exact ⟨((qf l0 (ji6)).f1), (by first | rfl | (simp; done) | (simp only [← hji6] <;> (first | rfl | simp)) | (simp [*]; done)), H', ⟨zz2⟩, zz15⟩
      ·rw [if_neg c8] at H;exact absurd H (by simp)
     ·rw [if_neg c7] at H;exact absurd H (by simp)
   ·rw [if_neg c4] at H;have c4b0 : decide (0 < x7_1) = false := decide_eq_false c4;clear c4;obtain rfl := Option.some.inj H;go_wp2;go_ret;exact ⟨zz8, zz15⟩
def qtb.l0 : Nat → List (S53) → Int → Int → Option (Bool)
 | 0, _, _, _ => none
 | k + 1, x0, x5, x6 => if x6 < x5 then (if x6 = 0 then (if 0 ≤ x6 then (if x6 < (x0.length : Int) then (if ((qf x0 x6).f1) = 0 then (if x6 > 0 then (if ((qf x0 x6).f1) < 1 then (some false) else ((qlc.f k x0 x6 ((qf x0 x6).f1)).bind fun t409 => (if t409 = true then (qtb.l0 k x0 x5 (wrap64 (x6 + 1))) else (some false)))) else (qtb.l0 k x0 x5 (wrap64 (x6 + 1)))) else (some false)) else (none)) else (none)) else (if x6 > 0 then (if 0 ≤ x6 then (if x6 < (x0.length : Int) then (if ((qf x0 x6).f1) < 1 then (some false) else ((qlc.f k x0 x6 ((qf x0 x6).f1)).bind fun t412 => (if t412 = true then (qtb.l0 k x0 x5 (wrap64 (x6 + 1))) else (some false)))) else (none)) else (none)) else (qtb.l0 k x0 x5 (wrap64 (x6 + 1))))) else (some true)
def qtb.f (k : Nat) (l0 : List (S53)) : Option (Bool) := qtb.l0 k l0 (l0.length : Int) 0
set_option maxHeartbeats 8000000 in
set_option maxRecDepth 100000 in
theorem qtb.calls (k : Nat) (A0 : Option Addr) (c0 : Nat) (l0 : List (S53)) (r : Bool) (w : World) (hr0 : Kd.C k53 w A0 l0.length l0) (hc0 : l0.length ≤ c0) (h : qtb.f k l0 = some r) :
  Calls Tryz.prog 32 #[.slice A0 l0.length c0] w fun e w' => e = .returned (.bool r) ∧ Drawn0 w w' := by
 have HR0 := qa.mk hr0;have HC0 := qa.mk hc0;clear hr0 hc0;have H : (qtb.l0 k l0 (l0.length : Int) 0) = some r := h;clear h;have H' := qa.mk H;clear H;(go_enter Tryz.func32, Tryz.ntmps32);go_wp2
 go_loopg [6] k (fun kq v6 w' => ∃ (x6_1 : Int), v6 = .int .i64 x6_1 ∧ qa (qtb.l0 kq l0 (l0.length : Int) x6_1 = some r) ∧ qa (kq ≤ k) ∧ Drawn0 w w')
 case atStart => exact ⟨(0), zz8, H', ⟨Nat.le_refl _⟩, zz15⟩
 case round =>
  clear H';obtain ⟨x6_1, rfl, HA, HK1, ⟨m1, rfl⟩⟩ := hrel
  cases gk with
  | zero => exact absurd HA.out (by simp [qtb.l0])
  | succ k1 =>
   have H := HA.out;clear HA;simp only [qtb.l0] at H;by_cases c2 : x6_1 < (l0.length : Int)
   ·rw [if_pos c2] at H;have c2b0 : decide (x6_1 < (l0.length : Int)) = true := decide_eq_true c2;clear c2;by_cases c3 : x6_1 = 0
    ·rw [if_pos c3] at H;have c3b0 : (x6_1 == 0) = true := beq_iff_eq.mpr c3;have c3b1 : (x6_1 != 0) = false := bne_eq_false_iff_eq.mpr c3;clear c3;by_cases c4 : 0 ≤ x6_1
     ·rw [if_pos c4] at H;have c4b0 : decide (0 ≤ x6_1) = true := decide_eq_true c4;clear c4;by_cases c5 : x6_1 < (l0.length : Int)
      ·rw [if_pos c5] at H;have c5b0 : decide (x6_1 < (l0.length : Int)) = true := decide_eq_true c5;clear c5;by_cases c6 : ((qf l0 x6_1).f1) = 0
       ·rw [if_pos c6] at H;have c6b0 : (((qf l0 x6_1).f1) == 0) = true := beq_iff_eq.mpr c6;have c6b1 : (((qf l0 x6_1).f1) != 0) = false := bne_eq_false_iff_eq.mpr c6;clear c6;by_cases c7 : x6_1 > 0
        ·rw [if_pos c7] at H;have c7b0 : decide (0 < x6_1) = true := decide_eq_true c7;clear c7;by_cases c8 : ((qf l0 x6_1).f1) < 1
         ·rw [if_pos c8] at H;have c8b0 : decide (((qf l0 x6_1).f1) < 1) = true := decide_eq_true c8;clear c8;obtain rfl := Option.some.inj H;have p406 : 0 ≤ (x6_1 : Int) := of_decide_eq_true zz13;have q406 : x6_1 < (l0.length : Int) := of_decide_eq_true zz13;obtain ⟨ad406, A406_5, c406_5, e406, hx406_0, hx406_1, hx406_2, hx406_3, hx406_4, hx406_5, hl406_5, hi406_5⟩ := qzc HR0.out x6_1 p406 q406;cases e406;have HR406_5 := qa.mk hi406_5;have HC406_5 := qa.mk hl406_5;clear hi406_5 hl406_5;replace p406 := eq_true p406;replace q406 := eq_true q406;go_wp2;go_ret;exact ⟨zz8, zz15⟩
         ·rw [if_neg c8] at H;have c8b0 : decide (((qf l0 x6_1).f1) < 1) = false := decide_eq_false c8;clear c8;replace H := Option.bind_eq_some_iff.mp H;obtain ⟨t409, A90, H⟩ := H;replace H : (if t409 = true then (qtb.l0 k1 l0 (l0.length : Int) (wrap64 (x6_1 + 1))) else (some false)) = some r := H;have A9 := qa.mk A90;clear A90;by_cases c10 : t409 = true
          ·subst c10;(have H1 : (qtb.l0 k1 l0 (l0.length : Int) (wrap64 (x6_1 + 1))) = some r := by rw [if_pos rfl] at H; exact H);clear H;have H := H1;clear H1;have H' := qa.mk H;clear H;have p406 : 0 ≤ (x6_1 : Int) := of_decide_eq_true zz13;have q406 : x6_1 < (l0.length : Int) := of_decide_eq_true zz13;obtain ⟨ad406, A406_5, c406_5, e406, hx406_0, hx406_1, hx406_2, hx406_3, hx406_4, hx406_5, hl406_5, hi406_5⟩ := qzc HR0.out x6_1 p406 q406;cases e406;have HR406_5 := qa.mk hi406_5;have HC406_5 := qa.mk hl406_5;clear hi406_5 hl406_5;replace p406 := eq_true p406;replace q406 := eq_true q406;(go_wp2_with (first | (go_at_call 52; (with_reducible refine (qlc.calls k1 _ _ l0 x6_1 ((qf l0 x6_1).f1) true _ ?side1 ?side2 A9.out).mono ?_); (case side1 => exact zz106); (case side2 => exact HC0.out); rintro e w' ⟨rfl, ⟨nd, rfl⟩⟩)));go_roundg k1
           case measure => have := HK1.out; omega
           case rel => exact ⟨(wrap64 (x6_1 + 1)), zz8, H', ⟨zz2⟩, zz15⟩
          ·replace c10 := Bool.eq_false_iff.mpr c10;subst c10;(have H1 : (some false) = some r := by rw [if_neg (show ¬ (false = true) by decide)] at H; exact H);clear H;have H := H1;clear H1;obtain rfl := Option.some.inj H;have p406 : 0 ≤ (x6_1 : Int) := of_decide_eq_true zz13;have q406 : x6_1 < (l0.length : Int) := of_decide_eq_true zz13;obtain ⟨ad406, A406_5, c406_5, e406, hx406_0, hx406_1, hx406_2, hx406_3, hx406_4, hx406_5, hl406_5, hi406_5⟩ := qzc HR0.out x6_1 p406 q406;cases e406;have HR406_5 := qa.mk hi406_5;have HC406_5 := qa.mk hl406_5;clear hi406_5 hl406_5;replace p406 := eq_true p406;replace q406 := eq_true q406;(go_wp2_with (first | (go_at_call 52; (with_reducible refine (qlc.calls k1 _ _ l0 x6_1 ((qf l0 x6_1).f1) false _ ?side1 ?side2 A9.out).mono ?_); (case side1 => exact zz106); (case side2 => exact HC0.out); rintro e w' ⟨rfl, ⟨nd, rfl⟩⟩)));go_ret;exact ⟨zz8, zz15⟩
        ·rw [if_neg c7] at H;have c7b0 : decide (0 < x6_1) = false := decide_eq_false c7;clear c7;have H' := qa.mk H;clear H;have p406 : 0 ≤ (x6_1 : Int) := of_decide_eq_true zz13;have q406 : x6_1 < (l0.length : Int) := of_decide_eq_true zz13;obtain ⟨ad406, A406_5, c406_5, e406, hx406_0, hx406_1, hx406_2, hx406_3, hx406_4, hx406_5, hl406_5, hi406_5⟩ := qzc HR0.out x6_1 p406 q406;cases e406;have HR406_5 := qa.mk hi406_5;have HC406_5 := qa.mk hl406_5;clear hi406_5 hl406_5;replace p406 := eq_true p406;replace q406 := eq_true q406;go_wp2;go_roundg k1
         case measure => have := HK1.out; omega
         case rel => exact ⟨(wrap64 (x6_1 + 1)), zz8, H', ⟨zz2⟩, zz15⟩
       ·rw [if_neg c6] at H;have c6b0 : (((qf l0 x6_1).f1) == 0) = false := beq_eq_false_iff_ne.mpr c6;have c6b1 : (((qf l0 x6_1).f1) != 0) = true := bne_iff_ne.mpr c6;obtain rfl := Option.some.inj H;have p406 : 0 ≤ (x6_1 : Int) := of_decide_eq_true zz13;have q406 : x6_1 < (l0.length : Int) := of_decide_eq_true zz13;obtain ⟨ad406, A406_5, c406_5, e406, hx406_0, hx406_1, hx406_2, hx406_3, hx406_4, hx406_5, hl406_5, hi406_5⟩ := qzc HR0.out x6_1 p406 q406;cases e406;have HR406_5 := qa.mk hi406_5;have HC406_5 := qa.mk hl406_5;clear hi406_5 hl406_5;replace p406 := eq_true p406;replace q406 := eq_true q406;go_wp2;go_ret;exact ⟨zz8, zz15⟩
      ·rw [if_neg c5] at H;exact absurd H (by simp)
     ·rw [if_neg c4] at H;exact absurd H (by simp)
    ·rw [if_neg c3] at H;have c3b0 : (x6_1 == 0) = false := beq_eq_false_iff_ne.mpr c3;have c3b1 : (x6_1 != 0) = true := bne_iff_ne.mpr c3;by_cases c11 : x6_1 > 0
     ·rw [if_pos c11] at H;have c11b0 : decide (0 < x6_1) = true := decide_eq_true c11;clear c11;by_cases c12 : 0 ≤ x6_1
      ·rw [if_pos c12] at H;have c12b0 : decide (0 ≤ x6_1) = true := decide_eq_true c12;clear c12;by_cases c13 : x6_1 < (l0.length : Int)
       ·rw [if_pos c13] at H;have c13b0 : decide (x6_1 < (l0.length : Int)) = true := decide_eq_true c13;clear c13;by_cases c14 : ((qf l0 x6_1).f1) < 1
        ·rw [if_pos c14] at H;have c14b0 : decide (((qf l0 x6_1).f1) < 1) = true := decide_eq_true c14;clear c14;obtain rfl := Option.some.inj H;have p410 : 0 ≤ (x6_1 : Int) := of_decide_eq_true zz13;have q410 : x6_1 < (l0.length : Int) := of_decide_eq_true zz13;obtain ⟨ad410, A410_5, c410_5, e410, hx410_0, hx410_1, hx410_2, hx410_3, hx410_4, hx410_5, hl410_5, hi410_5⟩ := qzc HR0.out x6_1 p410 q410;cases e410;have HR410_5 := qa.mk hi410_5;have HC410_5 := qa.mk hl410_5;clear hi410_5 hl410_5;replace p410 := eq_true p410;replace q410 := eq_true q410;go_wp2;go_ret;exact ⟨zz8, zz15⟩
        ·rw [if_neg c14] at H;have c14b0 : decide (((qf l0 x6_1).f1) < 1) = false := decide_eq_false c14;clear c14;replace H := Option.bind_eq_some_iff.mp H;obtain ⟨t412, A150, H⟩ := H;replace H : (if t412 = true then (qtb.l0 k1 l0 (l0.length : Int) (wrap64 (x6_1 + 1))) else (some false)) = some r := H;have A15 := qa.mk A150;clear A150;by_cases c16 : t412 = true
         ·subst c16;(have H1 : (qtb.l0 k1 l0 (l0.length : Int) (wrap64 (x6_1 + 1))) = some r := by rw [if_pos rfl] at H; exact H);clear H;have H := H1;clear H1;have H' := qa.mk H;clear H;have p410 : 0 ≤ (x6_1 : Int) := of_decide_eq_true zz13;have q410 : x6_1 < (l0.length : Int) := of_decide_eq_true zz13;obtain ⟨ad410, A410_5, c410_5, e410, hx410_0, hx410_1, hx410_2, hx410_3, hx410_4, hx410_5, hl410_5, hi410_5⟩ := qzc HR0.out x6_1 p410 q410;cases e410;have HR410_5 := qa.mk hi410_5;have HC410_5 := qa.mk hl410_5;clear hi410_5 hl410_5;replace p410 := eq_true p410;replace q410 := eq_true q410;(go_wp2_with (first | (go_at_call 52; (with_reducible refine (qlc.calls k1 _ _ l0 x6_1 ((qf l0 x6_1).f1) true _ ?side1 ?side2 A15.out).mono ?_); (case side1 => exact zz106); (case side2 => exact HC0.out); rintro e w' ⟨rfl, ⟨nd, rfl⟩⟩)));go_roundg k1
          case measure => have := HK1.out; omega
          case rel => exact ⟨(wrap64 (x6_1 + 1)), zz8, H', ⟨zz2⟩, zz15⟩
         ·replace c16 := Bool.eq_false_iff.mpr c16;subst c16;(have H1 : (some false) = some r := by rw [if_neg (show ¬ (false = true) by decide)] at H; exact H);clear H;have H := H1;clear H1;obtain rfl := Option.some.inj H;have p410 : 0 ≤ (x6_1 : Int) := of_decide_eq_true zz13;have q410 : x6_1 < (l0.length : Int) := of_decide_eq_true zz13;obtain ⟨ad410, A410_5, c410_5, e410, hx410_0, hx410_1, hx410_2, hx410_3, hx410_4, hx410_5, hl410_5, hi410_5⟩ := qzc HR0.out x6_1 p410 q410;cases e410;have HR410_5 := qa.mk hi410_5;have HC410_5 := qa.mk hl410_5;clear hi410_5 hl410_5;replace p410 := eq_true p410;replace q410 := eq_true q410;(go_wp2_with (first | (go_at_call 52; (with_reducible refine (qlc.calls k1 _ _ l0 x6_1 ((qf l0 x6_1).f1) false _ ?side1 ?side2 A15.out).mono ?_); (case side1 => exact zz106); (case side2 => exact HC0.out); rintro e w' ⟨rfl, ⟨nd, rfl⟩⟩)));go_ret;exact ⟨zz8, zz15⟩
       ·rw [if_neg c13] at H;exact absurd H (by simp)
      ·rw [if_neg c12] at H;exact absurd H (by simp)
     ·rw [if_neg c11] at H;have c11b0 : decide (0 < x6_1) = false := decide_eq_false c11;clear c11;have H' := qa.mk H;clear H;go_wp2;go_roundg k1
      case measure => have := HK1.out; omega
      case rel => exact ⟨(wrap64 (x6_1 + 1)), zz8, H', ⟨zz2⟩, zz15⟩
   ·rw [if_neg c2] at H;have c2b0 : decide (x6_1 < (l0.length : Int)) = false := decide_eq_false c2;clear c2;obtain rfl := Option.some.inj H;go_wp2;go_ret;exact ⟨zz8, zz15⟩
def quc.l0 : Nat → List (S53) → Int → Int → Option (Int)
 | 0, _, _, _ => none
 | k + 1, x0, x1, x5 => if x1 > 0 then (if 0 ≤ (wrap64 (x1 - 1)) then (if (wrap64 (x1 - 1)) < (x0.length : Int) then (quc.l0 k x0 ((qf x0 (wrap64 (x1 - 1))).f1) (wrap64 (x5 + 1))) else (none)) else (none)) else (some x5)
def quc.f (k : Nat) (l0 : List (S53)) (a1 : Int) : Option (Int) := quc.l0 k l0 a1 0
set_option maxHeartbeats 8000000 in
set_option maxRecDepth 100000 in
theorem quc.calls (k : Nat) (A0 : Option Addr) (c0 : Nat) (l0 : List (S53)) (a1 : Int) (r : Int) (w : World) (hr0 : Kd.C k53 w A0 l0.length l0) (hc0 : l0.length ≤ c0) (h : quc.f k l0 a1 = some r) :
  Calls Tryz.prog 33 #[.slice A0 l0.length c0, .int .i64 a1] w fun e w' => e = .returned (.int .i64 r) ∧ Drawn0 w w' := by
 have HR0 := qa.mk hr0;clear hr0 hc0;have H : (quc.l0 k l0 a1 0) = some r := h;clear h;have H' := qa.mk H;clear H;(go_enter Tryz.func33, Tryz.ntmps33);go_wp2
 go_loopg [1, 5] k (fun kq v1 v5 w' => ∃ (x1_1 : Int) (x5_1 : Int), v1 = .int .i64 x1_1 ∧ v5 = .int .i64 x5_1 ∧ qa (quc.l0 kq l0 x1_1 x5_1 = some r) ∧ qa (kq ≤ k) ∧ Drawn0 w w')
 case atStart => exact ⟨(a1), (0), zz8, zz8, H', ⟨Nat.le_refl _⟩, zz15⟩
 case round =>
  clear H';(try clear p2);obtain ⟨x1_1, x5_1, rfl, rfl, HA, HK1, ⟨m1, rfl⟩⟩ := hrel
  cases gk with
  | zero => exact absurd HA.out (by simp [quc.l0])
  | succ k1 =>
   have H := HA.out;clear HA;simp only [quc.l0] at H;by_cases c3 : x1_1 > 0
   ·rw [if_pos c3] at H;have c3b0 : decide (0 < x1_1) = true := decide_eq_true c3;clear c3;obtain ⟨ji4, hji4⟩ : ∃ j_ : Int, (wrap64 (x1_1 - 1)) = j_ := ⟨_, rfl⟩;(replace H : (if 0 ≤ (ji4) then (if (ji4) < (l0.length : Int) then (quc.l0 k1 l0 ((qf l0 (ji4)).f1) (wrap64 (x5_1 + 1))) else (none)) else (none)) = some r := by first | (rw [hji4] at H; exact H) | (simp only [hji4] at H ⊢; exact H));have hji4w : (IntKind.i64.wrap (x1_1 - 1)) = ji4 := (i64_w _).trans hji4;by_cases c5 : 0 ≤ (ji4)
    ·rw [if_pos c5] at H;have c5b0 : decide (0 ≤ (ji4)) = true := decide_eq_true c5;clear c5;by_cases c6 : (ji4) < (l0.length : Int)
     ·rw [if_pos c6] at H;have c6b0 : decide ((ji4) < (l0.length : Int)) = true := decide_eq_true c6;clear c6;have H' := qa.mk H;clear H;have p413 : 0 ≤ ((ji4) : Int) := of_decide_eq_true zz13;have q413 : (ji4) < (l0.length : Int) := of_decide_eq_true zz13;obtain ⟨ad413, A413_5, c413_5, e413, hx413_0, hx413_1, hx413_2, hx413_3, hx413_4, hx413_5, hl413_5, hi413_5⟩ := qzc HR0.out (ji4) p413 q413;cases e413;clear hi413_5 hl413_5;replace p413 := eq_true p413;replace q413 := eq_true q413;go_wp2;go_roundg k1
      case measure => have := HK1.out; omega
      case rel => exact ⟨((qf l0 (ji4)).f1), (wrap64 (x5_1 + 1)), (by first | rfl | (simp; done) | (simp only [← hji4] <;> (first | rfl | simp)) | (simp [*]; done)), zz8, H', ⟨zz2⟩, zz15⟩
     ·rw [if_neg c6] at H;exact absurd H (by simp)
    ·rw [if_neg c5] at H;exact absurd H (by simp)
   ·rw [if_neg c3] at H;have c3b0 : decide (0 < x1_1) = false := decide_eq_false c3;clear c3;obtain rfl := Option.some.inj H;go_wp2;go_ret;exact ⟨zz8, zz15⟩
end Go.Proofs.YtjbobecnlpiejaaGreatDoor.Q
namespace Go.Proofs.YtjbobecnlpiejaaGreatDoor.Q.P
open Go.Proofs.YtjbobecnlpiejaaGreatDoorZ
open Go.RowKit Go.Proofs.YtjbobecnlpiejaaGreatDoorW.PrintWords Go.Proofs.YtjbobecnlpiejaaGreatDoorW.PrintLast Go.Proofs.YtjbobecnlpiejaaGreatDoorW.PrintMore
def up (l : List S53) (j : Nat) : Int := (qf l (j : Int)).f1
theorem up_get {l : List S53} {j : Nat} (h : j < l.length) : up l j = l[j].f1 := by unfold up; rw [rdR l j h]
inductive Anc (l : List S53) : Nat → Nat → Prop
 | refl (h) : Anc l h h
 | step {h a} (h0 : 0 < h) (t : Anc l (up l (h - 1)).toNat a) : Anc l h a
def UpsN (l : List S53) (n : Nat) : Prop := ∀ j, j < n → 0 ≤ up l j ∧ up l j ≤ (j : Int)
def FP (l : List S53) (j : Nat) : Prop := if j = 0 then up l j = 0 else 1 ≤ up l j ∧ Anc l j (up l j).toNat
def FormedP (l : List S53) : Prop := ∀ j, j < l.length → FP l j
section
variable {l : List S53}
theorem Anc.zero {a : Nat} (h : Anc l 0 a) : a = 0 := by
 cases h with
 | refl => rfl
 | step h0 _ => omega
theorem Anc.up {h a : Nat} (k : Anc l h a) (hn : h ≠ a) : 0 < h ∧ Anc l (up l (h - 1)).toNat a := by
 cases k with
 | refl => exact absurd rfl hn
 | step h0 t => exact ⟨h0, t⟩
theorem Anc.le {n h a : Nat} (hu : UpsN l n) (hn : h ≤ n) (k : Anc l h a) : a ≤ h := by
 induction k with
 | refl => exact Nat.le_refl _
 | @step h a h0 _ ih =>
  have := hu (h - 1) (by omega);have := ih (by omega);omega
theorem Anc.two {n h a b : Nat} (hu : UpsN l n) (hn : h ≤ n) (ka : Anc l h a) (kb : Anc l h b) (hab : a ≤ b) : Anc l b a := by
 induction ka with
 | refl h =>
  have := Anc.le hu hn kb;(obtain rfl : h = b := by omega);exact .refl _
 | @step h a h0 t ih =>
  by_cases hb : h = b
  ·subst hb; exact .step h0 t
  ·have := hu (h - 1) (by omega);exact ih (by omega) (kb.up hb).2 hab
theorem ups_step {n : Nat} (hu : UpsN l n) (h : FP l n) : UpsN l (n + 1) := by
 intro j hj;rcases Nat.lt_or_ge j n with h1 | h1
 ·exact hu j h1
 ·(obtain rfl : j = n := by omega);unfold FP at h;by_cases h0 : j = 0
  ·rw [if_pos h0] at h; omega
  ·rw [if_neg h0] at h;have := Anc.le hu (Nat.le_refl _) h.2;omega
theorem formed_ups (h : FormedP l) : UpsN l l.length := by
 have key : ∀ n, n ≤ l.length → UpsN l n := by
  intro n
  induction n with
  | zero => intro _ j hj; omega
  | succ n ih => intro hn; exact ups_step (ih (by omega)) (h n (by omega))
 exact key _ (Nat.le_refl _)
def depR (l : List S53) : Nat → Nat → Nat
 | 0, _ => 0
 | f + 1, h => if h = 0 then 0 else depR l f (up l (h - 1)).toNat + 1
def dep (l : List S53) (h : Nat) : Nat := depR l h h
theorem depR_any {n : Nat} (hu : UpsN l n) : ∀ (m f g h : Nat), h ≤ m → h ≤ f → h ≤ g → h ≤ n → depR l f h = depR l g h := by
 intro m
 induction m with
 | zero =>
  intro f g h hm _ _ _;(obtain rfl : h = 0 := by omega);cases f <;> cases g <;> simp [depR]
 | succ m ih =>
  intro f g h hm hf hg hn;by_cases h0 : h = 0
  ·subst h0; cases f <;> cases g <;> simp [depR]
  ·obtain ⟨f, rfl⟩ : ∃ x, f = x + 1 := ⟨f - 1, by omega⟩;obtain ⟨g, rfl⟩ : ∃ x, g = x + 1 := ⟨g - 1, by omega⟩;have := hu (h - 1) (by omega);unfold depR;rw [if_neg h0, if_neg h0, ih f g _ (by omega) (by omega) (by omega) (by omega)]
theorem dep_step {n h : Nat} (hu : UpsN l n) (hn : h ≤ n) (h0 : 0 < h) : dep l h = dep l (up l (h - 1)).toNat + 1 := by
 obtain ⟨m, rfl⟩ : ∃ x, h = x + 1 := ⟨h - 1, by omega⟩;have := hu m (by omega);unfold dep
 conv => lhs; unfold depR
 rw [if_neg (by omega)];simp only [Nat.add_sub_cancel];rw [depR_any hu m m (up l m).toNat (up l m).toNat (by omega) (by omega) (Nat.le_refl _) (by omega)]
theorem dep_le {n : Nat} (hu : UpsN l n) : ∀ (m h : Nat), h ≤ m → h ≤ n → dep l h ≤ h := by
 intro m
 induction m with
 | zero =>
  intro h hm _;(obtain rfl : h = 0 := by omega);simp [dep, depR]
 | succ m ih =>
  intro h hm hn;by_cases h0 : h = 0
  ·subst h0; simp [dep, depR]
  ·have := hu (h - 1) (by omega);rw [dep_step hu hn (by omega)];have := ih (up l (h - 1)).toNat (by omega) (by omega);omega
end
theorem formed2_l1 (l : List S53) (hl : l.length ≤ 100) (i : Nat) (hi : i < l.length) (hu : UpsN l i) (Q : Prop)
  (ih : UpsN l (i + 1) → ∃ b, Ev (fun k => qub.l0 k l l (l.length : Int) ((i + 1 : Nat) : Int)) b ∧ (b = true ↔ Q)) (a0 a1 : Int) (a2 a3 a4 : ByteArray) (a5 : List S55) (ha : a1 = up l i) :
  ∀ (m h : Nat), h ≤ m → h ≤ i → ∃ b, Ev (fun k => qub.l1 k l (i : Int) (h : Int) l (l.length : Int) (i : Int) a0 a1 a2 a3 a4 a5) b ∧ (b = true ↔ (if i = 0 then up l i = 0 else 1 ≤ up l i ∧ Anc l h (up l i).toNat) ∧ Q) := by
 have hw : wrap64 ((i : Int) + 1) = ((i + 1 : Nat) : Int) := by rw [w64 (by omega) (by omega)]; omega
 have hnext : ∀ h : Nat, h ≤ i → (h : Int) = a1 → UpsN l (i + 1) := by
  intro h hh he j hji;by_cases hjj : j < i
  ·exact hu j hjj
  ·(obtain rfl : j = i := by omega);omega
 intro m
 induction m with
 | zero =>
  intro h hm hh;(obtain rfl : h = 0 := by omega);by_cases h1 : ((0 : Nat) : Int) = a1
  ·by_cases h2 : (i : Int) = 0
   ·obtain ⟨b, hb, hq⟩ := ih (hnext 0 hh h1);refine ⟨b, Ev.step (fun k => ?_) hb, ?_⟩
    ·rw [qub.l1, if_pos (by omega), if_pos h1, if_pos h2, hw]
    ·rw [hq, if_pos (by omega)];exact ⟨fun q => ⟨by omega, q⟩, fun q => q.2⟩
   ·refine ⟨false, Ev.step (fun k => ?_) (Ev.now false), ⟨nofun, fun q => ?_⟩⟩
    ·rw [qub.l1, if_pos (by omega), if_pos h1, if_neg h2]
    ·rw [if_neg (by omega)] at q;omega
  ·refine ⟨false, Ev.step (fun k => ?_) (Ev.now false), ⟨nofun, fun q => ?_⟩⟩
   ·rw [qub.l1, if_pos (by omega), if_neg h1]
   ·by_cases h2 : i = 0
    ·rw [if_pos h2] at q; omega
    ·rw [if_neg h2] at q;have := Anc.zero q.1.2;omega
 | succ m ihm =>
  intro h hm hh;by_cases h0 : h = 0
  ·subst h0; exact ihm 0 (by omega) hh
  (have hi0 : ¬ (i : Int) = 0 := by omega);by_cases h1 : (h : Int) = a1
  ·obtain ⟨b, hb, hq⟩ := ih (hnext h hh h1);refine ⟨b, Ev.step (fun k => ?_) hb, ?_⟩
   ·rw [qub.l1, if_neg (by omega), if_pos h1, if_neg hi0, hw]
   ·(have e : (up l i).toNat = h := by omega);rw [hq, if_neg (by omega), e];exact ⟨fun q => ⟨⟨by omega, .refl _⟩, q⟩, fun q => q.2⟩
  ·obtain ⟨u1, u2⟩ := hu (h - 1) (by omega);(have e1 : wrap64 ((h : Int) - 1) = ((h - 1 : Nat) : Int) := by rw [w64 (by omega) (by omega)]; omega);obtain ⟨b, hb, hq⟩ := ihm (up l (h - 1)).toNat (by omega) (by omega);refine ⟨b, Ev.step (fun k => ?_) hb, ?_⟩
   ·rw [qub.l1, if_neg (by omega), if_neg h1, e1, if_pos (by omega), if_pos (by omega)];show qub.l1 k l (i : Int) (up l (h - 1)) l (l.length : Int) (i : Int) a0 a1 a2 a3 a4 a5 = _;rw [Int.toNat_of_nonneg u1]
   ·rw [hq, if_neg (by omega), if_neg (by omega)];(have hne : 1 ≤ up l i → h ≠ (up l i).toNat := fun _ => by omega);exact ⟨fun q => ⟨⟨q.1.1, .step (by omega) q.1.2⟩, q.2⟩, fun q => ⟨⟨q.1.1, (q.1.2.up (hne q.1.1)).2⟩, q.2⟩⟩
theorem formed2_l0 (l : List S53) (hl : l.length ≤ 100) (d : Nat) : ∀ i : Nat, i + d = l.length → UpsN l i → ∃ b, Ev (fun k => qub.l0 k l l (l.length : Int) (i : Int)) b ∧ (b = true ↔ ∀ j, i ≤ j → j < l.length → FP l j) := by
 induction d with
 | zero =>
  intro i hi hu;refine ⟨true, Ev.step (fun k => ?_) (Ev.now true), ⟨fun _ j h1 h2 => by omega, fun _ => rfl⟩⟩;rw [qub.l0, if_neg (by omega)]
 | succ d ih =>
  intro i hi hu;(have hil : i < l.length := by omega);obtain ⟨b, hb, hq⟩ := formed2_l1 l hl i hil hu _ (ih (i + 1) (by omega)) l[i].f0 l[i].f1 l[i].f2 l[i].f3 l[i].f4 l[i].f5 (up_get hil).symm i i (Nat.le_refl _) (Nat.le_refl _);refine ⟨b, Ev.step (fun k => ?_) hb, ?_⟩
  ·rw [qub.l0, if_pos (by omega), if_pos (by omega), if_pos (by omega), rdR l i hil]
  ·rw [hq]
   exact ⟨fun q j h1 h2 => by
    rcases Nat.lt_or_ge i j with h3 | h3
    ·exact q.2 j h3 h2
    ·obtain rfl : i = j := by omega
     exact q.1, fun q => ⟨q i (Nat.le_refl _) hil, fun j h1 h2 => q j (by omega) h2⟩⟩
theorem formed2_spec (l : List S53) (hl : l.length ≤ 100) : ∃ b, Ev (fun k => qub.f k l) b ∧ (b = true ↔ FormedP l) := by
 obtain ⟨b, hb, hq⟩ := formed2_l0 l hl l.length 0 (by omega) (fun j h => by omega);exact ⟨b, hb, hq.trans ⟨fun q j hj => q j (Nat.zero_le _) hj, fun q j _ hj => q j hj⟩⟩
theorem above_l0 (l : List S53) (hl : l.length ≤ 100) (n : Nat) (hn : n ≤ l.length) (hu : UpsN l n) (a : Nat) (ha : 1 ≤ a) : ∀ (m x : Nat), x ≤ m → x ≤ n → ∃ b, Ev (fun k => qlc.l0 k l (a : Int) (x : Int)) b ∧ (b = true ↔ Anc l x a) := by
 intro m
 induction m with
 | zero =>
  intro x hm hx;(obtain rfl : x = 0 := by omega);refine ⟨false, Ev.step (fun k => ?_) (Ev.now false), ⟨nofun, fun h => by have := Anc.zero h; omega⟩⟩;rw [qlc.l0, if_neg (by omega)]
 | succ m ih =>
  intro x hm hx;by_cases h0 : x = 0
  ·subst h0; exact ih 0 (by omega) (by omega)
  by_cases h1 : (x : Int) = (a : Int)
  ·refine ⟨true, Ev.step (fun k => ?_) (Ev.now true), ⟨fun _ => ?_, fun _ => rfl⟩⟩
   ·rw [qlc.l0, if_pos (by omega), if_pos h1]
   ·(obtain rfl : x = a := by omega);exact .refl _
  ·obtain ⟨u1, u2⟩ := hu (x - 1) (by omega);(have e1 : wrap64 ((x : Int) - 1) = ((x - 1 : Nat) : Int) := by rw [w64 (by omega) (by omega)]; omega);obtain ⟨b, hb, hq⟩ := ih (up l (x - 1)).toNat (by omega) (by omega);refine ⟨b, Ev.step (fun k => ?_) hb, ?_⟩
   ·rw [qlc.l0, if_pos (by omega), if_neg h1, e1, if_pos (by omega), if_pos (by omega)];show qlc.l0 k l (a : Int) (up l (x - 1)) = _;rw [Int.toNat_of_nonneg u1]
   ·rw [hq];exact ⟨fun q => .step (by omega) q, fun q => (q.up (by omega)).2⟩
theorem depth_l0 (l : List S53) (hl : l.length ≤ 100) (hu : UpsN l l.length) : ∀ (m h : Nat) (n : Nat), h ≤ m → h ≤ l.length → n + h ≤ 1000 → Ev (fun k => quc.l0 k l (h : Int) (n : Int)) ((n + dep l h : Nat) : Int) := by
 intro m
 induction m with
 | zero =>
  intro h n hm hh hn;(obtain rfl : h = 0 := by omega);refine Ev.step (fun k => ?_) (Ev.now _);rw [quc.l0, if_neg (by omega)];rfl
 | succ m ih =>
  intro h n hm hh hn;by_cases h0 : h = 0
  ·subst h0; exact ih 0 n (by omega) hh hn
  obtain ⟨u1, u2⟩ := hu (h - 1) (by omega);(have e1 : wrap64 ((h : Int) - 1) = ((h - 1 : Nat) : Int) := by rw [w64 (by omega) (by omega)]; omega);(have e2 : wrap64 ((n : Int) + 1) = ((n + 1 : Nat) : Int) := by rw [w64 (by omega) (by omega)]; omega);have h2 := dep_step hu hh (by omega);have := ih (up l (h - 1)).toNat (n + 1) (by omega) (by omega) (by omega);rw [Int.toNat_of_nonneg u1, show n + 1 + dep l (up l (h - 1)).toNat = n + dep l h by omega] at this;refine Ev.step (fun k => ?_) this;rw [quc.l0, if_pos (by omega), e1, if_pos (by omega), if_pos (by omega), e2];rfl
end Go.Proofs.YtjbobecnlpiejaaGreatDoor.Q.P
namespace Go.Proofs.YtjbobecnlpiejaaGreatDoor.Q
open Go.Proofs.YtjbobecnlpiejaaGreatDoorZ
open Go.Proofs.YtjbobecnlpiejaaGreatDoor.Q.P Go.RowKit Go.Proofs.YtjbobecnlpiejaaGreatDoorW.PrintWords Go.Proofs.YtjbobecnlpiejaaGreatDoorW.PrintLast Go.Proofs.YtjbobecnlpiejaaGreatDoorW.PrintMore
attribute [local go_sem] qac qbc qhc qgc
mutual
def qt.l0 : Nat → List (S53) → Int → Int → Option (Int)
 | 0, _, _, _ => none
 | k + 1, x0, x10, x11 => if x11 < x10 then (if x11 = 4096 then (some 12) else ((quc.f k x0 (wrap64 (x11 + 1))).bind fun t427 => (if t427 > 64 then (some 11) else (if 0 ≤ x11 then (if x11 < (x0.length : Int) then ((qtc.f k ((qf x0 x11).f2) ((qf x0 x11).f3) ((qf x0 x11).f4) ((qf x0 x11).f5) ([] : List (S86))).bind fun t432 => (if t432 = 0 then (qt.l1 k x0 x11 x10 x11 x11 0) else (some t432))) else (none)) else (none))))) else (some 0)
def qt.l1 : Nat → List (S53) → Int → Int → Int → Int → Int → Option (Int)
 | 0, _, _, _, _, _, _ => none
 | k + 1, x0, x3, x10, x11, x46, x47 => if x47 < x46 then (if 0 ≤ x3 then (if x3 < (x0.length : Int) then (if ((qf x0 x3).f3).toList = ([] : List UInt8) then (qt.l1 k x0 x3 x10 x11 x46 (wrap64 (x47 + 1))) else (if 0 ≤ x47 then (if x47 < (x0.length : Int) then (if ((qf x0 x47).f1) = ((qf x0 x3).f1) then (if ((qf x0 x47).f3).toList = ((qf x0 x3).f3).toList then (some 10) else (qt.l1 k x0 x3 x10 x11 x46 (wrap64 (x47 + 1)))) else (qt.l1 k x0 x3 x10 x11 x46 (wrap64 (x47 + 1)))) else (none)) else (none))) else (none)) else (none)) else (qt.l0 k x0 x10 (wrap64 (x11 + 1)))
end
def qt.f (k : Nat) (l0 : List (S53)) : Option (Int) := (qtb.f k l0).bind fun t426 => (if t426 = true then (qt.l0 k l0 (l0.length : Int) 0) else (some 2))
def qt.T10 : Bool × List (List Nat × List Nat) := (true, [([], []), ([], []), ([0, 1], [0, 1]), ([2], [2]), ([3], [3]), ([], []), ([], []), ([5, 6], [5, 6]), ([7], [7]), ([8], [8]), ([], []), ([], []), ([10, 11], [10, 11]), ([12], [12]), ([13], [13]), ([], []), ([], []), ([15, 16], [15, 16]), ([17], [17]), ([18], [18]), ([4, 9, 14, 19], [4, 9, 14, 19]), ([20], [20]), ([21, 21, 0, 1, 2, 3, 4, 5, 6, 7, 8, 9, 10, 11, 12, 13, 14, 15, 16, 17, 18, 19, 20, 21], [21])])
def qt.B10 : List Nat := [0, 0, 3, 7, 15, 0, 0, 96, 224, 480, 0, 0, 3072, 7168, 15360, 0, 0, 98304, 229376, 491520, 1048575, 2097151, 4194303]
theorem qt.tab10 : rtab .any (opsOf Tryz.f17 10) = qt.T10 := by kernel_rfl
theorem qt.bits10 : waitsOk qt.T10.2 qt.B10 = true := by kernel_rfl
def qt.T16 : Bool × List (List Nat × List Nat) := (true, [([], []), ([], []), ([0, 1], [0, 1]), ([2], [2]), ([3], [3]), ([4], [4]), ([5], [5]), ([6], [6]), ([6], [6]), ([7, 8, 6], [6, 7, 8]), ([9, 6], [6, 9]), ([10, 6], [6, 10]), ([6], [6]), ([6], [6]), ([12, 13, 6], [6, 12, 13]), ([14, 6], [6, 14]), ([15, 6], [6, 15]), ([11, 16, 6], [6, 11, 16]), ([6, 17], [6, 17]), ([18, 6], [18]), ([19], [19]), ([19], [19]), ([20, 21, 19], [19, 20, 21]), ([22, 19], [19, 22]), ([23, 19], [19, 23]), ([19], [19]), ([19], [19]), ([25, 26, 19], [19, 25, 26]), ([27, 19], [19, 27]), ([28, 19], [19, 28]), ([24, 29, 19], [19, 24, 29]), ([19, 30], [19, 30])])
def qt.B16 : List Nat := [0, 0, 3, 7, 15, 31, 63, 127, 127, 511, 1023, 2047, 127, 127, 12415, 28799, 61567, 131071, 262143, 524287, 1048575, 1048575, 4194303, 8388607, 16777215, 1048575, 1048575, 101711871, 235929599, 504365055, 1073741823, 2147483647]
theorem qt.tab16 : rtab .any (opsOf Tryz.f17 16) = qt.T16 := by kernel_rfl
theorem qt.bits16 : waitsOk qt.T16.2 qt.B16 = true := by kernel_rfl
set_option maxHeartbeats 8000000 in
set_option maxRecDepth 100000 in
theorem qt.calls (k : Nat) (A0 : Option Addr) (c0 : Nat) (l0 : List (S53)) (r : Int) (w : World) (hr0 : Kd.C k53 w A0 l0.length l0) (hc0 : l0.length ≤ c0) (h : qt.f k l0 = some r) :
  Calls Tryz.prog 17 #[.slice A0 l0.length c0] w fun e w' => e = .returned (.int .i64 r) ∧ Below w.heap.size w w' := by
 have hu86 := Tryz.underlying86;have HR0 := qa.mk hr0;have HC0 := qa.mk hc0;clear hr0 hc0;have HB := qa.mk (Below.refl w.heap.size w);have H : ((qtb.f k l0).bind fun t426 => (if t426 = true then (qt.l0 k l0 (l0.length : Int) 0) else (some 2))) = some r := h;clear h;replace H := Option.bind_eq_some_iff.mp H;obtain ⟨t426, A20, H⟩ := H;replace H : (if t426 = true then (qt.l0 k l0 (l0.length : Int) 0) else (some 2)) = some r := H;have A2 := qa.mk A20;clear A20;by_cases c3 : t426 = true
 ·subst c3;(have H1 : (qt.l0 k l0 (l0.length : Int) 0) = some r := by rw [if_pos rfl] at H; exact H);clear H;have H := H1;clear H1;have H' := qa.mk H;clear H;(go_enter Tryz.func17, Tryz.ntmps17);go_wp2_with (first | ((with_reducible refine qv (f := 32) rfl ?_); refine qpb (some 7) rfl rfl Tryz.func32 (by kernel_rfl) rfl #[.slice A0 l0.length c0] rfl zz87 ?_; (with_reducible refine (qtb.calls k _ _ l0 true _ ?side1 ?side2 A2.out).mono ?_); (case side1 => exact zz106); (case side2 => exact HC0.out); rintro e w' ⟨rfl, ⟨nd, rfl⟩⟩; refine ⟨_, rfl, ?_⟩))
  go_loopg [11] k (fun kq v11 w' => ∃ (x11_1 : Int), v11 = .int .i64 x11_1 ∧ qa (qt.l0 kq l0 (l0.length : Int) x11_1 = some r) ∧ qa (kq ≤ k) ∧ qa (Below w.heap.size w w'))
  case atStart => exact ⟨(0), zz8, H', ⟨Nat.le_refl _⟩, ⟨zz32⟩⟩
  case round =>
   clear H';obtain ⟨x11_1, rfl, HA, HK1, HB⟩ := hrel
   cases gk with
   | zero => exact absurd HA.out (by simp [qt.l0])
   | succ k1 =>
    have H := HA.out;clear HA;simp only [qt.l0] at H;by_cases c4 : x11_1 < (l0.length : Int)
    ·rw [if_pos c4] at H;have c4b0 : decide (x11_1 < (l0.length : Int)) = true := decide_eq_true c4;clear c4;by_cases c5 : x11_1 = 4096
     ·rw [if_pos c5] at H;have c5b0 : (x11_1 == 4096) = true := beq_iff_eq.mpr c5;have c5b1 : (x11_1 != 4096) = false := bne_eq_false_iff_eq.mpr c5;clear c5;obtain rfl := Option.some.inj H;go_wp2;go_ret;exact ⟨zz98, zz32⟩
     ·rw [if_neg c5] at H;have c5b0 : (x11_1 == 4096) = false := beq_eq_false_iff_ne.mpr c5;have c5b1 : (x11_1 != 4096) = true := bne_iff_ne.mpr c5;replace H := Option.bind_eq_some_iff.mp H;obtain ⟨t427, A60, H⟩ := H;replace H : (if t427 > 64 then (some 11) else (if 0 ≤ x11_1 then (if x11_1 < (l0.length : Int) then ((qtc.f k1 ((qf l0 x11_1).f2) ((qf l0 x11_1).f3) ((qf l0 x11_1).f4) ((qf l0 x11_1).f5) ([] : List (S86))).bind fun t432 => (if t432 = 0 then (qt.l1 k1 l0 x11_1 (l0.length : Int) x11_1 x11_1 0) else (some t432))) else (none)) else (none))) = some r := H;have A6 := qa.mk A60;clear A60;by_cases c7 : t427 > 64
      ·rw [if_pos c7] at H;have c7b0 : decide (64 < t427) = true := decide_eq_true c7;clear c7;obtain rfl := Option.some.inj H;(go_wp2_with (first | ((with_reducible refine qv (f := 33) rfl ?_); refine qpb (some 19) rfl rfl Tryz.func33 (by kernel_rfl) rfl #[.slice A0 l0.length c0, .int .i64 (wrap64 (x11_1 + 1))] rfl zz87 ?_; (with_reducible refine (quc.calls k1 _ _ l0 (wrap64 (x11_1 + 1)) t427 _ ?side1 ?side2 A6.out).mono ?_); (case side1 => exact zz124); (case side2 => exact HC0.out); rintro e w' ⟨rfl, ⟨nd, rfl⟩⟩; refine ⟨_, rfl, ?_⟩)));go_ret;exact ⟨zz98, zz32⟩
      ·rw [if_neg c7] at H;have c7b0 : decide (64 < t427) = false := decide_eq_false c7;clear c7;by_cases c8 : 0 ≤ x11_1
       ·rw [if_pos c8] at H;have c8b0 : decide (0 ≤ x11_1) = true := decide_eq_true c8;clear c8;by_cases c9 : x11_1 < (l0.length : Int)
        ·rw [if_pos c9] at H;have c9b0 : decide (x11_1 < (l0.length : Int)) = true := decide_eq_true c9;clear c9;replace H := Option.bind_eq_some_iff.mp H;obtain ⟨t432, A100, H⟩ := H;replace H : (if t432 = 0 then (qt.l1 k1 l0 x11_1 (l0.length : Int) x11_1 x11_1 0) else (some t432)) = some r := H;have A10 := qa.mk A100;clear A100;by_cases c11 : t432 = 0
         ·rw [if_pos c11] at H;have c11b0 : (t432 == 0) = true := beq_iff_eq.mpr c11;have c11b1 : (t432 != 0) = false := bne_eq_false_iff_eq.mpr c11;clear c11;have H' := qa.mk H;clear H;try go_wp2_with (first | ((with_reducible refine qv (f := 33) rfl ?_); refine qpb (some 19) rfl rfl Tryz.func33 (by kernel_rfl) rfl #[.slice A0 l0.length c0, .int .i64 (wrap64 (x11_1 + 1))] rfl zz87 ?_; (with_reducible refine (quc.calls k1 _ _ l0 (wrap64 (x11_1 + 1)) t427 _ ?side1 ?side2 A6.out).mono ?_); (case side1 => exact zz124); (case side2 => exact HC0.out); rintro e w' ⟨rfl, ⟨nd, rfl⟩⟩; refine ⟨_, rfl, ?_⟩))
          (try (rw [drewN_self wr]; generalize hq_ : World.drewN wr _ = wr; have n0_ : qa (Below w.heap.size w wr) := ⟨(by rw [← hq_]; exact zz32)⟩; clear HB hq_; have HB := n0_; clear n0_))
          have n0_ := qa.mk (qd HB.out);clear HB;have HB := n0_;clear n0_;have p428 : 0 ≤ (x11_1 : Int) := of_decide_eq_true zz13;have q428 : x11_1 < (l0.length : Int) := of_decide_eq_true zz13;obtain ⟨ad428, A428_5, c428_5, e428, hx428_0, hx428_1, hx428_2, hx428_3, hx428_4, hx428_5, hl428_5, hi428_5⟩ := qzc HR0.out x11_1 p428 q428;have hw428_5 := hx428_5;have hw428_4 := hx428_4;have hw428_3 := hx428_3;have hw428_2 := hx428_2;have hw428_1 := hx428_1;have hw428_0 := hx428_0;cases e428;replace hx428_0 := cx HB hx428_0;replace hx428_1 := cx HB hx428_1;replace hx428_2 := cx HB hx428_2;replace hx428_3 := cx HB hx428_3;replace hx428_4 := cx HB hx428_4;replace hx428_5 := cx HB hx428_5;have HR428_5 := qa.mk hi428_5;have HC428_5 := qa.mk hl428_5;clear hi428_5 hl428_5;replace p428 := eq_true p428;replace q428 := eq_true q428;refine start_ (n := 23) (S := fun w' => w'.cell? (ad428.add ((x11_1).toNat * 6)) = some (.int .i64 ((qf l0 x11_1).f0)) ∧ w'.cell? ⟨(ad428.add ((x11_1).toNat * 6)).block, (ad428.add ((x11_1).toNat * 6)).off + 1, none⟩ = some (.int .i64 ((qf l0 x11_1).f1)) ∧ w'.cell? ⟨(ad428.add ((x11_1).toNat * 6)).block, (ad428.add ((x11_1).toNat * 6)).off + 2, none⟩ = some (.string ((qf l0 x11_1).f2)) ∧ w'.cell? ⟨(ad428.add ((x11_1).toNat * 6)).block, (ad428.add ((x11_1).toNat * 6)).off + 3, none⟩ = some (.string ((qf l0 x11_1).f3)) ∧ w'.cell? ⟨(ad428.add ((x11_1).toNat * 6)).block, (ad428.add ((x11_1).toNat * 6)).off + 4, none⟩ = some (.string ((qf l0 x11_1).f4)) ∧ w'.cell? ⟨(ad428.add ((x11_1).toNat * 6)).block, (ad428.add ((x11_1).toNat * 6)).off + 5, none⟩ = some (.slice A428_5 ((qf l0 x11_1).f5).length c428_5)) (ds := []) (bb 23 0) (by kernel_rfl) rfl rfl ⟨(cx HB hw428_0), (cx HB hw428_1), (cx HB hw428_2), (cx HB hw428_3), (cx HB hw428_4), (cx HB hw428_5)⟩ (fun hHeld => ?_); refine with_tabW qt.tab10 qt.bits10 (fun HT_ HW_ => ?_);generalize wr.drew = w12 at HB HR428_5 hx428_0 hx428_1 hx428_2 hx428_3 hx428_4 hx428_5 hHeld ⊢;refine pS 0 (some 21) (bb 23 1) ?_;refine pS 1 (some 22) (bb 23 3) ?_;refine pS 2 (some 23) (bb 23 7) ?_;refine pS 3 (some 24) (bb 23 15) ?_;refine pS 5 (some 26) (bb 23 47) ?_;refine pS 6 (some 27) (bb 23 111) ?_;refine pS 7 (some 28) (bb 23 239) ?_;refine pS 8 (some 29) (bb 23 495) ?_;refine pS 10 (some 31) (bb 23 1519) ?_;refine pS 11 (some 32) (bb 23 3567) ?_;refine pS 12 (some 33) (bb 23 7663) ?_;refine pS 13 (some 34) (bb 23 15855) ?_;refine pS 15 (some 36) (bb 23 48623) ?_;refine pS 16 (some 37) (bb 23 114159) ?_;refine pS 17 (some 38) (bb 23 245231) ?_;refine pS 18 (some 39) (bb 23 507375) ?_;refine tS 4 (some 25) (bb 23 507391) rfl hHeld zz24 ?_;refine tS 9 (some 30) (bb 23 507903) rfl hHeld zz24 ?_;refine tS 14 (some 35) (bb 23 524287) rfl hHeld zz24 ?_;refine tS 19 (some 40) (bb 23 1048575) rfl hHeld zz24 ?_;refine pS 20 (some 41) (bb 23 2097151) ?_;refine one_ (i := 21) (N := some 42) (bb 23 4194303) rfl rfl (one_of HT_.out (by kernel_rfl)) (by decide) (fun K hK => ?_);refine goes_ Tryz.func34 (by kernel_rfl) rfl #[.agg #[.string ((qf l0 x11_1).f2), .string ((qf l0 x11_1).f3), .string ((qf l0 x11_1).f4), .slice A428_5 ((qf l0 x11_1).f5).length c428_5, .slice none 0 0]] (by rfl) rfl rfl zz87 ?_;refine (qtc.calls k1 ((qf l0 x11_1).f2) ((qf l0 x11_1).f3) ((qf l0 x11_1).f4) _ _ ((qf l0 x11_1).f5) _ _ ([] : List (S86)) t432 _ ?side1 ?side2 ?side3 ?side4 A10.out).mono ?_
          (case side1 => exact zz136)
          (case side2 => exact HC428_5.out)
          (case side3 => exact Kd.C_nil _ _)
          (case side4 => exact Nat.le_refl _)
          rintro e w13 ⟨rfl, hb⟩;refine ⟨_, rfl, ?_⟩;have n0_ := qa.mk (qo zz32 hb);clear HB;have HB := n0_;clear n0_
          (try clear hb)
          (try clear hb2)
          (try clear hk)
          (try clear hi)
          refine hK.out _ _ ⟨(cx HB hw428_0), (cx HB hw428_1), (cx HB hw428_2), (cx HB hw428_3), (cx HB hw428_4), (cx HB hw428_5)⟩ (fun hHeld => ?_);clear hK K;refine norm_ (a' := ?_) ?_ ?_;rotate_left
          ·show Act.put _ (some 42) _ = _;simp only [Act.put, List.setIfInBounds_toArray, List.set_cons_zero, List.set_cons_succ, i64_w, i32_w];rfl
          refine pS 22 (some 4) (bb 23 8388607) ?_;refine done_ (done_of HT_.out (by kernel_rfl)) ?_;try go_wp2
          go_loopg [47] k1 (fun kq v47 w' => ∃ (x47_2 : Int), v47 = .int .i64 x47_2 ∧ qa (qt.l1 kq l0 x11_1 (l0.length : Int) x11_1 x11_1 x47_2 = some r) ∧ qa (kq ≤ k1) ∧ qa (Below w.heap.size w w'))
          case atStart => exact ⟨(0), zz8, H', ⟨Nat.le_refl _⟩, ⟨zz32⟩⟩
          case round =>
           clear H';obtain ⟨x47_2, rfl, HA, HK2, HB⟩ := hrel
           cases gk with
           | zero => exact absurd HA.out (by simp [qt.l1])
           | succ k2 =>
            have H := HA.out;clear HA;simp only [qt.l1] at H;by_cases c14 : x47_2 < x11_1
            ·rw [if_pos c14] at H;have c14b0 : decide (x47_2 < x11_1) = true := decide_eq_true c14;clear c14;by_cases c15 : 0 ≤ x11_1
             ·rw [if_pos c15] at H;have c15b0 : decide (0 ≤ x11_1) = true := decide_eq_true c15;clear c15;by_cases c16 : x11_1 < (l0.length : Int)
              ·rw [if_pos c16] at H;have c16b0 : decide (x11_1 < (l0.length : Int)) = true := decide_eq_true c16;clear c16;by_cases c17 : ((qf l0 x11_1).f3).toList = ([] : List UInt8)
               ·rw [if_pos c17] at H;have c17b0 : (((qf l0 x11_1).f3).toList == ([] : List UInt8)) = true := beq_iff_eq.mpr c17;have c17b1 : (((qf l0 x11_1).f3).toList != ([] : List UInt8)) = false := bne_eq_false_iff_eq.mpr c17
                (try (have c17b2 : List.isEmpty (((qf l0 x11_1).f3).toList) = true := by simpa using c17))
                clear c17;have H' := qa.mk H;clear H;(try go_wp2);have n0_ := qa.mk (qd HB.out);clear HB;have HB := n0_;clear n0_;have p433 : 0 ≤ (x11_1 : Int) := of_decide_eq_true zz13;have q433 : x11_1 < (l0.length : Int) := of_decide_eq_true zz13;obtain ⟨ad433, A433_5, c433_5, e433, hx433_0, hx433_1, hx433_2, hx433_3, hx433_4, hx433_5, hl433_5, hi433_5⟩ := qzc HR0.out x11_1 p433 q433;have hw433_5 := hx433_5;have hw433_4 := hx433_4;have hw433_3 := hx433_3;have hw433_2 := hx433_2;have hw433_1 := hx433_1;have hw433_0 := hx433_0;obtain rfl : ad428 = ad433 := (by injection e433);replace hx433_0 := cx HB hx433_0;replace hx433_1 := cx HB hx433_1;replace hx433_2 := cx HB hx433_2;replace hx433_3 := cx HB hx433_3;replace hx433_4 := cx HB hx433_4;replace hx433_5 := cx HB hx433_5;have HR433_5 := qa.mk hi433_5;have HC433_5 := qa.mk hl433_5;clear hi433_5 hl433_5;replace p433 := eq_true p433;replace q433 := eq_true q433;refine start_ (n := 32) (S := fun w' => w'.cell? (ad428.add ((x11_1).toNat * 6)) = some (.int .i64 ((qf l0 x11_1).f0)) ∧ w'.cell? ⟨(ad428.add ((x11_1).toNat * 6)).block, (ad428.add ((x11_1).toNat * 6)).off + 1, none⟩ = some (.int .i64 ((qf l0 x11_1).f1)) ∧ w'.cell? ⟨(ad428.add ((x11_1).toNat * 6)).block, (ad428.add ((x11_1).toNat * 6)).off + 2, none⟩ = some (.string ((qf l0 x11_1).f2)) ∧ w'.cell? ⟨(ad428.add ((x11_1).toNat * 6)).block, (ad428.add ((x11_1).toNat * 6)).off + 3, none⟩ = some (.string ((qf l0 x11_1).f3)) ∧ w'.cell? ⟨(ad428.add ((x11_1).toNat * 6)).block, (ad428.add ((x11_1).toNat * 6)).off + 4, none⟩ = some (.string ((qf l0 x11_1).f4)) ∧ w'.cell? ⟨(ad428.add ((x11_1).toNat * 6)).block, (ad428.add ((x11_1).toNat * 6)).off + 5, none⟩ = some (.slice A433_5 ((qf l0 x11_1).f5).length c433_5)) (ds := []) (bb 32 0) (by kernel_rfl) rfl rfl ⟨(cx HB hw433_0), (cx HB hw433_1), (cx HB hw433_2), (cx HB hw433_3), (cx HB hw433_4), (cx HB hw433_5)⟩ (fun hHeld => ?_); refine with_tabW qt.tab16 qt.bits16 (fun HT_ HW_ => ?_);generalize wr.drew = w18 at HB HR433_5 hx433_0 hx433_1 hx433_2 hx433_3 hx433_4 hx433_5 hHeld ⊢;refine pS 0 (some 50) (bb 32 1) ?_;refine pS 1 (some 51) (bb 32 3) ?_;refine pS 2 (some 52) (bb 32 7) ?_;refine pS 3 (some 53) (bb 32 15) ?_;refine tS 4 (some 54) (bb 32 31) rfl hHeld zz24 ?_;refine pS 5 (some 55) (bb 32 63) ?_;refine pS 6 (some 56) (bb 32 127) ?_;refine pU 7 (some 57) (bb 32 255) ?_;refine pU 8 (some 58) (bb 32 511) ?_;refine pU 9 (some 59) (bb 32 1023) ?_;refine pU 10 (some 60) (bb 32 2047) ?_;refine pU 11 (some 61) (bb 32 4095) ?_;refine pU 12 (some 62) (bb 32 8191) ?_;refine pU 13 (some 63) (bb 32 16383) ?_;refine pU 14 (some 64) (bb 32 32767) ?_;refine pU 15 (some 65) (bb 32 65535) ?_;refine pU 16 (some 66) (bb 32 131071) ?_;refine pU 17 (some 67) (bb 32 262143) ?_;refine pS 18 (some 68) (bb 32 524287) ?_;refine pS 19 (some 69) (bb 32 1048575) ?_;refine pU 20 (some 70) (bb 32 2097151) ?_;refine pU 21 (some 71) (bb 32 4194303) ?_;refine pU 22 (some 72) (bb 32 8388607) ?_;refine pU 23 (some 73) (bb 32 16777215) ?_;refine pU 24 (some 74) (bb 32 33554431) ?_;refine pU 25 (some 75) (bb 32 67108863) ?_;refine pU 26 (some 76) (bb 32 134217727) ?_;refine pU 27 (some 77) (bb 32 268435455) ?_;refine pU 28 (some 78) (bb 32 536870911) ?_;refine pU 29 (some 79) (bb 32 1073741823) ?_;refine pU 30 (some 80) (bb 32 2147483647) ?_;refine pS 31 (some 81) (bb 32 4294967295) ?_;refine done_ (done_of HT_.out (by kernel_rfl)) ?_;(try go_wp2);go_roundg k2
                case measure => have := HK1.out; have := HK2.out; omega
                case rel => exact ⟨(wrap64 (x47_2 + 1)), zz8, H', ⟨zz6⟩, ⟨zz32⟩⟩
               ·rw [if_neg c17] at H;have c17b0 : (((qf l0 x11_1).f3).toList == ([] : List UInt8)) = false := beq_eq_false_iff_ne.mpr c17;have c17b1 : (((qf l0 x11_1).f3).toList != ([] : List UInt8)) = true := bne_iff_ne.mpr c17
                (try (have c17b2 : List.isEmpty (((qf l0 x11_1).f3).toList) = false := by simpa using c17))
                by_cases c19 : 0 ≤ x47_2
                ·rw [if_pos c19] at H;have c19b0 : decide (0 ≤ x47_2) = true := decide_eq_true c19;clear c19;by_cases c20 : x47_2 < (l0.length : Int)
                 ·rw [if_pos c20] at H;have c20b0 : decide (x47_2 < (l0.length : Int)) = true := decide_eq_true c20;clear c20;by_cases c21 : ((qf l0 x47_2).f1) = ((qf l0 x11_1).f1)
                  ·rw [if_pos c21] at H;have c21b0 : (((qf l0 x47_2).f1) == ((qf l0 x11_1).f1)) = true := beq_iff_eq.mpr c21;have c21b1 : (((qf l0 x47_2).f1) != ((qf l0 x11_1).f1)) = false := bne_eq_false_iff_eq.mpr c21;clear c21;by_cases c22 : ((qf l0 x47_2).f3).toList = ((qf l0 x11_1).f3).toList
                   ·rw [if_pos c22] at H;have c22b0 : (((qf l0 x47_2).f3).toList == ((qf l0 x11_1).f3).toList) = true := beq_iff_eq.mpr c22;have c22b1 : (((qf l0 x47_2).f3).toList != ((qf l0 x11_1).f3).toList) = false := bne_eq_false_iff_eq.mpr c22;clear c22;obtain rfl := Option.some.inj H;(try go_wp2);have n0_ := qa.mk (qd HB.out);clear HB;have HB := n0_;clear n0_;have p433 : 0 ≤ (x11_1 : Int) := of_decide_eq_true zz13;have q433 : x11_1 < (l0.length : Int) := of_decide_eq_true zz13;obtain ⟨ad433, A433_5, c433_5, e433, hx433_0, hx433_1, hx433_2, hx433_3, hx433_4, hx433_5, hl433_5, hi433_5⟩ := qzc HR0.out x11_1 p433 q433;have hw433_5 := hx433_5;have hw433_4 := hx433_4;have hw433_3 := hx433_3;have hw433_2 := hx433_2;have hw433_1 := hx433_1;have hw433_0 := hx433_0;obtain rfl : ad428 = ad433 := (by injection e433);replace hx433_0 := cx HB hx433_0;replace hx433_1 := cx HB hx433_1;replace hx433_2 := cx HB hx433_2;replace hx433_3 := cx HB hx433_3;replace hx433_4 := cx HB hx433_4;replace hx433_5 := cx HB hx433_5;have HR433_5 := qa.mk hi433_5;have HC433_5 := qa.mk hl433_5;clear hi433_5 hl433_5;replace p433 := eq_true p433;replace q433 := eq_true q433;have p434 : 0 ≤ (x47_2 : Int) := of_decide_eq_true zz13;have q434 : x47_2 < (l0.length : Int) := of_decide_eq_true zz13;obtain ⟨ad434, A434_5, c434_5, e434, hx434_0, hx434_1, hx434_2, hx434_3, hx434_4, hx434_5, hl434_5, hi434_5⟩ := qzc HR0.out x47_2 p434 q434;have hw434_5 := hx434_5;have hw434_4 := hx434_4;have hw434_3 := hx434_3;have hw434_2 := hx434_2;have hw434_1 := hx434_1;have hw434_0 := hx434_0;obtain rfl : ad428 = ad434 := (by injection e434);replace hx434_0 := cx HB hx434_0;replace hx434_1 := cx HB hx434_1;replace hx434_2 := cx HB hx434_2;replace hx434_3 := cx HB hx434_3;replace hx434_4 := cx HB hx434_4;replace hx434_5 := cx HB hx434_5;have HR434_5 := qa.mk hi434_5;have HC434_5 := qa.mk hl434_5;clear hi434_5 hl434_5;replace p434 := eq_true p434;replace q434 := eq_true q434;have p435 : 0 ≤ (x11_1 : Int) := of_decide_eq_true zz13;have q435 : x11_1 < (l0.length : Int) := of_decide_eq_true zz13;obtain ⟨ad435, A435_5, c435_5, e435, hx435_0, hx435_1, hx435_2, hx435_3, hx435_4, hx435_5, hl435_5, hi435_5⟩ := qzc HR0.out x11_1 p435 q435;have hw435_5 := hx435_5;have hw435_4 := hx435_4;have hw435_3 := hx435_3;have hw435_2 := hx435_2;have hw435_1 := hx435_1;have hw435_0 := hx435_0;obtain rfl : ad428 = ad435 := (by injection e435);replace hx435_0 := cx HB hx435_0;replace hx435_1 := cx HB hx435_1;replace hx435_2 := cx HB hx435_2;replace hx435_3 := cx HB hx435_3;replace hx435_4 := cx HB hx435_4;replace hx435_5 := cx HB hx435_5;have HR435_5 := qa.mk hi435_5;have HC435_5 := qa.mk hl435_5;clear hi435_5 hl435_5;replace p435 := eq_true p435;replace q435 := eq_true q435;have ea_ := Option.some.inj (hx433_5.symm.trans hx435_5);injection ea_ with ea_ en_ ec_;subst ea_;subst ec_;clear en_;have p436 : 0 ≤ (x47_2 : Int) := of_decide_eq_true zz13;have q436 : x47_2 < (l0.length : Int) := of_decide_eq_true zz13;obtain ⟨ad436, A436_5, c436_5, e436, hx436_0, hx436_1, hx436_2, hx436_3, hx436_4, hx436_5, hl436_5, hi436_5⟩ := qzc HR0.out x47_2 p436 q436;have hw436_5 := hx436_5;have hw436_4 := hx436_4;have hw436_3 := hx436_3;have hw436_2 := hx436_2;have hw436_1 := hx436_1;have hw436_0 := hx436_0;obtain rfl : ad428 = ad436 := (by injection e436);replace hx436_0 := cx HB hx436_0;replace hx436_1 := cx HB hx436_1;replace hx436_2 := cx HB hx436_2;replace hx436_3 := cx HB hx436_3;replace hx436_4 := cx HB hx436_4;replace hx436_5 := cx HB hx436_5;have HR436_5 := qa.mk hi436_5;have HC436_5 := qa.mk hl436_5;clear hi436_5 hl436_5;replace p436 := eq_true p436;replace q436 := eq_true q436;have ea_ := Option.some.inj (hx434_5.symm.trans hx436_5);injection ea_ with ea_ en_ ec_;subst ea_;subst ec_;clear en_;have p437 : 0 ≤ (x11_1 : Int) := of_decide_eq_true zz13;have q437 : x11_1 < (l0.length : Int) := of_decide_eq_true zz13;obtain ⟨ad437, A437_5, c437_5, e437, hx437_0, hx437_1, hx437_2, hx437_3, hx437_4, hx437_5, hl437_5, hi437_5⟩ := qzc HR0.out x11_1 p437 q437;have hw437_5 := hx437_5;have hw437_4 := hx437_4;have hw437_3 := hx437_3;have hw437_2 := hx437_2;have hw437_1 := hx437_1;have hw437_0 := hx437_0;obtain rfl : ad428 = ad437 := (by injection e437);replace hx437_0 := cx HB hx437_0;replace hx437_1 := cx HB hx437_1;replace hx437_2 := cx HB hx437_2;replace hx437_3 := cx HB hx437_3;replace hx437_4 := cx HB hx437_4;replace hx437_5 := cx HB hx437_5;have HR437_5 := qa.mk hi437_5;have HC437_5 := qa.mk hl437_5;clear hi437_5 hl437_5;replace p437 := eq_true p437;replace q437 := eq_true q437;have ea_ := Option.some.inj (hx433_5.symm.trans hx437_5);injection ea_ with ea_ en_ ec_;subst ea_;subst ec_;clear en_;refine start_ (n := 32) (S := fun w' => w'.cell? (ad428.add ((x11_1).toNat * 6)) = some (.int .i64 ((qf l0 x11_1).f0)) ∧ w'.cell? ⟨(ad428.add ((x11_1).toNat * 6)).block, (ad428.add ((x11_1).toNat * 6)).off + 1, none⟩ = some (.int .i64 ((qf l0 x11_1).f1)) ∧ w'.cell? ⟨(ad428.add ((x11_1).toNat * 6)).block, (ad428.add ((x11_1).toNat * 6)).off + 2, none⟩ = some (.string ((qf l0 x11_1).f2)) ∧ w'.cell? ⟨(ad428.add ((x11_1).toNat * 6)).block, (ad428.add ((x11_1).toNat * 6)).off + 3, none⟩ = some (.string ((qf l0 x11_1).f3)) ∧ w'.cell? ⟨(ad428.add ((x11_1).toNat * 6)).block, (ad428.add ((x11_1).toNat * 6)).off + 4, none⟩ = some (.string ((qf l0 x11_1).f4)) ∧ w'.cell? ⟨(ad428.add ((x11_1).toNat * 6)).block, (ad428.add ((x11_1).toNat * 6)).off + 5, none⟩ = some (.slice A433_5 ((qf l0 x11_1).f5).length c433_5) ∧ w'.cell? (ad428.add ((x47_2).toNat * 6)) = some (.int .i64 ((qf l0 x47_2).f0)) ∧ w'.cell? ⟨(ad428.add ((x47_2).toNat * 6)).block, (ad428.add ((x47_2).toNat * 6)).off + 1, none⟩ = some (.int .i64 ((qf l0 x47_2).f1)) ∧ w'.cell? ⟨(ad428.add ((x47_2).toNat * 6)).block, (ad428.add ((x47_2).toNat * 6)).off + 2, none⟩ = some (.string ((qf l0 x47_2).f2)) ∧ w'.cell? ⟨(ad428.add ((x47_2).toNat * 6)).block, (ad428.add ((x47_2).toNat * 6)).off + 3, none⟩ = some (.string ((qf l0 x47_2).f3)) ∧ w'.cell? ⟨(ad428.add ((x47_2).toNat * 6)).block, (ad428.add ((x47_2).toNat * 6)).off + 4, none⟩ = some (.string ((qf l0 x47_2).f4)) ∧ w'.cell? ⟨(ad428.add ((x47_2).toNat * 6)).block, (ad428.add ((x47_2).toNat * 6)).off + 5, none⟩ = some (.slice A434_5 ((qf l0 x47_2).f5).length c434_5)) (ds := []) (bb 32 0) (by kernel_rfl) rfl rfl ⟨(cx HB hw433_0), (cx HB hw433_1), (cx HB hw433_2), (cx HB hw433_3), (cx HB hw433_4), (cx HB hw433_5), (cx HB hw434_0), (cx HB hw434_1), (cx HB hw434_2), (cx HB hw434_3), (cx HB hw434_4), (cx HB hw434_5)⟩ (fun hHeld => ?_); refine with_tabW qt.tab16 qt.bits16 (fun HT_ HW_ => ?_);generalize wr.drew = w23 at HB HR433_5 HR434_5 HR435_5 HR436_5 HR437_5 hx433_0 hx433_1 hx433_2 hx433_3 hx433_4 hx433_5 hx434_0 hx434_1 hx434_2 hx434_3 hx434_4 hx434_5 hx435_0 hx435_1 hx435_2 hx435_3 hx435_4 hx435_5 hx436_0 hx436_1 hx436_2 hx436_3 hx436_4 hx436_5 hx437_0 hx437_1 hx437_2 hx437_3 hx437_4 hx437_5 hHeld ⊢;refine pS 0 (some 50) (bb 32 1) ?_;refine pS 1 (some 51) (bb 32 3) ?_;refine pS 2 (some 52) (bb 32 7) ?_;refine pS 3 (some 53) (bb 32 15) ?_;refine tS 4 (some 54) (bb 32 31) rfl hHeld zz29 ?_;refine pS 5 (some 55) (bb 32 63) ?_;refine pS 6 (some 56) (bb 32 127) ?_;refine pS 7 (some 57) (bb 32 255) ?_;refine pS 8 (some 58) (bb 32 511) ?_;refine pS 9 (some 59) (bb 32 1023) ?_;refine pS 10 (some 60) (bb 32 2047) ?_;refine pS 12 (some 62) (bb 32 6143) ?_;refine pS 13 (some 63) (bb 32 14335) ?_;refine pS 14 (some 64) (bb 32 30719) ?_;refine pS 15 (some 65) (bb 32 63487) ?_;refine tS 11 (some 61) (bb 32 65535) rfl hHeld zz29 ?_;refine tS 16 (some 66) (bb 32 131071) rfl hHeld zz29 ?_;refine pS 17 (some 67) (bb 32 262143) ?_;refine pS 18 (some 68) (bb 32 524287) ?_;refine pS 19 (some 69) (bb 32 1048575) ?_;refine pS 20 (some 70) (bb 32 2097151) ?_;refine pS 21 (some 71) (bb 32 4194303) ?_;refine pS 22 (some 72) (bb 32 8388607) ?_;refine pS 23 (some 73) (bb 32 16777215) ?_;refine pS 25 (some 75) (bb 32 50331647) ?_;refine pS 26 (some 76) (bb 32 117440511) ?_;refine pS 27 (some 77) (bb 32 251658239) ?_;refine pS 28 (some 78) (bb 32 520093695) ?_;refine tS 24 (some 74) (bb 32 536870911) rfl hHeld zz29 ?_;refine tS 29 (some 79) (bb 32 1073741823) rfl hHeld zz29 ?_;refine pS 30 (some 80) (bb 32 2147483647) ?_;refine pS 31 (some 81) (bb 32 4294967295) ?_;refine done_ (done_of HT_.out (by kernel_rfl)) ?_;(try go_wp2);go_ret;exact ⟨zz98, zz32⟩
                   ·rw [if_neg c22] at H;have c22b0 : (((qf l0 x47_2).f3).toList == ((qf l0 x11_1).f3).toList) = false := beq_eq_false_iff_ne.mpr c22;have c22b1 : (((qf l0 x47_2).f3).toList != ((qf l0 x11_1).f3).toList) = true := bne_iff_ne.mpr c22;have H' := qa.mk H;clear H;(try go_wp2);have n0_ := qa.mk (qd HB.out);clear HB;have HB := n0_;clear n0_;have p433 : 0 ≤ (x11_1 : Int) := of_decide_eq_true zz13;have q433 : x11_1 < (l0.length : Int) := of_decide_eq_true zz13;obtain ⟨ad433, A433_5, c433_5, e433, hx433_0, hx433_1, hx433_2, hx433_3, hx433_4, hx433_5, hl433_5, hi433_5⟩ := qzc HR0.out x11_1 p433 q433;have hw433_5 := hx433_5;have hw433_4 := hx433_4;have hw433_3 := hx433_3;have hw433_2 := hx433_2;have hw433_1 := hx433_1;have hw433_0 := hx433_0;obtain rfl : ad428 = ad433 := (by injection e433);replace hx433_0 := cx HB hx433_0;replace hx433_1 := cx HB hx433_1;replace hx433_2 := cx HB hx433_2;replace hx433_3 := cx HB hx433_3;replace hx433_4 := cx HB hx433_4;replace hx433_5 := cx HB hx433_5;have HR433_5 := qa.mk hi433_5;have HC433_5 := qa.mk hl433_5;clear hi433_5 hl433_5;replace p433 := eq_true p433;replace q433 := eq_true q433;have p434 : 0 ≤ (x47_2 : Int) := of_decide_eq_true zz13;have q434 : x47_2 < (l0.length : Int) := of_decide_eq_true zz13;obtain ⟨ad434, A434_5, c434_5, e434, hx434_0, hx434_1, hx434_2, hx434_3, hx434_4, hx434_5, hl434_5, hi434_5⟩ := qzc HR0.out x47_2 p434 q434;have hw434_5 := hx434_5;have hw434_4 := hx434_4;have hw434_3 := hx434_3;have hw434_2 := hx434_2;have hw434_1 := hx434_1;have hw434_0 := hx434_0;obtain rfl : ad428 = ad434 := (by injection e434);replace hx434_0 := cx HB hx434_0;replace hx434_1 := cx HB hx434_1;replace hx434_2 := cx HB hx434_2;replace hx434_3 := cx HB hx434_3;replace hx434_4 := cx HB hx434_4;replace hx434_5 := cx HB hx434_5;have HR434_5 := qa.mk hi434_5;have HC434_5 := qa.mk hl434_5;clear hi434_5 hl434_5;replace p434 := eq_true p434;replace q434 := eq_true q434;have p435 : 0 ≤ (x11_1 : Int) := of_decide_eq_true zz13;have q435 : x11_1 < (l0.length : Int) := of_decide_eq_true zz13;obtain ⟨ad435, A435_5, c435_5, e435, hx435_0, hx435_1, hx435_2, hx435_3, hx435_4, hx435_5, hl435_5, hi435_5⟩ := qzc HR0.out x11_1 p435 q435;have hw435_5 := hx435_5;have hw435_4 := hx435_4;have hw435_3 := hx435_3;have hw435_2 := hx435_2;have hw435_1 := hx435_1;have hw435_0 := hx435_0;obtain rfl : ad428 = ad435 := (by injection e435);replace hx435_0 := cx HB hx435_0;replace hx435_1 := cx HB hx435_1;replace hx435_2 := cx HB hx435_2;replace hx435_3 := cx HB hx435_3;replace hx435_4 := cx HB hx435_4;replace hx435_5 := cx HB hx435_5;have HR435_5 := qa.mk hi435_5;have HC435_5 := qa.mk hl435_5;clear hi435_5 hl435_5;replace p435 := eq_true p435;replace q435 := eq_true q435;have ea_ := Option.some.inj (hx433_5.symm.trans hx435_5);injection ea_ with ea_ en_ ec_;subst ea_;subst ec_;clear en_;have p436 : 0 ≤ (x47_2 : Int) := of_decide_eq_true zz13;have q436 : x47_2 < (l0.length : Int) := of_decide_eq_true zz13;obtain ⟨ad436, A436_5, c436_5, e436, hx436_0, hx436_1, hx436_2, hx436_3, hx436_4, hx436_5, hl436_5, hi436_5⟩ := qzc HR0.out x47_2 p436 q436;have hw436_5 := hx436_5;have hw436_4 := hx436_4;have hw436_3 := hx436_3;have hw436_2 := hx436_2;have hw436_1 := hx436_1;have hw436_0 := hx436_0;obtain rfl : ad428 = ad436 := (by injection e436);replace hx436_0 := cx HB hx436_0;replace hx436_1 := cx HB hx436_1;replace hx436_2 := cx HB hx436_2;replace hx436_3 := cx HB hx436_3;replace hx436_4 := cx HB hx436_4;replace hx436_5 := cx HB hx436_5;have HR436_5 := qa.mk hi436_5;have HC436_5 := qa.mk hl436_5;clear hi436_5 hl436_5;replace p436 := eq_true p436;replace q436 := eq_true q436;have ea_ := Option.some.inj (hx434_5.symm.trans hx436_5);injection ea_ with ea_ en_ ec_;subst ea_;subst ec_;clear en_;have p437 : 0 ≤ (x11_1 : Int) := of_decide_eq_true zz13;have q437 : x11_1 < (l0.length : Int) := of_decide_eq_true zz13;obtain ⟨ad437, A437_5, c437_5, e437, hx437_0, hx437_1, hx437_2, hx437_3, hx437_4, hx437_5, hl437_5, hi437_5⟩ := qzc HR0.out x11_1 p437 q437;have hw437_5 := hx437_5;have hw437_4 := hx437_4;have hw437_3 := hx437_3;have hw437_2 := hx437_2;have hw437_1 := hx437_1;have hw437_0 := hx437_0;obtain rfl : ad428 = ad437 := (by injection e437);replace hx437_0 := cx HB hx437_0;replace hx437_1 := cx HB hx437_1;replace hx437_2 := cx HB hx437_2;replace hx437_3 := cx HB hx437_3;replace hx437_4 := cx HB hx437_4;replace hx437_5 := cx HB hx437_5;have HR437_5 := qa.mk hi437_5;have HC437_5 := qa.mk hl437_5;clear hi437_5 hl437_5;replace p437 := eq_true p437;replace q437 := eq_true q437;have ea_ := Option.some.inj (hx433_5.symm.trans hx437_5);injection ea_ with ea_ en_ ec_;subst ea_;subst ec_;clear en_;refine start_ (n := 32) (S := fun w' => w'.cell? (ad428.add ((x11_1).toNat * 6)) = some (.int .i64 ((qf l0 x11_1).f0)) ∧ w'.cell? ⟨(ad428.add ((x11_1).toNat * 6)).block, (ad428.add ((x11_1).toNat * 6)).off + 1, none⟩ = some (.int .i64 ((qf l0 x11_1).f1)) ∧ w'.cell? ⟨(ad428.add ((x11_1).toNat * 6)).block, (ad428.add ((x11_1).toNat * 6)).off + 2, none⟩ = some (.string ((qf l0 x11_1).f2)) ∧ w'.cell? ⟨(ad428.add ((x11_1).toNat * 6)).block, (ad428.add ((x11_1).toNat * 6)).off + 3, none⟩ = some (.string ((qf l0 x11_1).f3)) ∧ w'.cell? ⟨(ad428.add ((x11_1).toNat * 6)).block, (ad428.add ((x11_1).toNat * 6)).off + 4, none⟩ = some (.string ((qf l0 x11_1).f4)) ∧ w'.cell? ⟨(ad428.add ((x11_1).toNat * 6)).block, (ad428.add ((x11_1).toNat * 6)).off + 5, none⟩ = some (.slice A433_5 ((qf l0 x11_1).f5).length c433_5) ∧ w'.cell? (ad428.add ((x47_2).toNat * 6)) = some (.int .i64 ((qf l0 x47_2).f0)) ∧ w'.cell? ⟨(ad428.add ((x47_2).toNat * 6)).block, (ad428.add ((x47_2).toNat * 6)).off + 1, none⟩ = some (.int .i64 ((qf l0 x47_2).f1)) ∧ w'.cell? ⟨(ad428.add ((x47_2).toNat * 6)).block, (ad428.add ((x47_2).toNat * 6)).off + 2, none⟩ = some (.string ((qf l0 x47_2).f2)) ∧ w'.cell? ⟨(ad428.add ((x47_2).toNat * 6)).block, (ad428.add ((x47_2).toNat * 6)).off + 3, none⟩ = some (.string ((qf l0 x47_2).f3)) ∧ w'.cell? ⟨(ad428.add ((x47_2).toNat * 6)).block, (ad428.add ((x47_2).toNat * 6)).off + 4, none⟩ = some (.string ((qf l0 x47_2).f4)) ∧ w'.cell? ⟨(ad428.add ((x47_2).toNat * 6)).block, (ad428.add ((x47_2).toNat * 6)).off + 5, none⟩ = some (.slice A434_5 ((qf l0 x47_2).f5).length c434_5)) (ds := []) (bb 32 0) (by kernel_rfl) rfl rfl ⟨(cx HB hw433_0), (cx HB hw433_1), (cx HB hw433_2), (cx HB hw433_3), (cx HB hw433_4), (cx HB hw433_5), (cx HB hw434_0), (cx HB hw434_1), (cx HB hw434_2), (cx HB hw434_3), (cx HB hw434_4), (cx HB hw434_5)⟩ (fun hHeld => ?_); refine with_tabW qt.tab16 qt.bits16 (fun HT_ HW_ => ?_);generalize wr.drew = w24 at HB HR433_5 HR434_5 HR435_5 HR436_5 HR437_5 hx433_0 hx433_1 hx433_2 hx433_3 hx433_4 hx433_5 hx434_0 hx434_1 hx434_2 hx434_3 hx434_4 hx434_5 hx435_0 hx435_1 hx435_2 hx435_3 hx435_4 hx435_5 hx436_0 hx436_1 hx436_2 hx436_3 hx436_4 hx436_5 hx437_0 hx437_1 hx437_2 hx437_3 hx437_4 hx437_5 hHeld ⊢;refine pS 0 (some 50) (bb 32 1) ?_;refine pS 1 (some 51) (bb 32 3) ?_;refine pS 2 (some 52) (bb 32 7) ?_;refine pS 3 (some 53) (bb 32 15) ?_;refine tS 4 (some 54) (bb 32 31) rfl hHeld zz29 ?_;refine pS 5 (some 55) (bb 32 63) ?_;refine pS 6 (some 56) (bb 32 127) ?_;refine pS 7 (some 57) (bb 32 255) ?_;refine pS 8 (some 58) (bb 32 511) ?_;refine pS 9 (some 59) (bb 32 1023) ?_;refine pS 10 (some 60) (bb 32 2047) ?_;refine pS 12 (some 62) (bb 32 6143) ?_;refine pS 13 (some 63) (bb 32 14335) ?_;refine pS 14 (some 64) (bb 32 30719) ?_;refine pS 15 (some 65) (bb 32 63487) ?_;refine tS 11 (some 61) (bb 32 65535) rfl hHeld zz29 ?_;refine tS 16 (some 66) (bb 32 131071) rfl hHeld zz29 ?_;refine pS 17 (some 67) (bb 32 262143) ?_;refine pS 18 (some 68) (bb 32 524287) ?_;refine pS 19 (some 69) (bb 32 1048575) ?_;refine pS 20 (some 70) (bb 32 2097151) ?_;refine pS 21 (some 71) (bb 32 4194303) ?_;refine pS 22 (some 72) (bb 32 8388607) ?_;refine pS 23 (some 73) (bb 32 16777215) ?_;refine pS 25 (some 75) (bb 32 50331647) ?_;refine pS 26 (some 76) (bb 32 117440511) ?_;refine pS 27 (some 77) (bb 32 251658239) ?_;refine pS 28 (some 78) (bb 32 520093695) ?_;refine tS 24 (some 74) (bb 32 536870911) rfl hHeld zz29 ?_;refine tS 29 (some 79) (bb 32 1073741823) rfl hHeld zz29 ?_;refine pS 30 (some 80) (bb 32 2147483647) ?_;refine pS 31 (some 81) (bb 32 4294967295) ?_;refine done_ (done_of HT_.out (by kernel_rfl)) ?_;(try go_wp2);go_roundg k2
                    case measure => have := HK1.out; have := HK2.out; omega
                    case rel => exact ⟨(wrap64 (x47_2 + 1)), zz8, H', ⟨zz6⟩, ⟨zz32⟩⟩
                  ·rw [if_neg c21] at H;have c21b0 : (((qf l0 x47_2).f1) == ((qf l0 x11_1).f1)) = false := beq_eq_false_iff_ne.mpr c21;have c21b1 : (((qf l0 x47_2).f1) != ((qf l0 x11_1).f1)) = true := bne_iff_ne.mpr c21;have H' := qa.mk H;clear H;(try go_wp2);have n0_ := qa.mk (qd HB.out);clear HB;have HB := n0_;clear n0_;have p433 : 0 ≤ (x11_1 : Int) := of_decide_eq_true zz13;have q433 : x11_1 < (l0.length : Int) := of_decide_eq_true zz13;obtain ⟨ad433, A433_5, c433_5, e433, hx433_0, hx433_1, hx433_2, hx433_3, hx433_4, hx433_5, hl433_5, hi433_5⟩ := qzc HR0.out x11_1 p433 q433;have hw433_5 := hx433_5;have hw433_4 := hx433_4;have hw433_3 := hx433_3;have hw433_2 := hx433_2;have hw433_1 := hx433_1;have hw433_0 := hx433_0;obtain rfl : ad428 = ad433 := (by injection e433);replace hx433_0 := cx HB hx433_0;replace hx433_1 := cx HB hx433_1;replace hx433_2 := cx HB hx433_2;replace hx433_3 := cx HB hx433_3;replace hx433_4 := cx HB hx433_4;replace hx433_5 := cx HB hx433_5;have HR433_5 := qa.mk hi433_5;have HC433_5 := qa.mk hl433_5;clear hi433_5 hl433_5;replace p433 := eq_true p433;replace q433 := eq_true q433;have p434 : 0 ≤ (x47_2 : Int) := of_decide_eq_true zz13;have q434 : x47_2 < (l0.length : Int) := of_decide_eq_true zz13;obtain ⟨ad434, A434_5, c434_5, e434, hx434_0, hx434_1, hx434_2, hx434_3, hx434_4, hx434_5, hl434_5, hi434_5⟩ := qzc HR0.out x47_2 p434 q434;have hw434_5 := hx434_5;have hw434_4 := hx434_4;have hw434_3 := hx434_3;have hw434_2 := hx434_2;have hw434_1 := hx434_1;have hw434_0 := hx434_0;obtain rfl : ad428 = ad434 := (by injection e434);replace hx434_0 := cx HB hx434_0;replace hx434_1 := cx HB hx434_1;replace hx434_2 := cx HB hx434_2;replace hx434_3 := cx HB hx434_3;replace hx434_4 := cx HB hx434_4;replace hx434_5 := cx HB hx434_5;have HR434_5 := qa.mk hi434_5;have HC434_5 := qa.mk hl434_5;clear hi434_5 hl434_5;replace p434 := eq_true p434;replace q434 := eq_true q434;have p435 : 0 ≤ (x11_1 : Int) := of_decide_eq_true zz13;have q435 : x11_1 < (l0.length : Int) := of_decide_eq_true zz13;obtain ⟨ad435, A435_5, c435_5, e435, hx435_0, hx435_1, hx435_2, hx435_3, hx435_4, hx435_5, hl435_5, hi435_5⟩ := qzc HR0.out x11_1 p435 q435;have hw435_5 := hx435_5;have hw435_4 := hx435_4;have hw435_3 := hx435_3;have hw435_2 := hx435_2;have hw435_1 := hx435_1;have hw435_0 := hx435_0;obtain rfl : ad428 = ad435 := (by injection e435);replace hx435_0 := cx HB hx435_0;replace hx435_1 := cx HB hx435_1;replace hx435_2 := cx HB hx435_2;replace hx435_3 := cx HB hx435_3;replace hx435_4 := cx HB hx435_4;replace hx435_5 := cx HB hx435_5;have HR435_5 := qa.mk hi435_5;have HC435_5 := qa.mk hl435_5;clear hi435_5 hl435_5;replace p435 := eq_true p435;replace q435 := eq_true q435;have ea_ := Option.some.inj (hx433_5.symm.trans hx435_5);injection ea_ with ea_ en_ ec_;subst ea_;subst ec_;clear en_;refine start_ (n := 32) (S := fun w' => w'.cell? (ad428.add ((x11_1).toNat * 6)) = some (.int .i64 ((qf l0 x11_1).f0)) ∧ w'.cell? ⟨(ad428.add ((x11_1).toNat * 6)).block, (ad428.add ((x11_1).toNat * 6)).off + 1, none⟩ = some (.int .i64 ((qf l0 x11_1).f1)) ∧ w'.cell? ⟨(ad428.add ((x11_1).toNat * 6)).block, (ad428.add ((x11_1).toNat * 6)).off + 2, none⟩ = some (.string ((qf l0 x11_1).f2)) ∧ w'.cell? ⟨(ad428.add ((x11_1).toNat * 6)).block, (ad428.add ((x11_1).toNat * 6)).off + 3, none⟩ = some (.string ((qf l0 x11_1).f3)) ∧ w'.cell? ⟨(ad428.add ((x11_1).toNat * 6)).block, (ad428.add ((x11_1).toNat * 6)).off + 4, none⟩ = some (.string ((qf l0 x11_1).f4)) ∧ w'.cell? ⟨(ad428.add ((x11_1).toNat * 6)).block, (ad428.add ((x11_1).toNat * 6)).off + 5, none⟩ = some (.slice A433_5 ((qf l0 x11_1).f5).length c433_5) ∧ w'.cell? (ad428.add ((x47_2).toNat * 6)) = some (.int .i64 ((qf l0 x47_2).f0)) ∧ w'.cell? ⟨(ad428.add ((x47_2).toNat * 6)).block, (ad428.add ((x47_2).toNat * 6)).off + 1, none⟩ = some (.int .i64 ((qf l0 x47_2).f1)) ∧ w'.cell? ⟨(ad428.add ((x47_2).toNat * 6)).block, (ad428.add ((x47_2).toNat * 6)).off + 2, none⟩ = some (.string ((qf l0 x47_2).f2)) ∧ w'.cell? ⟨(ad428.add ((x47_2).toNat * 6)).block, (ad428.add ((x47_2).toNat * 6)).off + 3, none⟩ = some (.string ((qf l0 x47_2).f3)) ∧ w'.cell? ⟨(ad428.add ((x47_2).toNat * 6)).block, (ad428.add ((x47_2).toNat * 6)).off + 4, none⟩ = some (.string ((qf l0 x47_2).f4)) ∧ w'.cell? ⟨(ad428.add ((x47_2).toNat * 6)).block, (ad428.add ((x47_2).toNat * 6)).off + 5, none⟩ = some (.slice A434_5 ((qf l0 x47_2).f5).length c434_5)) (ds := []) (bb 32 0) (by kernel_rfl) rfl rfl ⟨(cx HB hw433_0), (cx HB hw433_1), (cx HB hw433_2), (cx HB hw433_3), (cx HB hw433_4), (cx HB hw433_5), (cx HB hw434_0), (cx HB hw434_1), (cx HB hw434_2), (cx HB hw434_3), (cx HB hw434_4), (cx HB hw434_5)⟩ (fun hHeld => ?_); refine with_tabW qt.tab16 qt.bits16 (fun HT_ HW_ => ?_);generalize wr.drew = w25 at HB HR433_5 HR434_5 HR435_5 hx433_0 hx433_1 hx433_2 hx433_3 hx433_4 hx433_5 hx434_0 hx434_1 hx434_2 hx434_3 hx434_4 hx434_5 hx435_0 hx435_1 hx435_2 hx435_3 hx435_4 hx435_5 hHeld ⊢;refine pS 0 (some 50) (bb 32 1) ?_;refine pS 1 (some 51) (bb 32 3) ?_;refine pS 2 (some 52) (bb 32 7) ?_;refine pS 3 (some 53) (bb 32 15) ?_;refine tS 4 (some 54) (bb 32 31) rfl hHeld zz29 ?_;refine pS 5 (some 55) (bb 32 63) ?_;refine pS 6 (some 56) (bb 32 127) ?_;refine pS 7 (some 57) (bb 32 255) ?_;refine pS 8 (some 58) (bb 32 511) ?_;refine pS 9 (some 59) (bb 32 1023) ?_;refine pS 10 (some 60) (bb 32 2047) ?_;refine pS 12 (some 62) (bb 32 6143) ?_;refine pS 13 (some 63) (bb 32 14335) ?_;refine pS 14 (some 64) (bb 32 30719) ?_;refine pS 15 (some 65) (bb 32 63487) ?_;refine tS 11 (some 61) (bb 32 65535) rfl hHeld zz29 ?_;refine tS 16 (some 66) (bb 32 131071) rfl hHeld zz29 ?_;refine pS 17 (some 67) (bb 32 262143) ?_;refine pS 18 (some 68) (bb 32 524287) ?_;refine pS 19 (some 69) (bb 32 1048575) ?_;refine pU 20 (some 70) (bb 32 2097151) ?_;refine pU 21 (some 71) (bb 32 4194303) ?_;refine pU 22 (some 72) (bb 32 8388607) ?_;refine pU 23 (some 73) (bb 32 16777215) ?_;refine pU 24 (some 74) (bb 32 33554431) ?_;refine pU 25 (some 75) (bb 32 67108863) ?_;refine pU 26 (some 76) (bb 32 134217727) ?_;refine pU 27 (some 77) (bb 32 268435455) ?_;refine pU 28 (some 78) (bb 32 536870911) ?_;refine pU 29 (some 79) (bb 32 1073741823) ?_;refine pU 30 (some 80) (bb 32 2147483647) ?_;refine pS 31 (some 81) (bb 32 4294967295) ?_;refine done_ (done_of HT_.out (by kernel_rfl)) ?_;(try go_wp2);go_roundg k2
                   case measure => have := HK1.out; have := HK2.out; omega
                   case rel => exact ⟨(wrap64 (x47_2 + 1)), zz8, H', ⟨zz6⟩, ⟨zz32⟩⟩
                 ·rw [if_neg c20] at H;exact absurd H (by simp)
                ·rw [if_neg c19] at H;exact absurd H (by simp)
              ·rw [if_neg c16] at H;exact absurd H (by simp)
             ·rw [if_neg c15] at H;exact absurd H (by simp)
            ·rw [if_neg c14] at H;have c14b0 : decide (x47_2 < x11_1) = false := decide_eq_false c14;clear c14;have H' := qa.mk H;clear H;go_wp2;go_roundg k2
             case measure => have := HK1.out; have := HK2.out; omega
             case rel => exact ⟨(wrap64 (x11_1 + 1)), zz8, H', ⟨zz6⟩, ⟨zz32⟩⟩
         ·rw [if_neg c11] at H;have c11b0 : (t432 == 0) = false := beq_eq_false_iff_ne.mpr c11;have c11b1 : (t432 != 0) = true := bne_iff_ne.mpr c11;obtain rfl := Option.some.inj H;try go_wp2_with (first | ((with_reducible refine qv (f := 33) rfl ?_); refine qpb (some 19) rfl rfl Tryz.func33 (by kernel_rfl) rfl #[.slice A0 l0.length c0, .int .i64 (wrap64 (x11_1 + 1))] rfl zz87 ?_; (with_reducible refine (quc.calls k1 _ _ l0 (wrap64 (x11_1 + 1)) t427 _ ?side1 ?side2 A6.out).mono ?_); (case side1 => exact zz124); (case side2 => exact HC0.out); rintro e w' ⟨rfl, ⟨nd, rfl⟩⟩; refine ⟨_, rfl, ?_⟩))
          (try (rw [drewN_self wr]; generalize hq_ : World.drewN wr _ = wr; have n0_ : qa (Below w.heap.size w wr) := ⟨(by rw [← hq_]; exact zz32)⟩; clear HB hq_; have HB := n0_; clear n0_))
          have n0_ := qa.mk (qd HB.out);clear HB;have HB := n0_;clear n0_;have p428 : 0 ≤ (x11_1 : Int) := of_decide_eq_true zz13;have q428 : x11_1 < (l0.length : Int) := of_decide_eq_true zz13;obtain ⟨ad428, A428_5, c428_5, e428, hx428_0, hx428_1, hx428_2, hx428_3, hx428_4, hx428_5, hl428_5, hi428_5⟩ := qzc HR0.out x11_1 p428 q428;have hw428_5 := hx428_5;have hw428_4 := hx428_4;have hw428_3 := hx428_3;have hw428_2 := hx428_2;have hw428_1 := hx428_1;have hw428_0 := hx428_0;cases e428;replace hx428_0 := cx HB hx428_0;replace hx428_1 := cx HB hx428_1;replace hx428_2 := cx HB hx428_2;replace hx428_3 := cx HB hx428_3;replace hx428_4 := cx HB hx428_4;replace hx428_5 := cx HB hx428_5;have HR428_5 := qa.mk hi428_5;have HC428_5 := qa.mk hl428_5;clear hi428_5 hl428_5;replace p428 := eq_true p428;replace q428 := eq_true q428;refine start_ (n := 23) (S := fun w' => w'.cell? (ad428.add ((x11_1).toNat * 6)) = some (.int .i64 ((qf l0 x11_1).f0)) ∧ w'.cell? ⟨(ad428.add ((x11_1).toNat * 6)).block, (ad428.add ((x11_1).toNat * 6)).off + 1, none⟩ = some (.int .i64 ((qf l0 x11_1).f1)) ∧ w'.cell? ⟨(ad428.add ((x11_1).toNat * 6)).block, (ad428.add ((x11_1).toNat * 6)).off + 2, none⟩ = some (.string ((qf l0 x11_1).f2)) ∧ w'.cell? ⟨(ad428.add ((x11_1).toNat * 6)).block, (ad428.add ((x11_1).toNat * 6)).off + 3, none⟩ = some (.string ((qf l0 x11_1).f3)) ∧ w'.cell? ⟨(ad428.add ((x11_1).toNat * 6)).block, (ad428.add ((x11_1).toNat * 6)).off + 4, none⟩ = some (.string ((qf l0 x11_1).f4)) ∧ w'.cell? ⟨(ad428.add ((x11_1).toNat * 6)).block, (ad428.add ((x11_1).toNat * 6)).off + 5, none⟩ = some (.slice A428_5 ((qf l0 x11_1).f5).length c428_5)) (ds := []) (bb 23 0) (by kernel_rfl) rfl rfl ⟨(cx HB hw428_0), (cx HB hw428_1), (cx HB hw428_2), (cx HB hw428_3), (cx HB hw428_4), (cx HB hw428_5)⟩ (fun hHeld => ?_); refine with_tabW qt.tab10 qt.bits10 (fun HT_ HW_ => ?_);generalize wr.drew = w26 at HB HR428_5 hx428_0 hx428_1 hx428_2 hx428_3 hx428_4 hx428_5 hHeld ⊢;refine pS 0 (some 21) (bb 23 1) ?_;refine pS 1 (some 22) (bb 23 3) ?_;refine pS 2 (some 23) (bb 23 7) ?_;refine pS 3 (some 24) (bb 23 15) ?_;refine pS 5 (some 26) (bb 23 47) ?_;refine pS 6 (some 27) (bb 23 111) ?_;refine pS 7 (some 28) (bb 23 239) ?_;refine pS 8 (some 29) (bb 23 495) ?_;refine pS 10 (some 31) (bb 23 1519) ?_;refine pS 11 (some 32) (bb 23 3567) ?_;refine pS 12 (some 33) (bb 23 7663) ?_;refine pS 13 (some 34) (bb 23 15855) ?_;refine pS 15 (some 36) (bb 23 48623) ?_;refine pS 16 (some 37) (bb 23 114159) ?_;refine pS 17 (some 38) (bb 23 245231) ?_;refine pS 18 (some 39) (bb 23 507375) ?_;refine tS 4 (some 25) (bb 23 507391) rfl hHeld zz24 ?_;refine tS 9 (some 30) (bb 23 507903) rfl hHeld zz24 ?_;refine tS 14 (some 35) (bb 23 524287) rfl hHeld zz24 ?_;refine tS 19 (some 40) (bb 23 1048575) rfl hHeld zz24 ?_;refine pS 20 (some 41) (bb 23 2097151) ?_;refine one_ (i := 21) (N := some 42) (bb 23 4194303) rfl rfl (one_of HT_.out (by kernel_rfl)) (by decide) (fun K hK => ?_);refine goes_ Tryz.func34 (by kernel_rfl) rfl #[.agg #[.string ((qf l0 x11_1).f2), .string ((qf l0 x11_1).f3), .string ((qf l0 x11_1).f4), .slice A428_5 ((qf l0 x11_1).f5).length c428_5, .slice none 0 0]] (by rfl) rfl rfl zz87 ?_;refine (qtc.calls k1 ((qf l0 x11_1).f2) ((qf l0 x11_1).f3) ((qf l0 x11_1).f4) _ _ ((qf l0 x11_1).f5) _ _ ([] : List (S86)) t432 _ ?side1 ?side2 ?side3 ?side4 A10.out).mono ?_
          (case side1 => exact zz136)
          (case side2 => exact HC428_5.out)
          (case side3 => exact Kd.C_nil _ _)
          (case side4 => exact Nat.le_refl _)
          rintro e w27 ⟨rfl, hb⟩;refine ⟨_, rfl, ?_⟩;have n0_ := qa.mk (qo zz32 hb);clear HB;have HB := n0_;clear n0_
          (try clear hb)
          (try clear hb2)
          (try clear hk)
          (try clear hi)
          refine hK.out _ _ ⟨(cx HB hw428_0), (cx HB hw428_1), (cx HB hw428_2), (cx HB hw428_3), (cx HB hw428_4), (cx HB hw428_5)⟩ (fun hHeld => ?_);clear hK K;refine norm_ (a' := ?_) ?_ ?_;rotate_left
          ·show Act.put _ (some 42) _ = _;simp only [Act.put, List.setIfInBounds_toArray, List.set_cons_zero, List.set_cons_succ, i64_w, i32_w];rfl
          refine pS 22 (some 4) (bb 23 8388607) ?_;refine done_ (done_of HT_.out (by kernel_rfl)) ?_;(try go_wp2);go_ret;exact ⟨zz98, zz32⟩
        ·rw [if_neg c9] at H;exact absurd H (by simp)
       ·rw [if_neg c8] at H;exact absurd H (by simp)
    ·rw [if_neg c4] at H;have c4b0 : decide (x11_1 < (l0.length : Int)) = false := decide_eq_false c4;clear c4;obtain rfl := Option.some.inj H;go_wp2;go_ret;exact ⟨zz98, zz32⟩
 ·replace c3 := Bool.eq_false_iff.mpr c3;subst c3;(have H1 : (some 2) = some r := by rw [if_neg (show ¬ (false = true) by decide)] at H; exact H);clear H;have H := H1;clear H1;obtain rfl := Option.some.inj H;(go_enter Tryz.func17, Tryz.ntmps17);(go_wp2_with (first | ((with_reducible refine qv (f := 32) rfl ?_); refine qpb (some 7) rfl rfl Tryz.func32 (by kernel_rfl) rfl #[.slice A0 l0.length c0] rfl zz87 ?_; (with_reducible refine (qtb.calls k _ _ l0 false _ ?side1 ?side2 A2.out).mono ?_); (case side1 => exact zz106); (case side2 => exact HC0.out); rintro e w' ⟨rfl, ⟨nd, rfl⟩⟩; refine ⟨_, rfl, ?_⟩)));go_ret;exact ⟨zz98, zz32⟩
end Go.Proofs.YtjbobecnlpiejaaGreatDoor.Q
namespace Go.Proofs.YtjbobecnlpiejaaGreatDoor.Q.P
open Go.Proofs.YtjbobecnlpiejaaGreatDoorZ
open Go.RowKit Go.Proofs.YtjbobecnlpiejaaGreatDoorW.PrintWords Go.Proofs.YtjbobecnlpiejaaGreatDoorW.PrintLast Go.Proofs.YtjbobecnlpiejaaGreatDoorW.PrintMore
theorem Ev.one {α : Type} {g : Nat → Option α} {x y : α} : Ev g x → Ev g y → x = y := fun ⟨K, p⟩ ⟨K2, q⟩ => Option.some.inj ((p (K + K2) (by omega)).symm.trans (q (K + K2) (by omega)))
theorem Formed_l0 (l : List S53) (hl : l.length ≤ 100) (d : Nat) : ∀ i : Nat, i + d = l.length → UpsN l i → ∃ b, Ev (fun k => qtb.l0 k l (l.length : Int) (i : Int)) b ∧ (b = true ↔ ∀ j, i ≤ j → j < l.length → FP l j) := by
 induction d with
 | zero =>
  intro i hi hu;refine ⟨true, Ev.step (fun k => ?_) (Ev.now true), ⟨fun _ j h1 h2 => by omega, fun _ => rfl⟩⟩;rw [qtb.l0, if_neg (by omega)]
 | succ d ih =>
  intro i hi hu;(have hil : i < l.length := by omega);have h1 : (i : Int) < (l.length : Int) := Int.ofNat_lt.2 hil;have h0 : (0 : Int) ≤ (i : Int) := Int.natCast_nonneg i;(have hw : wrap64 ((i : Int) + 1) = ((i + 1 : Nat) : Int) := by rw [w64 (by omega) (by omega)]; omega);have no : ¬ FP l i → ¬ ∀ j, i ≤ j → j < l.length → FP l j := fun h q => h (q i (Nat.le_refl _) hil)
  have yes : ∀ {b : Bool}, FP l i → (b = true ↔ ∀ j, i + 1 ≤ j → j < l.length → FP l j) → (b = true ↔ ∀ j, i ≤ j → j < l.length → FP l j) := fun h q => q.trans ⟨fun r j h1 h2 => by
   rcases Nat.lt_or_ge i j with h3 | h3
   ·exact r j h3 h2
   ·obtain rfl : i = j := by omega
    exact h, fun r j h1 h2 => r j (by omega) h2⟩
  by_cases hi0 : i = 0
  ·subst hi0;by_cases hu0 : up l 0 = 0
   ·(have hf : FP l 0 := by unfold FP; rw [if_pos rfl]; exact hu0);obtain ⟨b, hb, hq⟩ := ih 1 (by omega) (ups_step hu hf);refine ⟨b, Ev.step (fun k => ?_) hb, yes hf hq⟩;rw [qtb.l0, if_pos h1, if_pos (by omega), if_pos h0, if_pos h1, if_pos (show (qf l ((0 : Nat) : Int)).f1 = 0 from hu0), if_neg (by omega), hw]
   ·refine ⟨false, Ev.step (fun k => ?_) (Ev.now false), ⟨nofun, fun q => absurd q (no ?_)⟩⟩
    ·rw [qtb.l0, if_pos h1, if_pos (by omega), if_pos h0, if_pos h1, if_neg (show ¬ (qf l ((0 : Nat) : Int)).f1 = 0 from hu0)]
    ·unfold FP; rw [if_pos rfl]; exact hu0
  ·by_cases hu1 : up l i < 1
   ·refine ⟨false, Ev.step (fun k => ?_) (Ev.now false), ⟨nofun, fun q => absurd q (no ?_)⟩⟩
    ·rw [qtb.l0, if_pos h1, if_neg (by omega), if_pos (by omega), if_pos h0, if_pos h1];exact if_pos hu1
    ·unfold FP; rw [if_neg hi0]; omega
   ·obtain ⟨b, ⟨K, hK⟩, hb⟩ := above_l0 l hl i (by omega) hu (up l i).toNat (by omega) i i (Nat.le_refl _) (Nat.le_refl _);rw [Int.toNat_of_nonneg (by omega)] at hK
    have e : ∀ k, K ≤ k → qtb.l0 (k + 1) l (l.length : Int) (i : Int) = if b = true then qtb.l0 k l (l.length : Int) ((i + 1 : Nat) : Int) else some false := fun k hk => by
     rw [qtb.l0, if_pos h1, if_neg (by omega), if_pos (by omega), if_pos h0, if_pos h1];refine (if_neg hu1).trans ?_;rw [show qlc.f k l (i : Int) (qf l (i : Int)).f1 = some b from hK k hk, Option.bind_some, hw]
    cases b
    ·refine ⟨false, ⟨K + 1, fun k hk => ?_⟩, ⟨nofun, fun q => absurd q (no fun h => ?_)⟩⟩
     ·obtain ⟨k, rfl⟩ : ∃ m, k = m + 1 := ⟨k - 1, by omega⟩;exact e k (by omega)
     ·unfold FP at h; rw [if_neg hi0] at h; exact absurd (hb.2 h.2) (by decide)
    ·(have hf : FP l i := by unfold FP; rw [if_neg hi0]; exact ⟨by omega, hb.1 rfl⟩);obtain ⟨b, ⟨K2, hb⟩, hq⟩ := ih (i + 1) (by omega) (ups_step hu hf);refine ⟨b, ⟨K + K2 + 1, fun k hk => ?_⟩, yes hf hq⟩;obtain ⟨k, rfl⟩ : ∃ m, k = m + 1 := ⟨k - 1, by omega⟩;exact (e k (by omega)).trans (hb k (by omega))
theorem Formed_spec (l : List S53) (hl : l.length ≤ 100) : ∃ b, Ev (fun k => qtb.f k l) b ∧ (b = true ↔ FormedP l) := by
 obtain ⟨b, hb, hq⟩ := Formed_l0 l hl l.length 0 (by omega) (fun j h => by omega);exact ⟨b, hb, hq.trans ⟨fun q j hj => q j (Nat.zero_le _) hj, fun q j _ hj => q j hj⟩⟩
def AloneE (p : S53) (e : Int) : Prop := (∀ ys, Ev (fun k => qbd.f k p.f2 p.f3 p.f4 p.f5 ys) e) ∧ Ev (fun k => qtc.f k p.f2 p.f3 p.f4 p.f5 ([] : List S86)) e
def keyOf (l : List S53) (j : Nat) : List UInt8 := (qf l (j : Int)).f3.toList
def Twice (l : List S53) (j k : Nat) : Prop := up l k = up l j ∧ keyOf l j ≠ [] ∧ keyOf l k = keyOf l j
def RowOK (l : List S53) (j : Nat) : Prop := dep l (j + 1) ≤ 64 ∧ AloneE (qf l (j : Int)) 0 ∧ ∀ k, k < j → ¬ Twice l j k
theorem check13_l1 (l : List S53) (hl : l.length ≤ 100) (i : Nat) (hi : i < l.length) (Q : Prop) (v0 : Int) (h0v : Ev (fun k => qt.l0 k l (l.length : Int) ((i + 1 : Nat) : Int)) v0) (hv0 : v0 = 0 ↔ Q) (d : Nat) :
  ∀ kk : Nat, kk + d = i → ∃ v, Ev (fun k => qt.l1 k l (i : Int) (l.length : Int) (i : Int) (i : Int) (kk : Int)) v ∧ (v = 0 ↔ (∀ k, kk ≤ k → k < i → ¬ Twice l i k) ∧ Q) := by
 have hw : wrap64 ((i : Int) + 1) = ((i + 1 : Nat) : Int) := by rw [w64 (by omega) (by omega)]; omega
 induction d with
 | zero =>
  intro kk hk;refine ⟨v0, Ev.step (fun k => ?_) h0v, hv0.trans ⟨fun q => ⟨fun k h1 h2 => by omega, q⟩, fun q => q.2⟩⟩;rw [qt.l1, if_neg (by omega), hw]
 | succ d ih =>
  intro kk hk;(have hw2 : wrap64 ((kk : Int) + 1) = ((kk + 1 : Nat) : Int) := by rw [w64 (by omega) (by omega)]; omega);obtain ⟨v, hv, hq⟩ := ih (kk + 1) (by omega)
  have go : ¬ Twice l i kk → (v = 0 ↔ (∀ k, kk ≤ k → k < i → ¬ Twice l i k) ∧ Q) := fun hn => hq.trans ⟨fun q => ⟨fun k h1 h2 => by
   rcases Nat.lt_or_ge kk k with h3 | h3
   ·exact q.1 k h3 h2
   ·obtain rfl : kk = k := by omega
    exact hn, q.2⟩, fun q => ⟨fun k h1 h2 => q.1 k (by omega) h2, q.2⟩⟩
  have i0 : (0 : Int) ≤ (i : Int) := Int.natCast_nonneg i;have i1 : (i : Int) < (l.length : Int) := Int.ofNat_lt.2 hi;have k0 : (0 : Int) ≤ (kk : Int) := Int.natCast_nonneg kk;(have k1 : (kk : Int) < (l.length : Int) := by omega);by_cases c1 : (qf l (i : Int)).f3.toList = []
  ·refine ⟨v, Ev.step (fun k => ?_) hv, go fun h => h.2.1 c1⟩;rw [qt.l1, if_pos (by omega), if_pos i0, if_pos i1, if_pos c1, hw2]
  by_cases c2 : (qf l (kk : Int)).f1 = (qf l (i : Int)).f1;rotate_left
  ·refine ⟨v, Ev.step (fun k => ?_) hv, go fun h => c2 h.1⟩;rw [qt.l1, if_pos (by omega), if_pos i0, if_pos i1, if_neg c1, if_pos k0, if_pos k1, if_neg c2, hw2]
  by_cases c3 : (qf l (kk : Int)).f3.toList = (qf l (i : Int)).f3.toList;rotate_left
  ·refine ⟨v, Ev.step (fun k => ?_) hv, go fun h => c3 h.2.2⟩;rw [qt.l1, if_pos (by omega), if_pos i0, if_pos i1, if_neg c1, if_pos k0, if_pos k1, if_pos c2, if_neg c3, hw2]
  ·refine ⟨10, Ev.step (fun k => ?_) (Ev.now 10), ⟨fun h => by omega, fun h => absurd ⟨c2, c1, c3⟩ (h.1 kk (Nat.le_refl _) (by omega))⟩⟩;rw [qt.l1, if_pos (by omega), if_pos i0, if_pos i1, if_neg c1, if_pos k0, if_pos k1, if_pos c2, if_pos c3]
theorem check13_l0 (l : List S53) (hl : l.length ≤ 100) (hu : UpsN l l.length) (ha : ∀ p ∈ l, ∃ e, AloneE p e) (d : Nat) : ∀ i : Nat, i + d = l.length → ∃ v, Ev (fun k => qt.l0 k l (l.length : Int) (i : Int)) v ∧ (v = 0 ↔ ∀ j, i ≤ j → j < l.length → RowOK l j) := by
 induction d with
 | zero =>
  intro i hi;refine ⟨0, Ev.step (fun k => ?_) (Ev.now 0), ⟨fun _ j h1 h2 => by omega, fun _ => rfl⟩⟩;rw [qt.l0, if_neg (by omega)]
 | succ d ih =>
  intro i hi;(have hil : i < l.length := by omega);have i0 : (0 : Int) ≤ (i : Int) := Int.natCast_nonneg i;have i1 : (i : Int) < (l.length : Int) := Int.ofNat_lt.2 hil;(have hw : wrap64 ((i : Int) + 1) = ((i + 1 : Nat) : Int) := by rw [w64 (by omega) (by omega)]; omega);obtain ⟨v0, h0v, hv0⟩ := ih (i + 1) (by omega);obtain ⟨v, ⟨K, hK⟩, hq⟩ := check13_l1 l hl i hil _ v0 h0v hv0 i 0 (by omega);obtain ⟨K2, hK2⟩ := depth_l0 l hl hu (i + 1) (i + 1) 0 (Nat.le_refl _) (by omega) (by omega);obtain ⟨e, he⟩ := ha l[i] (List.getElem_mem _);rw [← rdR l i hil] at he;obtain ⟨K3, hK3⟩ := he.2;have no : ¬ RowOK l i → ∀ {v : Int}, v ≠ 0 → (v = 0 ↔ ∀ j, i ≤ j → j < l.length → RowOK l j) := fun h v hv => ⟨fun q => absurd q hv, fun q => absurd (q i (Nat.le_refl _) hil) h⟩
  have hd : ∀ k, K2 ≤ k → quc.f k l (((i + 1 : Nat) : Int)) = some ((dep l (i + 1) : Nat) : Int) := fun k hk => by
   have := hK2 k hk;rw [Nat.zero_add] at this;exact this
  by_cases c1 : ((dep l (i + 1) : Nat) : Int) > 64
  ·refine ⟨11, ⟨K2 + 1, fun k hk => ?_⟩, no (fun h => by have := h.1; omega) (by decide)⟩;obtain ⟨k, rfl⟩ : ∃ m, k = m + 1 := ⟨k - 1, by omega⟩;show qt.l0 (k + 1) l (l.length : Int) (i : Int) = _;rw [qt.l0, if_pos i1, if_neg (by omega), hw, hd k (by omega), Option.bind_some, if_pos c1]
  by_cases c2 : e = 0;rotate_left
  ·refine ⟨e, ⟨K2 + K3 + 1, fun k hk => ?_⟩, no (fun h => c2 (Ev.one he.2 h.2.1.2)) c2⟩;obtain ⟨k, rfl⟩ : ∃ m, k = m + 1 := ⟨k - 1, by omega⟩;show qt.l0 (k + 1) l (l.length : Int) (i : Int) = _;rw [qt.l0, if_pos i1, if_neg (by omega), hw, hd k (by omega), Option.bind_some, if_neg c1, if_pos i0, if_pos i1, show qtc.f k _ _ _ _ _ = some e from hK3 k (by omega), Option.bind_some, if_neg c2]
  ·subst c2;refine ⟨v, ⟨K + K2 + K3 + 1, fun k hk => ?_⟩, hq.trans ⟨fun q j h1 h2 => ?_, fun q => ⟨fun k h1 h2 => (q i (Nat.le_refl _) hil).2.2 k h2, fun j h1 h2 => q j (by omega) h2⟩⟩⟩
   ·obtain ⟨k, rfl⟩ : ∃ m, k = m + 1 := ⟨k - 1, by omega⟩;show qt.l0 (k + 1) l (l.length : Int) (i : Int) = _;rw [qt.l0, if_pos i1, if_neg (by omega), hw, hd k (by omega), Option.bind_some, if_neg c1, if_pos i0, if_pos i1, show qtc.f k _ _ _ _ _ = some 0 from hK3 k (by omega), Option.bind_some, if_pos rfl];exact hK k (by omega)
   ·rcases Nat.lt_or_ge i j with h3 | h3
    ·exact q.2 j h3 h2
    ·(obtain rfl : i = j := by omega);exact ⟨by omega, he, fun k hk => q.1 k (Nat.zero_le _) hk⟩
theorem check13_spec (l : List S53) (hl : l.length ≤ 100) (ha : ∀ p ∈ l, ∃ e, AloneE p e) : ∃ v, Ev (fun k => qt.f k l) v ∧ (v = 0 ↔ FormedP l ∧ ∀ j, j < l.length → RowOK l j) := by
 obtain ⟨b, ⟨K, hK⟩, hq⟩ := Formed_spec l hl;cases b
 ·refine ⟨2, ⟨K, fun k hk => ?_⟩, ⟨fun h => by omega, fun q => absurd (hq.2 q.1) (by decide)⟩⟩;show qt.f k l = _;rw [qt.f, show qtb.f k l = some false from hK k hk, Option.bind_some, if_neg (by decide)]
 ·have hf := hq.1 rfl;obtain ⟨v, ⟨K2, hK2⟩, hv⟩ := check13_l0 l hl (formed_ups hf) ha l.length 0 (by omega);refine ⟨v, ⟨K + K2, fun k hk => ?_⟩, hv.trans ⟨fun q => ⟨hf, fun j hj => q j (Nat.zero_le _) hj⟩, fun q j _ hj => q.2 j hj⟩⟩;show qt.f k l = _;rw [qt.f, show qtb.f k l = some true from hK k (by omega), Option.bind_some, if_pos rfl];exact hK2 k (by omega)
def NodeE (x : S86) (e : Int) : Prop := ∀ ys, Ev (fun k => qbd.f k x.f0 x.f1 x.f2 x.f3 ys) e
def KidsOK (v : S86 → List ByteArray → Prop) : List S86 → List ByteArray → Prop
 | [], _ => True
 | y :: r, met => v y met ∧ KidsOK v r (qbb.add met y.f1)
def TreeOK : Nat → S86 → Nat → List ByteArray → Prop
 | 0, _, _, _ => False
 | m + 1, x, d, met => d ≤ 64 ∧ NodeE x 0 ∧ qbb.has met x.f1 = false ∧ KidsOK (fun y q => TreeOK m y (d + 1) q) x.f4 []
def szL (s : S86 → Nat) : List S86 → Nat
 | [] => 0
 | y :: r => s y + szL s r
def szT : Nat → S86 → Nat
 | 0, _ => 0
 | m + 1, x => 1 + szL (szT m) x.f4
def GoodT : Nat → S86 → Prop
 | 0, _ => True
 | m + 1, x => x.f1.size ≤ 1000000 ∧ (∃ e, NodeE x e) ∧ ∀ y ∈ x.f4, GoodT m y
structure VisR (nu : Int) (s : Nat) (ok : Prop) (met' : List ByteArray) (t : Bool × Int × Int × Int × List ByteArray) : Prop where
 lo : nu ≤ t.2.1
 hi : t.2.1 ≤ nu + (s : Int)
 ok : t.1 = true ↔ ok
 er : t.1 = true ↔ t.2.2.2.1 = 0
 mt : t.1 = true → t.2.2.2.2 = met' ∧ nu + 1 ≤ t.2.1
def Vis (m : Nat) : Prop := ∀ (x : S86) (d : Nat) (nu de : Int) (met : List ByteArray), d + m = 66 → GoodT m x → 0 ≤ nu → nu + (szT m x : Int) ≤ 4096 → (met.length : Int) ≤ nu → 0 < m →
 ∃ t, Ev (fun k => qbb.visit k x (d : Int) nu de met) t ∧ VisR nu (szT m x) (TreeOK m x d met) (qbb.add met x.f1) t
theorem add_len (met : List ByteArray) (s : ByteArray) : (qbb.add met s).length ≤ met.length + 1 := by
 unfold qbb.add;by_cases h : s.data.toList = []
 ·rw [if_pos h]; omega
 ·rw [if_neg h, List.length_append]; simp
theorem kids_vis (m d : Nat) (hv : Vis m) (hm : 0 < m) (hd : d + 1 + m = 66) : ∀ (l : List S86) (nu de er : Int) (met : List ByteArray), (∀ y ∈ l, GoodT m y) → 0 ≤ nu → nu + (szL (szT m) l : Int) ≤ 4096 → (met.length : Int) ≤ nu →
  ∃ t, Ev (fun k => qbb.kids (fun y a b q => qbb.visit k y ((d : Int) + 1) a b q) l nu de er met) t ∧ nu ≤ t.2.1 ∧ t.2.1 ≤ nu + (szL (szT m) l : Int) ∧ (t.1 = true ↔ KidsOK (fun y q => TreeOK m y (d + 1) q) l met) ∧ (er = 0 → (t.1 = true ↔ t.2.2.2 = 0))
 | [], nu, de, er, met, _, _, _, _ => ⟨(true, nu, de, er), Ev.now _, Int.le_refl _, by simp [szL], ⟨fun _ => trivial, fun _ => rfl⟩, fun h => ⟨fun _ => h, fun _ => rfl⟩⟩
 | y :: r, nu, de, er, met, hg, h0, h1, h2 => by
  unfold szL at h1 ⊢;obtain ⟨t, ⟨K, hK⟩, hr⟩ := hv y (d + 1) nu de met hd (hg y (List.mem_cons_self ..)) h0 (by omega) h2 hm
  have e : ∀ k, K ≤ k → qbb.kids (fun y a b q => qbb.visit k y ((d : Int) + 1) a b q) (y :: r) nu de er met = if t.1 = true then qbb.kids (fun y a b q => qbb.visit k y ((d : Int) + 1) a b q) r t.2.1 t.2.2.1 t.2.2.2.1 t.2.2.2.2 else some (false, t.2.1, t.2.2.1, t.2.2.2.1) := fun k hk => by
   rw [qbb.kids, show qbb.visit k y ((d : Int) + 1) nu de met = some t from hK k hk, Option.bind_some]
  by_cases hb : t.1 = true
  ·obtain ⟨m1, m2⟩ := hr.mt hb;have hlo := hr.lo;have hhi := hr.hi;have ha := add_len met y.f1;obtain ⟨u, ⟨K2, hK2⟩, u1, u2, u3, u4⟩ := kids_vis m d hv hm hd r t.2.1 t.2.2.1 t.2.2.2.1 t.2.2.2.2 (fun z hz => hg z (List.mem_cons_of_mem _ hz)) (by omega) (by omega) (by rw [m1]; omega);refine ⟨u, ⟨K + K2, fun k hk => ?_⟩, by omega, by omega, ?_, fun _ => u4 (hr.er.1 hb)⟩
   ·refine (e k (by omega)).trans ?_;rw [if_pos hb];exact hK2 k (by omega)
   ·rw [u3, m1];exact ⟨fun q => ⟨hr.ok.1 hb, q⟩, fun q => q.2⟩
  ·refine ⟨(false, t.2.1, t.2.2.1, t.2.2.2.1), ⟨K, fun k hk => ?_⟩, hr.lo, by have := hr.hi; dsimp only; omega, ⟨nofun, fun q => absurd (hr.ok.2 q.1) hb⟩, fun _ => ⟨nofun, fun q => absurd (hr.er.2 q) hb⟩⟩;refine (e k hk).trans ?_;rw [if_neg hb]
theorem vis_all (m : Nat) : Vis m := by
 induction m with
 | zero => intro x d nu de met _ _ _ _ _ h; omega
 | succ m ih =>
  intro x d nu de met hdm hg h0 h1 h2 _;obtain ⟨g1, ⟨e, he⟩, g3⟩ := hg;unfold szT at h1 ⊢;have hguard : 0 ≤ nu ∧ nu ≤ 4096 ∧ (0 : Int) ≤ (d : Int) ∧ (d : Int) ≤ 65 ∧ met.length ≤ 4096 ∧ x.f1.size ≤ 1000000000 := ⟨h0, by omega, by omega, by omega, by omega, by omega⟩;have hnu : ¬ nu = 4096 := by omega
  have bad : ∀ (c : Int), c ≠ 0 → (∃ K, ∀ k, K ≤ k → qbb.visit (k + 1) x (d : Int) nu de met = some (false, nu, mx de (d : Int), c, met)) → ¬ TreeOK (m + 1) x d met → ∃ t, Ev (fun k => qbb.visit k x (d : Int) nu de met) t ∧ VisR nu (1 + szL (szT m) x.f4) (TreeOK (m + 1) x d met) (qbb.add met x.f1) t := by
   rintro c hc ⟨K, hK⟩ hn;refine ⟨(false, nu, mx de (d : Int), c, met), ⟨K + 1, fun k hk => ?_⟩, Int.le_refl _, zz1, ⟨nofun, fun q => absurd q hn⟩, ⟨nofun, fun q => absurd q hc⟩, nofun⟩;obtain ⟨k, rfl⟩ : ∃ m, k = m + 1 := ⟨k - 1, by omega⟩;exact hK k (by omega)
  by_cases c1 : (d : Int) > 64
  ·refine bad 11 (by decide) ⟨0, fun k _ => ?_⟩ (fun q => by have := q.1; omega);rw [qbb.visit, if_pos hguard, if_neg hnu, if_pos c1, Option.bind_some, if_neg (by decide)]
  obtain ⟨K, hK⟩ := he x.f4;by_cases c2 : e = 0;rotate_left
  ·refine bad e c2 ⟨K, fun k hk => ?_⟩ (fun q => c2 (Ev.one (he []) (q.2.1 [])));rw [qbb.visit, if_pos hguard, if_neg hnu, if_neg c1, show qbd.f k x.f0 x.f1 x.f2 x.f3 x.f4 = some e from hK k hk, Option.bind_some, if_neg c2]
  subst c2;cases c3 : qbb.has met x.f1;rotate_left
  ·refine bad 10 (by decide) ⟨K, fun k hk => ?_⟩ (fun q => by have := q.2.2.1; rw [c3] at this; cases this);rw [qbb.visit, if_pos hguard, if_neg hnu, if_neg c1, show qbd.f k x.f0 x.f1 x.f2 x.f3 x.f4 = some 0 from hK k hk, Option.bind_some, if_pos rfl, if_pos c3]
  obtain ⟨t, ⟨K2, hK2⟩, t1, t2, t3, t4⟩ := kids_vis m d ih (by omega) (by omega) x.f4 (nu + 1) (mx de (d : Int)) 0 [] g3 (by omega) (by omega) (by simp; omega);refine ⟨(t.1, t.2.1, t.2.2.1, t.2.2.2, qbb.add met x.f1), ⟨K + K2 + 1, fun k hk => ?_⟩, zz1, zz1, ?_, t4 rfl, fun _ => ⟨rfl, t1⟩⟩
  ·obtain ⟨k, rfl⟩ : ∃ m, k = m + 1 := ⟨k - 1, by omega⟩;show qbb.visit (k + 1) x (d : Int) nu de met = _;rw [qbb.visit, if_pos hguard, if_neg hnu, if_neg c1, show qbd.f k x.f0 x.f1 x.f2 x.f3 x.f4 = some 0 from hK k (by omega), Option.bind_some, if_pos rfl, c3, if_neg (by decide), show qbb.kids _ _ _ _ _ _ = some t from hK2 k (by omega)];rfl
  ·rw [t3];exact ⟨fun q => ⟨by omega, he, c3, q⟩, fun q => q.2.2.2⟩
def nodeOf (r : ByteArray × ByteArray × ByteArray × List S55 × List S86 × Int) : S86 := ⟨r.1, r.2.1, r.2.2.1, r.2.2.2.1, r.2.2.2.2.1⟩
theorem Anc.trans {l : List S53} {a b c : Nat} (h : Anc l a b) (k : Anc l b c) : Anc l a c := by
 induction h with
 | refl => exact k
 | step h0 _ ih => exact .step h0 (ih k)
def MetK (l : List S53) (p : Int) (n : Nat) (met : List ByteArray) : Prop := ∀ s : ByteArray, qbb.has met s = true ↔ s.toList ≠ [] ∧ ∃ k, k < n ∧ up l k = p ∧ keyOf l k = s.toList
theorem metK_add {l : List S53} {p : Int} {a n : Nat} {met : List ByteArray} (h : MetK l p a met) (hp : up l a = p) (hn : a < n) (ho : ∀ k, a < k → k < n → up l k ≠ p) : MetK l p n (qbb.add met (qf l (a : Int)).f3) := by
 intro s
 have hb : qbb.has (qbb.add met (qf l (a : Int)).f3) s = true ↔ qbb.has met s = true ∨ keyOf l a ≠ [] ∧ keyOf l a = s.toList := by
  unfold qbb.add keyOf;rw [Lib.toList_data, Lib.toList_data];by_cases hk : (qf l (a : Int)).f3.data.toList = []
  ·rw [if_pos hk];exact ⟨.inl, fun q => q.elim id (fun q => absurd hk q.1)⟩
  ·rw [if_neg hk];unfold qbb.has;rw [List.any_append];simp [hk]
 rw [hb, h s];constructor
 ·rintro (⟨h1, k, h2, h3, h4⟩ | ⟨h1, h2⟩)
  ·exact ⟨h1, k, by omega, h3, h4⟩
  ·exact ⟨by rw [← h2]; exact h1, a, hn, hp, h2⟩
 ·rintro ⟨h1, k, h2, h3, h4⟩;rcases Nat.lt_trichotomy k a with h5 | rfl | h5
  ·exact .inl ⟨h1, k, h5, h3, h4⟩
  ·exact .inr ⟨by rw [h4]; exact h1, h4⟩
  ·exact absurd h3 (ho k h5 h2)
structure BOK (l : List S53) (a : Nat) (r : ByteArray × ByteArray × ByteArray × List S55 × List S86 × Int) (n : Nat) : Prop where
 eq : r.2.2.2.2.2 = (n : Int)
 key : r.2.1 = (qf l (a : Int)).f3
 lt : a < n
 le : n ≤ l.length
 anc : Anc l n (a + 1)
 last : n < l.length → up l n ≤ (a : Int)
 ins : ∀ j, a < j → j < n → (a : Int) + 1 ≤ up l j
 sz : ∀ m, szT m (nodeOf r) ≤ n - a
 good : ∀ m, GoodT m (nodeOf r)
 ok : ∀ m met, dep l (a + 1) + m = 66 → 0 < m → MetK l (up l a) a met → (TreeOK m (nodeOf r) (dep l (a + 1)) met ↔ ∀ j, a ≤ j → j < n → RowOK l j)
structure LOK (l : List S53) (a x : Nat) (new : List S86) (n : Nat) : Prop where
 ge : x ≤ n
 le : n ≤ l.length
 anc : Anc l n (a + 1)
 last : n < l.length → up l n ≤ (a : Int)
 ins : ∀ j, x ≤ j → j < n → (a : Int) + 1 ≤ up l j
 sz : ∀ m, szL (szT m) new ≤ n - x
 good : ∀ m y, y ∈ new → GoodT m y
 ok : ∀ m met, dep l (a + 1) + 1 + m = 66 → 0 < m → MetK l ((a : Int) + 1) x met → (KidsOK (fun y q => TreeOK m y (dep l (a + 1) + 1) q) new met ↔ ∀ j, x ≤ j → j < n → RowOK l j)
def BF (l : List S53) (d : Nat) : Prop := ∀ (k a : Nat), a + d = l.length → 2 * d ≤ k → 0 < d → ∃ r n, qyb.f k l (a : Int) = some r ∧ BOK l a r n
def BL (l : List S53) (d : Nat) : Prop := ∀ (k a x : Nat) (c0 c1 c2 : ByteArray) (av : List S55) (ks : List S86), x + d = l.length → 2 * d + 1 ≤ k → a < x → ks.length ≤ x → Anc l x (a + 1) → (x < l.length → up l x ≤ (a : Int) + 1) →
 ∃ new n, qyb.l0 k l (a : Int) (x : Int) c0 c1 c2 av ks = some (c0, c1, c2, av, ks ++ new, ((n : Nat) : Int)) ∧ LOK l a x new n
theorem bf_of {l : List S53} (hl : l.length ≤ 100) (hs : ∀ p ∈ l, RS p) (ha : ∀ p ∈ l, ∃ e, AloneE p e) (hf : FormedP l) (d : Nat) (ihl : BL l d) : BF l (d + 1) := by
 intro k a hn hk _;obtain ⟨k, rfl⟩ : ∃ m, k = m + 1 := ⟨k - 1, by omega⟩;have hu := formed_ups hf;(have hil : a < l.length := by omega);have h0 : (0 : Int) ≤ (a : Int) := Int.natCast_nonneg a;have h1 : (a : Int) < (l.length : Int) := Int.ofNat_lt.2 hil;have hw : wrap64 ((a : Int) + 1) = ((a + 1 : Nat) : Int) := w64 (by omega) (by omega);obtain ⟨r1, r2⟩ := hs l[a] (List.getElem_mem _);obtain ⟨e, he⟩ := ha l[a] (List.getElem_mem _);have hrd := rdR l a hil;obtain ⟨new, n, hr, hR⟩ := ihl k a (a + 1) l[a].f2 l[a].f3 l[a].f4 l[a].f5 [] (by omega) (by omega) (by omega) (Nat.zero_le _) (.refl _) (fun h => by have := hu (a + 1) h; omega);(have h2 : l[a].f5.length < 4398046511104 := by omega);have hge := hR.ge;refine ⟨_, n, by rw [qyb.f, if_pos h0, if_pos h1, hrd, api_Attr.f, if_pos h2, Option.bind_some, hw]; exact hr, rfl, by rw [hrd], by omega, hR.le, hR.anc, hR.last, fun j h3 h4 => hR.ins j h3 h4, fun m => ?_, fun m => ?_, fun m met hm hm0 hmet => ?_⟩
 ·cases m with
  | zero => exact Nat.zero_le _
  | succ m =>
   have := hR.sz m;show 1 + szL (szT m) ([] ++ new) ≤ n - a;rw [List.nil_append];omega
 ·cases m with
  | zero => trivial
  | succ m => exact ⟨r1, ⟨e, he.1⟩, fun y hy => hR.good m y (by simpa [nodeOf] using hy)⟩
 ·obtain ⟨m, rfl⟩ : ∃ x, m = x + 1 := ⟨m - 1, by omega⟩;have hka : keyOf l a = l[a].f3.toList := by unfold keyOf; rw [hrd]
  have hdup : qbb.has met l[a].f3 = false ↔ ∀ k, k < a → ¬ Twice l a k := by
   rw [Bool.eq_false_iff, Ne, hmet l[a].f3, ← hka];exact ⟨fun q k hk ht => q ⟨ht.2.1, k, hk, ht.1, ht.2.2⟩, fun q ⟨q1, k, q2, q3, q4⟩ => q k q2 ⟨q3, q1, q4⟩⟩
  have hal : NodeE (nodeOf (l[a].f2, l[a].f3, l[a].f4, l[a].f5, [] ++ new, (n : Int))) 0 ↔ AloneE (qf l (a : Int)) 0 := by
   rw [hrd];refine ⟨fun q => ?_, fun q => q.1⟩;have : e = 0 := Ev.one (he.1 []) (q []);rw [this] at he;exact he
  show (dep l (a + 1) ≤ 64 ∧ NodeE (nodeOf (l[a].f2, l[a].f3, l[a].f4, l[a].f5, [] ++ new, (n : Int))) 0 ∧ qbb.has met l[a].f3 = false ∧ KidsOK (fun y q => TreeOK m y (dep l (a + 1) + 1) q) ([] ++ new) []) ↔ _;rw [hal, hdup, List.nil_append];by_cases hd : dep l (a + 1) ≤ 64
  ·have hk := hR.ok m [] (by omega) (by omega) (fun s => ⟨nofun, fun ⟨_, k, q2, q3, _⟩ => by have := hu k (by omega); omega⟩);rw [hk]
   exact ⟨fun q j h3 h4 => by
    rcases Nat.lt_or_ge a j with h5 | h5
    ·exact q.2.2.2 j h5 h4
    ·obtain rfl : a = j := by omega
     exact ⟨q.1, q.2.1, q.2.2.1⟩, fun q => by
    have h3 := q a (Nat.le_refl _) (by omega)
    exact ⟨h3.1, h3.2.1, h3.2.2, fun j h4 h5 => q j (by omega) h5⟩⟩
  ·exact ⟨fun q => absurd q.1 hd, fun q => absurd (q a (Nat.le_refl _) (by omega)).1 hd⟩
theorem bl_of {l : List S53} (hl : l.length ≤ 100) (hf : FormedP l) (d : Nat) (hF : BF l (d + 1)) (ihl : ∀ e, e ≤ d → BL l e) : BL l (d + 1) := by
 intro k a x c0 c1 c2 av ks hn hk hax hkl hA hU;obtain ⟨k, rfl⟩ : ∃ m, k = m + 1 := ⟨k - 1, by omega⟩;have hu := formed_ups hf;(have hil : x < l.length := by omega);have h0 : (0 : Int) ≤ (x : Int) := Int.natCast_nonneg x;have h1 : (x : Int) < (l.length : Int) := Int.ofNat_lt.2 hil;have hw : wrap64 ((a : Int) + 1) = (a : Int) + 1 := w64 (by omega) (by omega);have hge := hU hil;by_cases hc : up l x = (a : Int) + 1
 ·obtain ⟨r, n1, hr, hB⟩ := hF k x hn (by omega) (by omega);have hlt := hB.lt;have hle := hB.le;have hkl2 : ks.length < 1466015503701 := by omega
  have hx1 : Anc l (x + 1) (a + 1) := .step (by omega) (by
   rw [Nat.add_sub_cancel, hc, show ((a : Int) + 1).toNat = a + 1 by omega]
   exact .refl _)
  have hU1 : n1 < l.length → up l n1 ≤ (a : Int) + 1 := fun h => by
   have q1 := hB.last h;have q2 := hf n1 h;unfold FP at q2;rw [if_neg (by omega)] at q2;have q3 := Anc.two hu (by omega) q2.2 hB.anc (by omega);have q4 := (q3.up (by omega)).2;rw [Nat.add_sub_cancel, hc, show ((a : Int) + 1).toNat = a + 1 by omega] at q4;have := Anc.le hu (by omega) q4;omega
  obtain ⟨new, n, hr2, hR⟩ := ihl (l.length - n1) (by omega) k a n1 c0 c1 c2 av (ks ++ [nodeOf r]) (by omega) (by omega) (by omega) (by rw [List.length_append]; simp only [List.length_cons, List.length_nil]; omega) (hB.anc.trans hx1) hU1;have hge2 := hR.ge
  have hdx : dep l (x + 1) = dep l (a + 1) + 1 := by
   rw [dep_step hu (by omega) (by omega), Nat.add_sub_cancel, hc, show ((a : Int) + 1).toNat = a + 1 by omega]
  refine ⟨nodeOf r :: new, n, ?_, by omega, hR.le, hR.anc, hR.last, fun j h3 h4 => ?_, fun m => ?_, fun m y hy => ?_, fun m met hm hm0 hmet => ?_⟩
  ·rw [qyb.l0, if_pos h1, if_pos h0, if_pos (by rw [hw]; exact hc), hr, Option.bind_some, if_pos hkl2, hB.eq];rw [List.append_assoc] at hr2;exact hr2
  ·rcases Nat.lt_trichotomy j x with h5 | rfl | h5
   ·omega
   ·omega
   ·rcases Nat.lt_or_ge j n1 with h6 | h6
    ·have := hB.ins j h5 h6; omega
    ·exact hR.ins j h6 h4
  ·have q1 := hB.sz m;have q2 := hR.sz m;show szT m (nodeOf r) + szL (szT m) new ≤ n - x;omega
  ·rcases List.mem_cons.1 hy with rfl | hy
   ·exact hB.good m
   ·exact hR.good m y hy
  ·have q1 := hB.ok m met (by omega) hm0 (by rw [hc]; exact hmet)
   have q2 := hR.ok m (qbb.add met (nodeOf r).f1) hm hm0 (by
    have := metK_add hmet hc hlt (fun k h3 h4 => by have := hB.ins k h3 h4; omega);rw [← hB.key] at this
    exact this)
   rw [hdx] at q1;show (TreeOK m (nodeOf r) (dep l (a + 1) + 1) met ∧ KidsOK (fun y q => TreeOK m y (dep l (a + 1) + 1) q) new (qbb.add met (nodeOf r).f1)) ↔ _;rw [q1, q2]
   exact ⟨fun q j h3 h4 => by
    rcases Nat.lt_or_ge j n1 with h6 | h6
    ·exact q.1 j h3 h6
    ·exact q.2 j h6 h4, fun q => ⟨fun j h3 h4 => q j h3 (by omega), fun j h3 h4 => q j (by omega) h4⟩⟩
 ·refine ⟨[], x, ?_, Nat.le_refl _, by omega, hA, fun _ => by omega, fun j h3 h4 => by omega, fun m => Nat.zero_le _, fun m y hy => (by cases hy), fun m met _ _ _ => ⟨fun _ j h3 h4 => by omega, fun _ => trivial⟩⟩;rw [qyb.l0, if_pos h1, if_pos h0, if_neg (by rw [hw]; exact hc), List.append_nil]
theorem bl_all {l : List S53} (hl : l.length ≤ 100) (hs : ∀ p ∈ l, RS p) (ha : ∀ p ∈ l, ∃ e, AloneE p e) (hf : FormedP l) (D : Nat) : ∀ d, d ≤ D → BL l d := by
 induction D with
 | zero =>
  intro d hd;(obtain rfl : d = 0 := by omega);intro k a x c0 c1 c2 av ks hn hk hax hkl hA hU;obtain ⟨k, rfl⟩ : ∃ m, k = m + 1 := ⟨k - 1, by omega⟩;refine ⟨[], x, ?_, Nat.le_refl _, by omega, hA, fun _ => by omega, fun j h3 h4 => by omega, fun m => Nat.zero_le _, fun m y hy => (by cases hy), fun m met _ _ _ => ⟨fun _ j h3 h4 => by omega, fun _ => trivial⟩⟩;rw [qyb.l0, if_neg (by omega), List.append_nil]
 | succ D ih =>
  intro d hd;by_cases hdd : d ≤ D
  ·exact ih d hdd
  ·(obtain rfl : d = D + 1 := by omega);exact bl_of hl hf D (bf_of hl hs ha hf D (ih D (Nat.le_refl _))) ih
theorem tree_spec {l : List S53} (hl : l.length ≤ 100) (hs : ∀ p ∈ l, RS p) (ha : ∀ p ∈ l, ∃ e, AloneE p e) (hf : FormedP l) (h0 : 0 < l.length) : ∃ r, (∃ K, ∀ k, K ≤ k → qnc.j0 k l = some r) ∧ (r.2.2.2.2.2 = 0 ↔ ∀ j, j < l.length → RowOK l j) := by
 obtain ⟨d, hd⟩ : ∃ d, l.length = d + 1 := ⟨l.length - 1, by omega⟩;have hu := formed_ups hf;obtain ⟨r, n, hr, hB⟩ := bf_of hl hs ha hf d (bl_all hl hs ha hf d d (Nat.le_refl _)) (2 * l.length) 0 (by omega) (by omega) (by omega)
 have hnl : n = l.length := by
  rcases Nat.lt_or_ge n l.length with h | h
  ·have q1 := hB.last h;have q2 := hf n h;have := hB.lt;unfold FP at q2;rw [if_neg (by omega)] at q2;omega
  ·have := hB.le; omega
 have hup : up l 0 = 0 := by have := hf 0 h0; unfold FP at this; rw [if_pos rfl] at this; exact this
 have hd1 : dep l 1 = 1 := by
  rw [dep_step hu (by omega) (by omega), Nat.sub_self, hup];rfl
 have hsz := hB.sz 65;obtain ⟨t, ⟨K, hK⟩, ht⟩ := vis_all 65 (nodeOf r) 1 0 0 [] (by omega) (hB.good 65) (Int.le_refl _) (by omega) (by simp) (by omega);have hok := hB.ok 65 [] (by rw [hd1]) (by omega) (fun s => ⟨nofun, fun ⟨_, k, q2, _, _⟩ => by omega⟩);rw [hd1, hnl] at hok;have hte : t.2.2.2.1 = 0 ↔ ∀ j, j < l.length → RowOK l j := ht.er.symm.trans (ht.ok.trans (hok.trans ⟨fun q j hj => q j (Nat.zero_le _) hj, fun q j _ hj => q j hj⟩));have hbuild : ∀ k, 2 * l.length ≤ k → qyb.f k l 0 = some r := fun k hk => at_rounds (fun k => qyb.mono l 0 k) hk hr
 have hv : ∀ k, K ≤ k → vtree_Check.f k r.1 r.2.1 r.2.2.1 r.2.2.2.1 r.2.2.2.2.1 = if t.2.2.2.1 = 0 then some (0, 0) else some (t.2.1, t.2.2.2.1) := fun k hk => by
  rw [vtree_Check.f, qbb.f, show qbb.visit k ⟨r.1, r.2.1, r.2.2.1, r.2.2.2.1, r.2.2.2.2.1⟩ 1 0 0 [] = some t from hK k hk];rfl
 by_cases hz : t.2.2.2.1 = 0
 ·refine ⟨(r.1, r.2.1, r.2.2.1, r.2.2.2.1, r.2.2.2.2.1, 0), ⟨K + 2 * l.length + 1, fun k hk => ?_⟩, ⟨fun _ => hte.1 hz, fun _ => rfl⟩⟩;obtain ⟨k, rfl⟩ : ∃ m, k = m + 1 := ⟨k - 1, by omega⟩;rw [qnc.j0, hbuild k (by omega), Option.bind_some, hv k (by omega), if_pos hz, Option.bind_some, if_pos rfl]
 ·refine ⟨((⟨#[]⟩ : ByteArray), (⟨#[]⟩ : ByteArray), (⟨#[]⟩ : ByteArray), ([] : List S55), ([] : List S86), t.2.2.2.1), ⟨K + 2 * l.length + 1, fun k hk => ?_⟩, (show t.2.2.2.1 = 0 ↔ _ from hte)⟩;obtain ⟨k, rfl⟩ : ∃ m, k = m + 1 := ⟨k - 1, by omega⟩;rw [qnc.j0, hbuild k (by omega), Option.bind_some, hv k (by omega), if_neg hz, Option.bind_some, if_neg hz]
theorem rd_set (l : List Int) (i j : Nat) (v : Int) (hi : i < l.length) : rd (l.set i v) (j : Int) = if j = i then v else rd l (j : Int) := by
 unfold rd;rw [Int.toNat_natCast, List.getD_eq_getElem?_getD, List.getD_eq_getElem?_getD, List.getElem?_set];by_cases h : i = j
 ·subst h; simp [hi]
 ·rw [if_neg h, if_neg (Ne.symm h)]
theorem cut2_l0 (l : List S53) (hl : l.length ≤ 100) (hu : UpsN l l.length) (d : Nat) : ∀ (i : Nat) (ds : List Int), i + d = l.length → ds.length = l.length + 1 → (∀ h, h ≤ i → rd ds (h : Int) = (dep l h : Int)) → ∃ n, (0 < l.length → 0 < n) ∧ n ≤ l.length ∧ (n = l.length ∨ 64 < dep l n) ∧ Ev (fun k => qpc.l0 k l ds l (l.length : Int) (i : Int)) (l.take n) := by
 induction d with
 | zero =>
  intro i ds hi hds _;refine ⟨l.length, id, Nat.le_refl _, .inl rfl, Ev.step (fun k => ?_) (Ev.now _)⟩;rw [qpc.l0, if_neg (by omega), List.take_of_length_le (Nat.le_refl _)]
 | succ d ih =>
  intro i ds hi hds hrd;(have hil : i < l.length := by omega);obtain ⟨u1, u2⟩ := hu i hil;(have hw : wrap64 ((i : Int) + 1) = ((i + 1 : Nat) : Int) := by rw [w64 (by omega) (by omega)]; omega);have hst := dep_step hu (show i + 1 ≤ l.length by omega) (by omega);rw [Nat.add_sub_cancel] at hst;have hle := dep_le hu l.length (i + 1) (by omega) (by omega)
  have hv : wrap64 (rd ds (up l i) + 1) = (dep l (i + 1) : Int) := by
   have := hrd (up l i).toNat (by omega);rw [Int.toNat_of_nonneg u1] at this;rw [this, w64 (by omega) (by omega), hst];omega
  have hnew : ∀ h, h ≤ i + 1 → rd (ds.set (i + 1) (dep l (i + 1) : Int)) (h : Int) = (dep l h : Int) := fun h hh => by
   rw [rd_set ds (i + 1) h _ (by omega)];by_cases h2 : h = i + 1
   ·rw [if_pos h2, h2]
   ·rw [if_neg h2]; exact hrd h (by omega)
  have hat := hnew (i + 1) (Nat.le_refl _)
  have e : ∀ k, qpc.l0 (k + 1) l ds l (l.length : Int) (i : Int) = if rd (ds.set (i + 1) (dep l (i + 1) : Int)) ((i + 1 : Nat) : Int) > 64 then (if ((i + 1 : Nat) : Int) ≤ (l.length : Int) then some (l.take (i + 1)) else none) else if (i : Int) = 4096 then (if ((i + 1 : Nat) : Int) ≤ (l.length : Int) then some (l.take (i + 1)) else none) else qpc.l0 k l (ds.set (i + 1) (dep l (i + 1) : Int)) l (l.length : Int) ((i + 1 : Nat) : Int) := fun k => by
   rw [qpc.l0, if_pos (by omega), if_pos (by omega), if_pos (by omega)];show (if 0 ≤ up l i then (if up l i < (ds.length : Int) then _ else _) else _) = _;rw [if_pos (by omega), if_pos (by omega), hw, if_pos (by omega), if_pos (by omega)];show ((some (ds.set _ (wrap64 (rd ds (up l i) + 1)))).bind _) = _;rw [hv, Int.toNat_natCast, Option.bind_some]
  by_cases h64 : rd (ds.set (i + 1) (dep l (i + 1) : Int)) ((i + 1 : Nat) : Int) > 64
  ·refine ⟨i + 1, fun _ => Nat.succ_pos _, by omega, .inr (by omega), Ev.step (fun k => ?_) (Ev.now _)⟩;rw [e, if_pos h64, if_pos (by omega)]
  ·obtain ⟨n, n1, n2, n3, hb⟩ := ih (i + 1) _ (by omega) (by rw [List.length_set]; exact hds) hnew;refine ⟨n, n1, n2, n3, Ev.step (fun k => ?_) hb⟩;rw [e, if_neg h64, if_neg (by omega)]
theorem cut2_spec (l : List S53) (hl : l.length ≤ 100) (hu : UpsN l l.length) : ∃ n, (0 < l.length → 0 < n) ∧ n ≤ l.length ∧ (n = l.length ∨ 64 < dep l n) ∧ Ev (fun k => qpc.f k l) (l.take n) := by
 have hw : wrap64 ((l.length : Int) + 1) = ((l.length + 1 : Nat) : Int) := by rw [w64 (by omega) (by omega)]; omega
 obtain ⟨n, n1, n2, n3, hb⟩ := cut2_l0 l hl hu l.length 0 (List.replicate (l.length + 1) 0) (by omega) (List.length_replicate) (fun h hh => by
  obtain rfl : h = 0 := by omega
  rfl)
 refine ⟨n, n1, n2, n3, ?_⟩
 have e : (fun k => qpc.f k l) = fun k => qpc.l0 k l (List.replicate (l.length + 1) 0) l (l.length : Int) ((0 : Nat) : Int) := by
  funext k
  unfold qpc.f;rw [hw, if_pos (by omega), if_pos (by omega), Int.toNat_natCast];rfl
 rw [e];exact hb
section
variable {l m : List S53} {n : Nat}
theorem up_same (h : ∀ j, j < n → qf m ((j : Nat) : Int) = qf l (j : Int)) (j : Nat) (hj : j < n) : up m j = up l j := by unfold up; rw [h j hj]
theorem anc_same (h : ∀ j, j < n → qf m ((j : Nat) : Int) = qf l (j : Int)) (hu : UpsN l n) {x a : Nat} (hx : x ≤ n) (k : Anc l x a) : Anc m x a := by
 induction k with
 | refl => exact .refl _
 | @step x a h0 _ ih =>
  have := hu (x - 1) (by omega);refine .step h0 ?_;rw [up_same h (x - 1) (by omega)];exact ih (by omega)
theorem dep_same (h : ∀ j, j < n → qf m ((j : Nat) : Int) = qf l (j : Int)) (hu : UpsN l n) : ∀ (f x : Nat), x ≤ n → depR m f x = depR l f x := by
 intro f
 induction f with
 | zero => intro x _; rfl
 | succ f ih =>
  intro x hx;unfold depR;by_cases h0 : x = 0
  ·rw [if_pos h0, if_pos h0]
  ·have := hu (x - 1) (by omega);rw [if_neg h0, if_neg h0, up_same h (x - 1) (by omega), ih _ (by omega)]
theorem row_same (h : ∀ j, j < n → qf m ((j : Nat) : Int) = qf l (j : Int)) (hu : UpsN l n) (j : Nat) (hj : j < n) : RowOK m j ↔ RowOK l j := by
 have key : ∀ k, k < n → keyOf m k = keyOf l k := fun k hk => by unfold keyOf; rw [h k hk]
 have tw : (∀ k, k < j → ¬ Twice m j k) ↔ ∀ k, k < j → ¬ Twice l j k := by
  constructor <;> intro q k hk ht <;> refine q k hk ?_ <;> unfold Twice at ht ⊢
  ·rw [up_same h k (by omega), up_same h j hj, key k (by omega), key j hj]; exact ht
  ·rw [up_same h k (by omega), up_same h j hj, key k (by omega), key j hj] at ht; exact ht
 unfold RowOK;rw [tw, h j hj, show dep m (j + 1) = dep l (j + 1) from dep_same h hu (j + 1) (j + 1) (by omega)]
theorem formed_same (h : ∀ j, j < n → qf m ((j : Nat) : Int) = qf l (j : Int)) (hu : UpsN l n) (hm : m.length = n) (hf : ∀ j, j < n → FP l j) : FormedP m := by
 intro j hj;have := hf j (by omega);unfold FP at this ⊢;rw [up_same h j (by omega)];by_cases h0 : j = 0
 ·rw [if_pos h0] at this ⊢; exact this
 ·rw [if_neg h0] at this ⊢;exact ⟨this.1, anc_same h hu (by omega) this.2⟩
end
theorem rd_take (l : List S53) (n j : Nat) (hj : j < n) : qf (l.take n) (j : Int) = qf l (j : Int) := by
 unfold qf;rw [Int.toNat_natCast, List.getD_eq_getElem?_getD, List.getD_eq_getElem?_getD, List.getElem?_take, if_pos hj]
theorem flat_spec (l : List S53) (hl : l.length ≤ 100) (hs : ∀ p ∈ l, RS p) (ha : ∀ p ∈ l, ∃ e, AloneE p e) : ∃ e, Ev (fun k => qec.f k l) e ∧ (e = 0 ↔ FormedP l ∧ ∀ j, j < l.length → RowOK l j) := by
 by_cases h0 : (l.length : Int) = 0
 ·refine ⟨0, ⟨0, fun k _ => ?_⟩, ⟨fun _ => ⟨fun j hj => by omega, fun j hj => by omega⟩, fun _ => rfl⟩⟩;show qec.f k l = _;rw [qec.f, if_pos h0]
 obtain ⟨b, ⟨K, hK⟩, hq⟩ := formed2_spec l hl;cases b
 ·refine ⟨2, ⟨K, fun k hk => ?_⟩, ⟨fun h => by omega, fun q => absurd (hq.2 q.1) (by decide)⟩⟩;show qec.f k l = _;rw [qec.f, if_neg h0, qnc.f, if_neg h0, show qub.f k l = some false from hK k hk];rfl
 have hf := hq.1 rfl;have hu := formed_ups hf;obtain ⟨b2, K2, hK2⟩ := deep_spec l hl (fun j h _ => by have := hu j h; rw [up_get h] at this; exact this)
 have e : ∀ k, K ≤ k → K2 ≤ k → qnc.f k l = if b2 = true then (qpc.f k l).bind fun t => qnc.j0 k t else qnc.j0 k l := fun k hk hk2 => by
  rw [qnc.f, if_neg h0, show qub.f k l = some true from hK k hk, Option.bind_some, if_pos rfl, show qoc.f k l = some b2 from hK2 k hk2, Option.bind_some]
 cases b2
 ·obtain ⟨r, ⟨K3, hK3⟩, hr⟩ := tree_spec hl hs ha hf (by omega);refine ⟨r.2.2.2.2.2, ⟨K + K2 + K3, fun k hk => ?_⟩, hr.trans ⟨fun q => ⟨hf, q⟩, fun q => q.2⟩⟩;show qec.f k l = _;rw [qec.f, if_neg h0, e k (by omega) (by omega), if_neg (by decide), hK3 k (by omega), Option.bind_some]
 ·obtain ⟨n, n1, n2, n3, K4, hK4⟩ := cut2_spec l hl hu;(have hn : (l.take n).length = n := by rw [List.length_take]; omega);have hun : UpsN l n := fun j hj => hu j (by omega);have hrt : ∀ j, j < n → qf (l.take n) ((j : Nat) : Int) = qf l (j : Int) := fun j hj => rd_take l n j hj;obtain ⟨r, ⟨K3, hK3⟩, hr⟩ := tree_spec (l := l.take n) (by omega) (fun p hp => hs p (List.mem_of_mem_take hp)) (fun p hp => ha p (List.mem_of_mem_take hp)) (formed_same hrt hun hn (fun j hj => hf j (by omega))) (by have := n1 (by omega); omega);refine ⟨r.2.2.2.2.2, ⟨K + K2 + K3 + K4, fun k hk => ?_⟩, hr.trans ⟨fun q => ⟨hf, fun j hj => ?_⟩, fun q j hj => (row_same hrt hun j (by omega)).2 (q.2 j (by omega))⟩⟩
  ·show qec.f k l = _;rw [qec.f, if_neg h0, e k (by omega) (by omega), if_pos rfl, show qpc.f k l = some (l.take n) from hK4 k (by omega), Option.bind_some, hK3 k (by omega), Option.bind_some]
  ·have hnp := n1 (by omega);rcases n3 with rfl | n3
   ·exact (row_same hrt hun j hj).1 (q j (by omega))
   ·have := (row_same hrt hun (n - 1) (by omega)).1 (q (n - 1) (by omega));have h2 := this.1;rw [show n - 1 + 1 = n by omega] at h2;omega
theorem checks_same (l : List S53) (hl : l.length ≤ 100) (hs : ∀ p ∈ l, RS p) (hx : ∀ p ∈ l, ∀ c ∈ p.f5, c.f0.size ≤ 140737488351232) : ∃ e v, Ev (fun k => qec.f k l) e ∧ Ev (fun k => qt.f k l) v ∧ (e = 0 ↔ v = 0) ∧ (e = 0 → UpsN l l.length) := by
 have ha : ∀ p ∈ l, ∃ e, AloneE p e := fun p hp => alone_both p.f2 p.f3 p.f4 p.f5 (hx p hp) [];obtain ⟨e, he, h1⟩ := flat_spec l hl hs ha;obtain ⟨v, hv, h2⟩ := check13_spec l hl ha;exact ⟨e, v, he, hv, h1.trans h2.symm, fun h => formed_ups (h1.1 h).1⟩
end Go.Proofs.YtjbobecnlpiejaaGreatDoor.Q.P
namespace Go.Proofs.YtjbobecnlpiejaaGreatDoor.Q
open Go.Proofs.YtjbobecnlpiejaaGreatDoorZ
open Go.Proofs.YtjbobecnlpiejaaGreatDoor.Q.P Go.RowKit Go.Proofs.YtjbobecnlpiejaaGreatDoorW.PrintWords Go.Proofs.YtjbobecnlpiejaaGreatDoorW.PrintLast Go.Proofs.YtjbobecnlpiejaaGreatDoorW.PrintMore
attribute [local go_sem] qac qbc qhc qgc
mutual
def qr.l0 : Nat → List (S58) → List (S53) → List Bool → Int → List Bool → Int → Int → Option (List Bool)
 | 0, _, _, _, _, _, _, _ => none
 | k + 1, x0, x1, x5, x6, x7, x23, x24 => if x24 < x23 then (if 0 ≤ x24 then (if x24 < (x1.length : Int) then (qr.l1 k x0 x1 x5 x6 x7 x24 (x6 == 0) ((qf x1 x24).f1) x23 x24) else (none)) else (none)) else (some x5)
def qr.l1 : Nat → List (S58) → List (S53) → List Bool → Int → List Bool → Int → Bool → Int → Int → Int → Option (List Bool)
 | 0, _, _, _, _, _, _, _, _, _, _ => none
 | k + 1, x0, x1, x5, x6, x7, x8, x9, x10, x23, x24 => if x6 > 0 then (qr.j2 k x0 x1 x5 x6 x7 x8 x9 x10 x23 x24 (decide (x10 > 0))) else (qr.j2 k x0 x1 x5 x6 x7 x8 x9 x10 x23 x24 false)
def qr.j2 : Nat → List (S58) → List (S53) → List Bool → Int → List Bool → Int → Bool → Int → Int → Int → Bool → Option (List Bool)
 | 0, _, _, _, _, _, _, _, _, _, _, _ => none
 | k + 1, x0, x1, x5, x6, x7, x8, x9, x10, x23, x24, x39 => if x39 = true then (if x9 = true then (if 0 ≤ (wrap64 (x10 - 1)) then (if (wrap64 (x10 - 1)) < (x1.length : Int) then (if 0 ≤ x6 then (if x6 < (x0.length : Int) then (if (qg x0 x6).f0 = true then (qr.l1 k x0 x1 x5 x6 x7 x8 true 0 x23 x24) else (qr.l1 k x0 x1 x5 x6 x7 x8 true ((qf x1 (wrap64 (x10 - 1))).f1) x23 x24)) else (none)) else (none)) else (none)) else (none)) else (if 0 ≤ (wrap64 (x10 - 1)) then (if (wrap64 (x10 - 1)) < (x7.length : Int) then (if (wrap64 (x10 - 1)) < (x1.length : Int) then (if 0 ≤ x6 then (if x6 < (x0.length : Int) then (if (qg x0 x6).f0 = true then (qr.l1 k x0 x1 x5 x6 x7 x8 (rdOf false x7 (wrap64 (x10 - 1))) 0 x23 x24) else (qr.l1 k x0 x1 x5 x6 x7 x8 (rdOf false x7 (wrap64 (x10 - 1))) ((qf x1 (wrap64 (x10 - 1))).f1) x23 x24)) else (none)) else (none)) else (none)) else (none)) else (none))) else (if x9 = true then (if 0 ≤ x6 then (if x6 < (x0.length : Int) then (if 0 ≤ x8 then (if x8 < (x1.length : Int) then ((qgb.f k ((qg x0 x6).f0) ((qg x0 x6).f1) ((qg x0 x6).f2) ((qg x0 x6).f3) ((qg x0 x6).f4) ((qf x1 x8).f0) ((qf x1 x8).f1) ((qf x1 x8).f2) ((qf x1 x8).f3) ((qf x1 x8).f4) ((qf x1 x8).f5)).bind fun t463 => (if x5.length < 140737488355328 then (qr.l0 k x0 x1 (x5 ++ [t463]) x6 x7 x23 (wrap64 (x24 + 1))) else (none))) else (none)) else (none)) else (none)) else (none)) else (if x5.length < 140737488355328 then (qr.l0 k x0 x1 (x5 ++ [false]) x6 x7 x23 (wrap64 (x24 + 1))) else (none)))
def qr.f : Nat → List (S58) → List (S53) → Option (List Bool)
 | 0, _, _ => none
 | k + 1, l0, l1 => if (wrap64 ((l0.length : Int) - 1)) < 0 then (some ([] : List Bool)) else (if 0 ≤ (wrap64 ((l0.length : Int) - 1)) then (if (wrap64 ((l0.length : Int) - 1)) ≤ (l0.length : Int) then ((qr.f k (l0.take ((wrap64 ((l0.length : Int) - 1)) : Int).toNat) l1).bind fun t452 => (qr.l0 k l0 l1 ([] : List Bool) (wrap64 ((l0.length : Int) - 1)) t452 (l1.length : Int) 0)) else (none)) else (none))
end
def qr.T16 : Bool × List (List Nat × List Nat) := (true, [([], []), ([], []), ([1], [1]), ([2], [2]), ([2], [2]), ([3, 4, 2], [2, 3, 4]), ([5, 2], [2, 5]), ([2], [2]), ([2], [2]), ([7, 8, 2], [2, 7, 8]), ([9, 2], [2, 9]), ([6, 10, 2, 2], [2, 6, 10]), ([2, 11], [2, 11]), ([12], [12]), ([0, 13, 11], [0, 13]), ([14, 14, 0, 1, 2, 3, 4, 5, 6, 7, 8, 9, 10, 11, 12, 13, 14], [0, 14])])
def qr.B16 : List Nat := [0, 0, 2, 6, 6, 30, 62, 6, 6, 390, 902, 2046, 4094, 8190, 16383, 32767]
theorem qr.tab16 : rtab .any (opsOf Tryz.f35 16) = qr.T16 := by kernel_rfl
theorem qr.bits16 : waitsOk qr.T16.2 qr.B16 = true := by kernel_rfl
set_option maxHeartbeats 8000000 in
set_option maxRecDepth 100000 in
theorem qr.calls (k : Nat) : ∀ (A0 : Option Addr) (c0 : Nat) (l0 : List (S58)) (A1 : Option Addr) (c1 : Nat) (l1 : List (S53)) (r : List Bool) (w : World) (hr0 : Kd.C k58 w A0 l0.length l0) (hc0 : l0.length ≤ c0) (hr1 : Kd.C k53 w A1 l1.length l1) (hc1 : l1.length ≤ c1) (h : qr.f k l0 l1 = some r),
  Calls Tryz.prog 35 #[.slice A0 l0.length c0, .slice A1 l1.length c1] w fun e w' => ∃ v0_ : Value, e = .returned (v0_) ∧ Kd.R Kd.bool 4 w' w.heap.size (fun _ => True) v0_ r ∧ Below w.heap.size w w' := by
 induction k using Nat.strongRecOn with
 | _ k ih =>
 intro A0 c0 l0 A1 c1 l1 r w hr0 hc0 hr1 hc1 h
 cases k with
 | zero => exact absurd h (by simp [qr.f])
 | succ k =>
 simp only [qr.f] at h;have hu58 := Tryz.underlying58;have hu53 := Tryz.underlying53;have HR0 := qa.mk hr0;have HC0 := qa.mk hc0;clear hr0 hc0;have HR1 := qa.mk hr1;have HC1 := qa.mk hc1;clear hr1 hc1;have HB := qa.mk (Below.refl w.heap.size w);have H : (if (wrap64 ((l0.length : Int) - 1)) < 0 then (some ([] : List Bool)) else (if 0 ≤ (wrap64 ((l0.length : Int) - 1)) then (if (wrap64 ((l0.length : Int) - 1)) ≤ (l0.length : Int) then ((qr.f k (l0.take ((wrap64 ((l0.length : Int) - 1)) : Int).toNat) l1).bind fun t452 => (qr.l0 k l0 l1 ([] : List Bool) (wrap64 ((l0.length : Int) - 1)) t452 (l1.length : Int) 0)) else (none)) else (none))) = some r := h;clear h;by_cases c3 : (wrap64 ((l0.length : Int) - 1)) < 0
 ·rw [if_pos c3] at H;have c3b0 : decide ((wrap64 ((l0.length : Int) - 1)) < 0) = true := decide_eq_true c3;clear c3;obtain rfl := Option.some.inj H;(go_enter Tryz.func35, Tryz.ntmps35);go_wp2;go_ret;exact ⟨_, zz98, zz89, zz32⟩
 ·rw [if_neg c3] at H;have c3b0 : decide ((wrap64 ((l0.length : Int) - 1)) < 0) = false := decide_eq_false c3;clear c3;obtain ⟨ji4, hji4⟩ : ∃ j_ : Int, (wrap64 ((l0.length : Int) - 1)) = j_ := ⟨_, rfl⟩;replace H : (if 0 ≤ (ji4) then (if (ji4) ≤ (l0.length : Int) then ((qr.f k (l0.take ((ji4) : Int).toNat) l1).bind fun t452 => (qr.l0 k l0 l1 ([] : List Bool) ji4 t452 (l1.length : Int) 0)) else (none)) else (none)) = some r := by first | (rw [hji4] at H; exact H) | (simp only [hji4] at H ⊢; exact H)
  (try rw [hji4] at c3b0)
  have hji4w : (IntKind.i64.wrap ((l0.length : Int) - 1)) = ji4 := (i64_w _).trans hji4;by_cases c5 : 0 ≤ (ji4)
  ·rw [if_pos c5] at H;have c5b0 := eq_true c5;have c5b1 : decide (0 ≤ (ji4)) = true := decide_eq_true c5;clear c5;by_cases c6 : (ji4) ≤ (l0.length : Int)
   ·rw [if_pos c6] at H;have c6b0 := eq_true c6;have c6b1 : decide ((ji4) ≤ (l0.length : Int)) = true := decide_eq_true c6;clear c6;obtain ⟨y448, hy448⟩ : ∃ y_ : List (S58), y_ = (l0.take ((ji4) : Int).toNat) := ⟨_, rfl⟩;(replace H : ((qr.f k y448 l1).bind fun t452 => (qr.l0 k l0 l1 ([] : List Bool) ji4 t452 (l1.length : Int) 0)) = some r := by first | (rw [hy448]; with_reducible exact H) | (have H2_ := (Option.bind_some _ _).symm.trans H; rw [hy448]; with_reducible exact H2_) | (have H2_ := (Option.bind_some _ _).symm.trans H; with_reducible exact H2_) | with_reducible exact H | (rw [hy448]; exact H) | exact H);have Ny448 := qa.mk hy448;clear hy448;replace H := Option.bind_eq_some_iff.mp H;obtain ⟨t452, A70, H⟩ := H;replace H : (qr.l0 k l0 l1 ([] : List Bool) ji4 t452 (l1.length : Int) 0) = some r := H;have A7 := qa.mk A70;clear A70;have H' := qa.mk H;clear H;have q8 : ((ji4) : Int) ≤ ((l0.length : Int) : Int) := of_decide_eq_true zz13;obtain ⟨i08, hi08, _, hsz8, _⟩ := info_parts info58;have hroom8 : l0.length ≤ c0 := HC0.out;have hC8 : Kd.C k58 _ A0 l0.length l0 := HR0.out;have hcut8 := cut_to (P := Tryz.prog) 25 58 .i64 Tryz.underlying25 hi08 A0 l0.length c0 (ji4) (of_decide_eq_true zz13) q8 hroom8;have hr8 := Kd.C_take (m := ((ji4) : Int).toNat) hC8 (by omega);have hy8 : y448.length = ((ji4) : Int).toNat := (by rw [Ny448.out, List.length_take]; omega);rw [← Ny448.out] at hr8;rw [← hy8] at hcut8;have HR451 := qa.mk hr8;have HC451 := qa.mk (show y448.length ≤ c0 from by omega);clear hr8 hC8 hroom8 hi08 hsz8 hy8;replace q8 := eq_true q8;(go_enter Tryz.func35, Tryz.ntmps35);go_wp2_with (first | ((with_reducible refine qv (f := 35) rfl ?_); refine qpb (some 21) rfl rfl Tryz.func35 (by kernel_rfl) rfl #[.slice A0 y448.length c0, .slice A1 l1.length c1] rfl zz87 ?_; (with_reducible refine (ih k (by omega) _ _ y448 _ _ l1 t452 _ ?side1 ?side2 ?side3 ?side4 A7.out).mono ?_); (case side1 => repeat (first | exact HR451.out | (with_reducible refine Kd.C_alloc ?_ _) | (with_reducible refine Kd.C_drewN ?_ _) | (with_reducible refine Kd.C_drew ?_))); (case side2 => exact HC451.out); (case side3 => exact zz107); (case side4 => exact HC1.out); rintro e w9 ⟨v453, rfl, ho0, hb⟩; refine ⟨_, rfl, ?_⟩; have n0_ := qa.mk (Kd.R_lower ho0 (ql zz32)); have n1_ := qa.mk (qo zz32 hb); clear HB; have HO454 := n0_; have HB := n1_; clear n0_ n1_; (try clear hb); (try clear hb2); (try clear hk); (try clear hi); (try clear ho0)))
    go_loopg [5, 24] k (fun kq v5 v24 w' => ∃ (x5_1 : List Bool) (x24_1 : Int), v24 = .int .i64 x24_1 ∧ qa (qr.l0 kq l0 l1 x5_1 ji4 t452 (l1.length : Int) x24_1 = some r) ∧ qa (kq ≤ k) ∧ qa (Kd.R Kd.bool 4 w' w.heap.size (fun k_ => some k_ ≠ (v453 : Value).ownBlock) v5 x5_1) ∧ qa (Kd.R Kd.bool 4 w' w.heap.size (fun k_ => some k_ ≠ (v5 : Value).ownBlock) v453 t452) ∧ qa (Below w.heap.size w w'))
    case atStart => exact ⟨(([] : List Bool)), (0), zz8, H', ⟨Nat.le_refl _⟩, ⟨zz89⟩, ⟨by (with_reducible repeat (first | apply Kd.R_alloc | apply Kd.R_drewN | apply Kd.R_drew)); exact Kd.R_mono HO454.out (fun _ hk => (by simp [Value.ownBlock]))⟩, ⟨zz32⟩⟩
    case round =>
     clear H';obtain ⟨x5_1, x24_1, rfl, HA, HK1, HO_5, HO_7, HB⟩ := hrel
     cases gk with
     | zero => exact absurd HA.out (by simp [qr.l0])
     | succ k1 =>
      have H := HA.out;clear HA;simp only [qr.l0] at H;by_cases c10 : x24_1 < (l1.length : Int)
      ·rw [if_pos c10] at H;have c10b0 : decide (x24_1 < (l1.length : Int)) = true := decide_eq_true c10;clear c10;by_cases c11 : 0 ≤ x24_1
       ·rw [if_pos c11] at H;have c11b0 : decide (0 ≤ x24_1) = true := decide_eq_true c11;clear c11;by_cases c12 : x24_1 < (l1.length : Int)
        ·rw [if_pos c12] at H;have c12b0 : decide (x24_1 < (l1.length : Int)) = true := decide_eq_true c12;clear c12;have H' := qa.mk H;clear H;have p455 : 0 ≤ (x24_1 : Int) := of_decide_eq_true zz13;have q455 : x24_1 < (l1.length : Int) := of_decide_eq_true zz13;obtain ⟨ad455, A455_5, c455_5, e455, hx455_0, hx455_1, hx455_2, hx455_3, hx455_4, hx455_5, hl455_5, hi455_5⟩ := qzc HR1.out x24_1 p455 q455;cases e455;replace hx455_0 := cx HB hx455_0;replace hx455_1 := cx HB hx455_1;replace hx455_2 := cx HB hx455_2;replace hx455_3 := cx HB hx455_3;replace hx455_4 := cx HB hx455_4;replace hx455_5 := cx HB hx455_5;clear hi455_5 hl455_5;replace p455 := eq_true p455;replace q455 := eq_true q455;go_wp2
         go_loopg [9, 10] k1 (fun kq v9 v10 w' => ∃ (x9_2 : Bool) (x10_2 : Int), v9 = .bool x9_2 ∧ v10 = .int .i64 x10_2 ∧ qa (qr.l1 kq l0 l1 x5_1 ji4 t452 x24_1 x9_2 x10_2 (l1.length : Int) x24_1 = some r) ∧ qa (kq ≤ k1) ∧ qa (Kd.R Kd.bool 4 w' w.heap.size (fun k_ => some k_ ≠ (v453 : Value).ownBlock) u5 x5_1) ∧ qa (Kd.R Kd.bool 4 w' w.heap.size (fun k_ => some k_ ≠ (u5 : Value).ownBlock) v453 t452) ∧ qa (Below w.heap.size w w'))
         case atStart => exact ⟨((ji4 == 0)), ((qf l1 x24_1).f1), (by first | rfl | (simp; done) | (simp only [← hji4] <;> (first | rfl | simp)) | (simp [*]; done)), zz8, H', ⟨Nat.le_refl _⟩, ⟨zz35⟩, ⟨zz36⟩, ⟨zz32⟩⟩
         case round =>
          clear H';obtain ⟨x9_2, x10_2, rfl, rfl, HA, HK2, HO_5, HO_7, HB⟩ := hrel
          cases gk with
          | zero => exact absurd HA.out (by simp [qr.l1])
          | succ k2 =>
           have H := HA.out;clear HA;simp only [qr.l1] at H;have HC13 := qa.mk H;clear H;go_upto_region 11 with (fail)
           go_cut [39] (fun v39 wc => ∃ (kq : Nat) (x39_12 : Bool), v39 = .bool x39_12 ∧ qa (qr.j2 kq l0 l1 x5_1 ji4 t452 x24_1 x9_2 x10_2 (l1.length : Int) x24_1 x39_12 = some r) ∧ qa (kq ≤ k2) ∧ qa (Kd.R Kd.bool 4 wc w.heap.size (fun k_ => some k_ ≠ (v453 : Value).ownBlock) u5 x5_1) ∧ qa (Kd.R Kd.bool 4 wc w.heap.size (fun k_ => some k_ ≠ (u5 : Value).ownBlock) v453 t452) ∧ qa (Below w.heap.size w wc))
           case first =>
            have H := HC13.out;clear HC13;by_cases c14 : ji4 > 0
            ·rw [if_pos c14] at H;have c14b0 : decide (0 < ji4) = true := decide_eq_true c14;clear c14
             (first | rw [c14b0] | (simp only [i64_w, i32_w]; rw [c14b0]) | rw [c14b2] | skip)
             have H' := qa.mk H;clear H;go_wp2;go_meet
             case rel => exact ⟨_, (decide (x10_2 > 0)), zz8, H', ⟨by have := HK1.out; have := HK2.out; first | omega | exact Nat.le_refl _⟩, ⟨zz35⟩, ⟨zz36⟩, ⟨zz32⟩⟩
            ·rw [if_neg c14] at H;have c14b0 : decide (0 < ji4) = false := decide_eq_false c14;clear c14
             (first | rw [c14b0] | (simp only [i64_w, i32_w]; rw [c14b0]) | rw [c14b2] | skip)
             have H' := qa.mk H;clear H;go_wp2;go_meet
             case rel => exact ⟨_, (false), zz8, H', ⟨by have := HK1.out; have := HK2.out; first | omega | exact Nat.le_refl _⟩, ⟨zz35⟩, ⟨zz36⟩, ⟨zz32⟩⟩
           case rest =>
            clear HC13;obtain ⟨kq, x39_12, rfl, HA, HJ12, HO_5, HO_7, HB⟩ := hcut
            cases kq with
            | zero => exact absurd HA.out (by simp [qr.j2])
            | succ kj12 =>
             have H := HA.out;clear HA;simp only [qr.j2] at H;by_cases c15 : x39_12 = true
             ·subst c15;(have H1 : (if x9_2 = true then (if 0 ≤ (wrap64 (x10_2 - 1)) then (if (wrap64 (x10_2 - 1)) < (l1.length : Int) then (if 0 ≤ ji4 then (if ji4 < (l0.length : Int) then (if (qg l0 ji4).f0 = true then (qr.l1 kj12 l0 l1 x5_1 ji4 t452 x24_1 true 0 (l1.length : Int) x24_1) else (qr.l1 kj12 l0 l1 x5_1 ji4 t452 x24_1 true ((qf l1 (wrap64 (x10_2 - 1))).f1) (l1.length : Int) x24_1)) else (none)) else (none)) else (none)) else (none)) else (if 0 ≤ (wrap64 (x10_2 - 1)) then (if (wrap64 (x10_2 - 1)) < (t452.length : Int) then (if (wrap64 (x10_2 - 1)) < (l1.length : Int) then (if 0 ≤ ji4 then (if ji4 < (l0.length : Int) then (if (qg l0 ji4).f0 = true then (qr.l1 kj12 l0 l1 x5_1 ji4 t452 x24_1 (rdOf false t452 (wrap64 (x10_2 - 1))) 0 (l1.length : Int) x24_1) else (qr.l1 kj12 l0 l1 x5_1 ji4 t452 x24_1 (rdOf false t452 (wrap64 (x10_2 - 1))) ((qf l1 (wrap64 (x10_2 - 1))).f1) (l1.length : Int) x24_1)) else (none)) else (none)) else (none)) else (none)) else (none))) = some r := by rw [if_pos rfl] at H; exact H);clear H;have H := H1;clear H1;by_cases c16 : x9_2 = true
              ·subst c16;(have H1 : (if 0 ≤ (wrap64 (x10_2 - 1)) then (if (wrap64 (x10_2 - 1)) < (l1.length : Int) then (if 0 ≤ ji4 then (if ji4 < (l0.length : Int) then (if (qg l0 ji4).f0 = true then (qr.l1 kj12 l0 l1 x5_1 ji4 t452 x24_1 true 0 (l1.length : Int) x24_1) else (qr.l1 kj12 l0 l1 x5_1 ji4 t452 x24_1 true ((qf l1 (wrap64 (x10_2 - 1))).f1) (l1.length : Int) x24_1)) else (none)) else (none)) else (none)) else (none)) = some r := by rw [if_pos rfl] at H; exact H);clear H;have H := H1;clear H1;obtain ⟨ji17, hji17⟩ : ∃ j_ : Int, (wrap64 (x10_2 - 1)) = j_ := ⟨_, rfl⟩;(replace H : (if 0 ≤ (ji17) then (if (ji17) < (l1.length : Int) then (if 0 ≤ ji4 then (if ji4 < (l0.length : Int) then (if (qg l0 ji4).f0 = true then (qr.l1 kj12 l0 l1 x5_1 ji4 t452 x24_1 true 0 (l1.length : Int) x24_1) else (qr.l1 kj12 l0 l1 x5_1 ji4 t452 x24_1 true ((qf l1 (ji17)).f1) (l1.length : Int) x24_1)) else (none)) else (none)) else (none)) else (none)) = some r := by first | (rw [hji17] at H; exact H) | (simp only [hji17] at H ⊢; exact H));have hji17w : (IntKind.i64.wrap (x10_2 - 1)) = ji17 := (i64_w _).trans hji17;by_cases c18 : 0 ≤ (ji17)
               ·rw [if_pos c18] at H;have c18b0 : decide (0 ≤ (ji17)) = true := decide_eq_true c18;clear c18;by_cases c19 : (ji17) < (l1.length : Int)
                ·rw [if_pos c19] at H;have c19b0 : decide ((ji17) < (l1.length : Int)) = true := decide_eq_true c19;clear c19;by_cases c20 : 0 ≤ ji4
                 ·rw [if_pos c20] at H;have c20b0 : decide (0 ≤ ji4) = true := decide_eq_true c20;clear c20;by_cases c21 : ji4 < (l0.length : Int)
                  ·rw [if_pos c21] at H;have c21b0 : decide (ji4 < (l0.length : Int)) = true := decide_eq_true c21;clear c21;obtain ⟨bq22, hbq22⟩ : ∃ b_ : Bool, b_ = ((qg l0 ji4).f0) := ⟨_, rfl⟩;(replace H : (if bq22 = true then (qr.l1 kj12 l0 l1 x5_1 ji4 t452 x24_1 true 0 (l1.length : Int) x24_1) else (qr.l1 kj12 l0 l1 x5_1 ji4 t452 x24_1 true ((qf l1 (ji17)).f1) (l1.length : Int) x24_1)) = some r := by rw [← hbq22] at H; exact H);have Nbq22 := qa.mk hbq22;clear hbq22
                   (try rw [← Nbq22.out])
                   by_cases c23 : bq22 = true
                   ·subst c23;(have H1 : (qr.l1 kj12 l0 l1 x5_1 ji4 t452 x24_1 true 0 (l1.length : Int) x24_1) = some r := by rw [if_pos rfl] at H; exact H);clear H;have H := H1;clear H1;have H' := qa.mk H;clear H;have p456 : 0 ≤ ((ji17) : Int) := of_decide_eq_true zz13;have q456 : (ji17) < (l1.length : Int) := of_decide_eq_true zz13;obtain ⟨ad456, A456_5, c456_5, e456, hx456_0, hx456_1, hx456_2, hx456_3, hx456_4, hx456_5, hl456_5, hi456_5⟩ := qzc HR1.out (ji17) p456 q456;obtain rfl : ad455 = ad456 := (by injection e456);replace hx456_0 := cx HB hx456_0;replace hx456_1 := cx HB hx456_1;replace hx456_2 := cx HB hx456_2;replace hx456_3 := cx HB hx456_3;replace hx456_4 := cx HB hx456_4;replace hx456_5 := cx HB hx456_5;have HR456_5 := qa.mk hi456_5;have HC456_5 := qa.mk hl456_5;clear hi456_5 hl456_5;replace p456 := eq_true p456;replace q456 := eq_true q456;have p457 : 0 ≤ (ji4 : Int) := of_decide_eq_true zz13;have q457 : ji4 < (l0.length : Int) := of_decide_eq_true zz13;obtain ⟨ad457, A457_4, c457_4, e457, hx457_0, hx457_1, hx457_2, hx457_3, hx457_4, hl457_4, hi457_4⟩ := at_T58 HR0.out ji4 p457 q457
                    (try rw [← Nbq22.out] at hx457_0)
                    (try rw [← Nbq22.out] at hx457_1)
                    cases e457;replace hx457_0 := cx HB hx457_0;replace hx457_1 := cx HB hx457_1;replace hx457_2 := cx HB hx457_2;replace hx457_3 := cx HB hx457_3;replace hx457_4 := cx HB hx457_4;have HR457_4 := qa.mk hi457_4;have HC457_4 := qa.mk hl457_4;clear hi457_4 hl457_4;replace p457 := eq_true p457;replace q457 := eq_true q457;go_wp2;go_roundg kj12
                    case measure => have := HK1.out; have := HK2.out; have := HJ12.out; omega
                    case rel => (try rw [← Nbq22.out]); exact ⟨(true), (0), zz8, zz8, H', ⟨zz16⟩, ⟨zz35⟩, ⟨zz36⟩, ⟨zz32⟩⟩
                   ·replace c23 := Bool.eq_false_iff.mpr c23;subst c23;(have H1 : (qr.l1 kj12 l0 l1 x5_1 ji4 t452 x24_1 true ((qf l1 (ji17)).f1) (l1.length : Int) x24_1) = some r := by rw [if_neg (show ¬ (false = true) by decide)] at H; exact H);clear H;have H := H1;clear H1;have H' := qa.mk H;clear H;have p456 : 0 ≤ ((ji17) : Int) := of_decide_eq_true zz13;have q456 : (ji17) < (l1.length : Int) := of_decide_eq_true zz13;obtain ⟨ad456, A456_5, c456_5, e456, hx456_0, hx456_1, hx456_2, hx456_3, hx456_4, hx456_5, hl456_5, hi456_5⟩ := qzc HR1.out (ji17) p456 q456;obtain rfl : ad455 = ad456 := (by injection e456);replace hx456_0 := cx HB hx456_0;replace hx456_1 := cx HB hx456_1;replace hx456_2 := cx HB hx456_2;replace hx456_3 := cx HB hx456_3;replace hx456_4 := cx HB hx456_4;replace hx456_5 := cx HB hx456_5;have HR456_5 := qa.mk hi456_5;have HC456_5 := qa.mk hl456_5;clear hi456_5 hl456_5;replace p456 := eq_true p456;replace q456 := eq_true q456;have p457 : 0 ≤ (ji4 : Int) := of_decide_eq_true zz13;have q457 : ji4 < (l0.length : Int) := of_decide_eq_true zz13;obtain ⟨ad457, A457_4, c457_4, e457, hx457_0, hx457_1, hx457_2, hx457_3, hx457_4, hl457_4, hi457_4⟩ := at_T58 HR0.out ji4 p457 q457
                    (try rw [← Nbq22.out] at hx457_0)
                    (try rw [← Nbq22.out] at hx457_1)
                    cases e457;replace hx457_0 := cx HB hx457_0;replace hx457_1 := cx HB hx457_1;replace hx457_2 := cx HB hx457_2;replace hx457_3 := cx HB hx457_3;replace hx457_4 := cx HB hx457_4;have HR457_4 := qa.mk hi457_4;have HC457_4 := qa.mk hl457_4;clear hi457_4 hl457_4;replace p457 := eq_true p457;replace q457 := eq_true q457;go_wp2;go_roundg kj12
                    case measure => have := HK1.out; have := HK2.out; have := HJ12.out; omega
                    case rel => (try rw [← Nbq22.out]); exact ⟨(true), ((qf l1 (ji17)).f1), zz8, (by first | rfl | (simp; done) | (simp only [← hji17] <;> (first | rfl | simp)) | (simp [*]; done)), H', ⟨zz16⟩, ⟨zz35⟩, ⟨zz36⟩, ⟨zz32⟩⟩
                  ·rw [if_neg c21] at H;exact absurd H (by simp)
                 ·rw [if_neg c20] at H;exact absurd H (by simp)
                ·rw [if_neg c19] at H;exact absurd H (by simp)
               ·rw [if_neg c18] at H;exact absurd H (by simp)
              ·replace c16 := Bool.eq_false_iff.mpr c16;subst c16;(have H1 : (if 0 ≤ (wrap64 (x10_2 - 1)) then (if (wrap64 (x10_2 - 1)) < (t452.length : Int) then (if (wrap64 (x10_2 - 1)) < (l1.length : Int) then (if 0 ≤ ji4 then (if ji4 < (l0.length : Int) then (if (qg l0 ji4).f0 = true then (qr.l1 kj12 l0 l1 x5_1 ji4 t452 x24_1 (rdOf false t452 (wrap64 (x10_2 - 1))) 0 (l1.length : Int) x24_1) else (qr.l1 kj12 l0 l1 x5_1 ji4 t452 x24_1 (rdOf false t452 (wrap64 (x10_2 - 1))) ((qf l1 (wrap64 (x10_2 - 1))).f1) (l1.length : Int) x24_1)) else (none)) else (none)) else (none)) else (none)) else (none)) = some r := by rw [if_neg (show ¬ (false = true) by decide)] at H; exact H);clear H;have H := H1;clear H1;obtain ⟨ji24, hji24⟩ : ∃ j_ : Int, (wrap64 (x10_2 - 1)) = j_ := ⟨_, rfl⟩;(replace H : (if 0 ≤ (ji24) then (if (ji24) < (t452.length : Int) then (if (ji24) < (l1.length : Int) then (if 0 ≤ ji4 then (if ji4 < (l0.length : Int) then (if (qg l0 ji4).f0 = true then (qr.l1 kj12 l0 l1 x5_1 ji4 t452 x24_1 (rdOf false t452 (ji24)) 0 (l1.length : Int) x24_1) else (qr.l1 kj12 l0 l1 x5_1 ji4 t452 x24_1 (rdOf false t452 (ji24)) ((qf l1 (ji24)).f1) (l1.length : Int) x24_1)) else (none)) else (none)) else (none)) else (none)) else (none)) = some r := by first | (rw [hji24] at H; exact H) | (simp only [hji24] at H ⊢; exact H));have hji24w : (IntKind.i64.wrap (x10_2 - 1)) = ji24 := (i64_w _).trans hji24;by_cases c25 : 0 ≤ (ji24)
               ·rw [if_pos c25] at H;have c25b0 : decide (0 ≤ (ji24)) = true := decide_eq_true c25;clear c25;by_cases c26 : (ji24) < (t452.length : Int)
                ·rw [if_pos c26] at H;have c26b0 : decide ((ji24) < (t452.length : Int)) = true := decide_eq_true c26;clear c26;by_cases c27 : (ji24) < (l1.length : Int)
                 ·rw [if_pos c27] at H;have c27b0 : decide ((ji24) < (l1.length : Int)) = true := decide_eq_true c27;clear c27;by_cases c28 : 0 ≤ ji4
                  ·rw [if_pos c28] at H;have c28b0 : decide (0 ≤ ji4) = true := decide_eq_true c28;clear c28;by_cases c29 : ji4 < (l0.length : Int)
                   ·rw [if_pos c29] at H;have c29b0 : decide (ji4 < (l0.length : Int)) = true := decide_eq_true c29;clear c29;obtain ⟨bq30, hbq30⟩ : ∃ b_ : Bool, b_ = ((qg l0 ji4).f0) := ⟨_, rfl⟩;(replace H : (if bq30 = true then (qr.l1 kj12 l0 l1 x5_1 ji4 t452 x24_1 (rdOf false t452 (ji24)) 0 (l1.length : Int) x24_1) else (qr.l1 kj12 l0 l1 x5_1 ji4 t452 x24_1 (rdOf false t452 (ji24)) ((qf l1 (ji24)).f1) (l1.length : Int) x24_1)) = some r := by rw [← hbq30] at H; exact H);have Nbq30 := qa.mk hbq30;clear hbq30
                    (try rw [← Nbq30.out])
                    by_cases c31 : bq30 = true
                    ·subst c31;(have H1 : (qr.l1 kj12 l0 l1 x5_1 ji4 t452 x24_1 (rdOf false t452 (ji24)) 0 (l1.length : Int) x24_1) = some r := by rw [if_pos rfl] at H; exact H);clear H;have H := H1;clear H1;have H' := qa.mk H;clear H;obtain ⟨Ao32, co32, eo32⟩ := Kd.R_slice HO_7.out;subst eo32;have p458 : 0 ≤ ((ji24) : Int) := of_decide_eq_true zz13;have q458 : (ji24) < (t452.length : Int) := of_decide_eq_true zz13;obtain ⟨ad458, e458, hx458_0⟩ := Kd.at_bool (Kd.R_reads' HO_7.out).2.2 (ji24) p458 q458
                     (try rw [← Nbq30.out] at hx458_0)
                     cases e458;replace p458 := eq_true p458;replace q458 := eq_true q458;have p459 : 0 ≤ ((ji24) : Int) := of_decide_eq_true zz13;have q459 : (ji24) < (l1.length : Int) := of_decide_eq_true zz13;obtain ⟨ad459, A459_5, c459_5, e459, hx459_0, hx459_1, hx459_2, hx459_3, hx459_4, hx459_5, hl459_5, hi459_5⟩ := qzc HR1.out (ji24) p459 q459;obtain rfl : ad455 = ad459 := (by injection e459);replace hx459_0 := cx HB hx459_0;replace hx459_1 := cx HB hx459_1;replace hx459_2 := cx HB hx459_2;replace hx459_3 := cx HB hx459_3;replace hx459_4 := cx HB hx459_4;replace hx459_5 := cx HB hx459_5;have HR459_5 := qa.mk hi459_5;have HC459_5 := qa.mk hl459_5;clear hi459_5 hl459_5;replace p459 := eq_true p459;replace q459 := eq_true q459;have p460 : 0 ≤ (ji4 : Int) := of_decide_eq_true zz13;have q460 : ji4 < (l0.length : Int) := of_decide_eq_true zz13;obtain ⟨ad460, A460_4, c460_4, e460, hx460_0, hx460_1, hx460_2, hx460_3, hx460_4, hl460_4, hi460_4⟩ := at_T58 HR0.out ji4 p460 q460
                     (try rw [← Nbq30.out] at hx460_0)
                     (try rw [← Nbq30.out] at hx460_1)
                     cases e460;replace hx460_0 := cx HB hx460_0;replace hx460_1 := cx HB hx460_1;replace hx460_2 := cx HB hx460_2;replace hx460_3 := cx HB hx460_3;replace hx460_4 := cx HB hx460_4;have HR460_4 := qa.mk hi460_4;have HC460_4 := qa.mk hl460_4;clear hi460_4 hl460_4;replace p460 := eq_true p460;replace q460 := eq_true q460;go_wp2;go_roundg kj12
                     case measure => have := HK1.out; have := HK2.out; have := HJ12.out; omega
                     case rel => (try rw [← Nbq30.out]); exact ⟨(rdOf false t452 (ji24)), (0), zz31, zz8, H', ⟨zz16⟩, ⟨zz35⟩, ⟨zz36⟩, ⟨zz32⟩⟩
                    ·replace c31 := Bool.eq_false_iff.mpr c31;subst c31;(have H1 : (qr.l1 kj12 l0 l1 x5_1 ji4 t452 x24_1 (rdOf false t452 (ji24)) ((qf l1 (ji24)).f1) (l1.length : Int) x24_1) = some r := by rw [if_neg (show ¬ (false = true) by decide)] at H; exact H);clear H;have H := H1;clear H1;have H' := qa.mk H;clear H;obtain ⟨Ao33, co33, eo33⟩ := Kd.R_slice HO_7.out;subst eo33;have p458 : 0 ≤ ((ji24) : Int) := of_decide_eq_true zz13;have q458 : (ji24) < (t452.length : Int) := of_decide_eq_true zz13;obtain ⟨ad458, e458, hx458_0⟩ := Kd.at_bool (Kd.R_reads' HO_7.out).2.2 (ji24) p458 q458
                     (try rw [← Nbq30.out] at hx458_0)
                     cases e458;replace p458 := eq_true p458;replace q458 := eq_true q458;have p459 : 0 ≤ ((ji24) : Int) := of_decide_eq_true zz13;have q459 : (ji24) < (l1.length : Int) := of_decide_eq_true zz13;obtain ⟨ad459, A459_5, c459_5, e459, hx459_0, hx459_1, hx459_2, hx459_3, hx459_4, hx459_5, hl459_5, hi459_5⟩ := qzc HR1.out (ji24) p459 q459;obtain rfl : ad455 = ad459 := (by injection e459);replace hx459_0 := cx HB hx459_0;replace hx459_1 := cx HB hx459_1;replace hx459_2 := cx HB hx459_2;replace hx459_3 := cx HB hx459_3;replace hx459_4 := cx HB hx459_4;replace hx459_5 := cx HB hx459_5;have HR459_5 := qa.mk hi459_5;have HC459_5 := qa.mk hl459_5;clear hi459_5 hl459_5;replace p459 := eq_true p459;replace q459 := eq_true q459;have p460 : 0 ≤ (ji4 : Int) := of_decide_eq_true zz13;have q460 : ji4 < (l0.length : Int) := of_decide_eq_true zz13;obtain ⟨ad460, A460_4, c460_4, e460, hx460_0, hx460_1, hx460_2, hx460_3, hx460_4, hl460_4, hi460_4⟩ := at_T58 HR0.out ji4 p460 q460
                     (try rw [← Nbq30.out] at hx460_0)
                     (try rw [← Nbq30.out] at hx460_1)
                     cases e460;replace hx460_0 := cx HB hx460_0;replace hx460_1 := cx HB hx460_1;replace hx460_2 := cx HB hx460_2;replace hx460_3 := cx HB hx460_3;replace hx460_4 := cx HB hx460_4;have HR460_4 := qa.mk hi460_4;have HC460_4 := qa.mk hl460_4;clear hi460_4 hl460_4;replace p460 := eq_true p460;replace q460 := eq_true q460;go_wp2;go_roundg kj12
                     case measure => have := HK1.out; have := HK2.out; have := HJ12.out; omega
                     case rel => (try rw [← Nbq30.out]); exact ⟨(rdOf false t452 (ji24)), ((qf l1 (ji24)).f1), zz31, zz31, H', ⟨zz16⟩, ⟨zz35⟩, ⟨zz36⟩, ⟨zz32⟩⟩
                   ·rw [if_neg c29] at H;exact absurd H (by simp)
                  ·rw [if_neg c28] at H;exact absurd H (by simp)
                 ·rw [if_neg c27] at H;exact absurd H (by simp)
                ·rw [if_neg c26] at H;exact absurd H (by simp)
               ·rw [if_neg c25] at H;exact absurd H (by simp)
             ·replace c15 := Bool.eq_false_iff.mpr c15;subst c15;(have H1 : (if x9_2 = true then (if 0 ≤ ji4 then (if ji4 < (l0.length : Int) then (if 0 ≤ x24_1 then (if x24_1 < (l1.length : Int) then ((qgb.f kj12 ((qg l0 ji4).f0) ((qg l0 ji4).f1) ((qg l0 ji4).f2) ((qg l0 ji4).f3) ((qg l0 ji4).f4) ((qf l1 x24_1).f0) ((qf l1 x24_1).f1) ((qf l1 x24_1).f2) ((qf l1 x24_1).f3) ((qf l1 x24_1).f4) ((qf l1 x24_1).f5)).bind fun t463 => (if x5_1.length < 140737488355328 then (qr.l0 kj12 l0 l1 (x5_1 ++ [t463]) ji4 t452 (l1.length : Int) (wrap64 (x24_1 + 1))) else (none))) else (none)) else (none)) else (none)) else (none)) else (if x5_1.length < 140737488355328 then (qr.l0 kj12 l0 l1 (x5_1 ++ [false]) ji4 t452 (l1.length : Int) (wrap64 (x24_1 + 1))) else (none))) = some r := by rw [if_neg (show ¬ (false = true) by decide)] at H; exact H);clear H;have H := H1;clear H1;by_cases c34 : x9_2 = true
              ·subst c34;(have H1 : (if 0 ≤ ji4 then (if ji4 < (l0.length : Int) then (if 0 ≤ x24_1 then (if x24_1 < (l1.length : Int) then ((qgb.f kj12 ((qg l0 ji4).f0) ((qg l0 ji4).f1) ((qg l0 ji4).f2) ((qg l0 ji4).f3) ((qg l0 ji4).f4) ((qf l1 x24_1).f0) ((qf l1 x24_1).f1) ((qf l1 x24_1).f2) ((qf l1 x24_1).f3) ((qf l1 x24_1).f4) ((qf l1 x24_1).f5)).bind fun t463 => (if x5_1.length < 140737488355328 then (qr.l0 kj12 l0 l1 (x5_1 ++ [t463]) ji4 t452 (l1.length : Int) (wrap64 (x24_1 + 1))) else (none))) else (none)) else (none)) else (none)) else (none)) = some r := by rw [if_pos rfl] at H; exact H);clear H;have H := H1;clear H1;by_cases c35 : 0 ≤ ji4
               ·rw [if_pos c35] at H;have c35b0 : decide (0 ≤ ji4) = true := decide_eq_true c35;clear c35;by_cases c36 : ji4 < (l0.length : Int)
                ·rw [if_pos c36] at H;have c36b0 : decide (ji4 < (l0.length : Int)) = true := decide_eq_true c36;clear c36;by_cases c37 : 0 ≤ x24_1
                 ·rw [if_pos c37] at H;have c37b0 : decide (0 ≤ x24_1) = true := decide_eq_true c37;clear c37;by_cases c38 : x24_1 < (l1.length : Int)
                  ·rw [if_pos c38] at H;have c38b0 : decide (x24_1 < (l1.length : Int)) = true := decide_eq_true c38;clear c38;replace H := Option.bind_eq_some_iff.mp H;obtain ⟨t463, A390, H⟩ := H;replace H : (if x5_1.length < 140737488355328 then (qr.l0 kj12 l0 l1 (x5_1 ++ [t463]) ji4 t452 (l1.length : Int) (wrap64 (x24_1 + 1))) else (none)) = some r := H;have A39 := qa.mk A390;clear A390;by_cases c40 : x5_1.length < 140737488355328
                   ·rw [if_pos c40] at H;have LMc40 := qa.mk c40;clear c40;obtain ⟨y464, hy464⟩ : ∃ y_ : List Bool, y_ = (x5_1 ++ [t463]) := ⟨_, rfl⟩;(replace H : (qr.l0 kj12 l0 l1 y464 ji4 t452 (l1.length : Int) (wrap64 (x24_1 + 1))) = some r := by first | (rw [hy464]; with_reducible exact H) | (have H2_ := (Option.bind_some _ _).symm.trans H; rw [hy464]; with_reducible exact H2_) | (have H2_ := (Option.bind_some _ _).symm.trans H; with_reducible exact H2_) | with_reducible exact H | (rw [hy464]; exact H) | exact H);have Ny464 := qa.mk hy464;clear hy464;have H' := qa.mk H;clear H;(try go_wp2);have n0_ := qa.mk (Kd.R_drew HO_5.out);have n1_ := qa.mk (Kd.R_drew HO_7.out);have n2_ := qa.mk (qd HB.out);clear HO_5 HO_7 HB;have HO_5 := n0_;have HO_7 := n1_;have HB := n2_;clear n0_ n1_ n2_;have p461 : 0 ≤ (ji4 : Int) := of_decide_eq_true zz13;have q461 : ji4 < (l0.length : Int) := of_decide_eq_true zz13;obtain ⟨ad461, A461_4, c461_4, e461, hx461_0, hx461_1, hx461_2, hx461_3, hx461_4, hl461_4, hi461_4⟩ := at_T58 HR0.out ji4 p461 q461;have hw461_4 := hx461_4;have hw461_3 := hx461_3;have hw461_2 := hx461_2;have hw461_1 := hx461_1;have hw461_0 := hx461_0;cases e461;replace hx461_0 := cx HB hx461_0;replace hx461_1 := cx HB hx461_1;replace hx461_2 := cx HB hx461_2;replace hx461_3 := cx HB hx461_3;replace hx461_4 := cx HB hx461_4;have HR461_4 := qa.mk hi461_4;have HC461_4 := qa.mk hl461_4;clear hi461_4 hl461_4;replace p461 := eq_true p461;replace q461 := eq_true q461;have p462 : 0 ≤ (x24_1 : Int) := of_decide_eq_true zz13;have q462 : x24_1 < (l1.length : Int) := of_decide_eq_true zz13;obtain ⟨ad462, A462_5, c462_5, e462, hx462_0, hx462_1, hx462_2, hx462_3, hx462_4, hx462_5, hl462_5, hi462_5⟩ := qzc HR1.out x24_1 p462 q462;have hw462_5 := hx462_5;have hw462_4 := hx462_4;have hw462_3 := hx462_3;have hw462_2 := hx462_2;have hw462_1 := hx462_1;have hw462_0 := hx462_0;obtain rfl : ad455 = ad462 := (by injection e462);replace hx462_0 := cx HB hx462_0;replace hx462_1 := cx HB hx462_1;replace hx462_2 := cx HB hx462_2;replace hx462_3 := cx HB hx462_3;replace hx462_4 := cx HB hx462_4;replace hx462_5 := cx HB hx462_5;have HR462_5 := qa.mk hi462_5;have HC462_5 := qa.mk hl462_5;clear hi462_5 hl462_5;replace p462 := eq_true p462;replace q462 := eq_true q462;refine start_ (n := 16) (S := fun w' => w'.cell? (ad461.add ((ji4).toNat * 5)) = some (.bool ((qg l0 ji4).f0)) ∧ w'.cell? ⟨(ad461.add ((ji4).toNat * 5)).block, (ad461.add ((ji4).toNat * 5)).off + 1, none⟩ = some (.bool ((qg l0 ji4).f1)) ∧ w'.cell? ⟨(ad461.add ((ji4).toNat * 5)).block, (ad461.add ((ji4).toNat * 5)).off + 2, none⟩ = some (.string ((qg l0 ji4).f2)) ∧ w'.cell? ⟨(ad461.add ((ji4).toNat * 5)).block, (ad461.add ((ji4).toNat * 5)).off + 3, none⟩ = some (.string ((qg l0 ji4).f3)) ∧ w'.cell? ⟨(ad461.add ((ji4).toNat * 5)).block, (ad461.add ((ji4).toNat * 5)).off + 4, none⟩ = some (.slice A461_4 ((qg l0 ji4).f4).length c461_4) ∧ w'.cell? (ad455.add ((x24_1).toNat * 6)) = some (.int .i64 ((qf l1 x24_1).f0)) ∧ w'.cell? ⟨(ad455.add ((x24_1).toNat * 6)).block, (ad455.add ((x24_1).toNat * 6)).off + 1, none⟩ = some (.int .i64 ((qf l1 x24_1).f1)) ∧ w'.cell? ⟨(ad455.add ((x24_1).toNat * 6)).block, (ad455.add ((x24_1).toNat * 6)).off + 2, none⟩ = some (.string ((qf l1 x24_1).f2)) ∧ w'.cell? ⟨(ad455.add ((x24_1).toNat * 6)).block, (ad455.add ((x24_1).toNat * 6)).off + 3, none⟩ = some (.string ((qf l1 x24_1).f3)) ∧ w'.cell? ⟨(ad455.add ((x24_1).toNat * 6)).block, (ad455.add ((x24_1).toNat * 6)).off + 4, none⟩ = some (.string ((qf l1 x24_1).f4)) ∧ w'.cell? ⟨(ad455.add ((x24_1).toNat * 6)).block, (ad455.add ((x24_1).toNat * 6)).off + 5, none⟩ = some (.slice A462_5 ((qf l1 x24_1).f5).length c462_5)) (ds := []) (bb 16 0) (by kernel_rfl) rfl rfl ⟨(cx HB hw461_0), (cx HB hw461_1), (cx HB hw461_2), (cx HB hw461_3), (cx HB hw461_4), (cx HB hw462_0), (cx HB hw462_1), (cx HB hw462_2), (cx HB hw462_3), (cx HB hw462_4), (cx HB hw462_5)⟩ (fun hHeld => ?_); refine with_tabW qr.tab16 qr.bits16 (fun HT_ HW_ => ?_);generalize wc.drew = w41 at HO_5 HO_7 HB HR461_4 HR462_5 hx461_0 hx461_1 hx461_2 hx461_3 hx461_4 hx462_0 hx462_1 hx462_2 hx462_3 hx462_4 hx462_5 hHeld ⊢;refine pS 0 (some 59) (bb 16 1) ?_;refine pS 1 (some 60) (bb 16 3) ?_;refine pS 2 (some 61) (bb 16 7) ?_;refine pS 3 (some 62) (bb 16 15) ?_;refine pS 4 (some 63) (bb 16 31) ?_;refine pS 5 (some 64) (bb 16 63) ?_;refine pS 7 (some 66) (bb 16 191) ?_;refine pS 8 (some 67) (bb 16 447) ?_;refine pS 9 (some 68) (bb 16 959) ?_;refine tS 6 (some 65) (bb 16 1023) rfl hHeld (by rintro w' ⟨s0, s1, s2, s3, s4, s5, s6, s7, s8, s9, s10⟩; go_simp; with_reducible rfl) ?_;refine tS 10 (some 69) (bb 16 2047) rfl hHeld (by rintro w' ⟨s0, s1, s2, s3, s4, s5, s6, s7, s8, s9, s10⟩; go_simp; with_reducible rfl) ?_;refine one_ (i := 11) (N := some 70) (bb 16 4095) rfl rfl (one_of HT_.out (by kernel_rfl)) (by decide) (fun K hK => ?_);refine goes_ Tryz.func54 (by kernel_rfl) rfl #[.agg #[.bool ((qg l0 ji4).f0), .bool ((qg l0 ji4).f1), .string ((qg l0 ji4).f2), .string ((qg l0 ji4).f3), .slice A461_4 ((qg l0 ji4).f4).length c461_4], .agg #[.int .i64 ((qf l1 x24_1).f0), .int .i64 ((qf l1 x24_1).f1), .string ((qf l1 x24_1).f2), .string ((qf l1 x24_1).f3), .string ((qf l1 x24_1).f4), .slice A462_5 ((qf l1 x24_1).f5).length c462_5]] (by rfl) rfl rfl (by (try simp only [List.map_toArray, List.map_cons, List.map_nil]); first | done | (simp only [hji4]; rfl) | rfl | (simp only [List.length_drop, List.length_take]; rfl)) ?_;with_reducible refine (qgb.calls kj12 ((qg l0 ji4).f0) ((qg l0 ji4).f1) ((qg l0 ji4).f2) ((qg l0 ji4).f3) _ _ ((qg l0 ji4).f4) ((qf l1 x24_1).f0) ((qf l1 x24_1).f1) ((qf l1 x24_1).f2) ((qf l1 x24_1).f3) ((qf l1 x24_1).f4) _ _ ((qf l1 x24_1).f5) t463 _ ?side1 ?side2 ?side3 ?side4 A39.out).mono ?_
                    (case side1 => repeat (first | exact (Kd.C_below HR461_4.out HB.out) | (with_reducible refine Kd.C_alloc ?_ _) | (with_reducible refine Kd.C_drewN ?_ _) | (with_reducible refine Kd.C_drew ?_)))
                    (case side2 => exact HC461_4.out)
                    (case side3 => repeat (first | exact (Kd.C_below HR462_5.out HB.out) | (with_reducible refine Kd.C_alloc ?_ _) | (with_reducible refine Kd.C_drewN ?_ _) | (with_reducible refine Kd.C_drew ?_)))
                    (case side4 => exact HC462_5.out)
                    rintro e w42 ⟨rfl, hb⟩;refine ⟨_, rfl, ?_⟩;have n0_ := qa.mk (Kd.R_below zz35 hb);have n1_ := qa.mk (Kd.R_below zz36 hb);have n2_ := qa.mk (qo zz32 hb);clear HO_5 HO_7 HB;have HO_5 := n0_;have HO_7 := n1_;have HB := n2_;clear n0_ n1_ n2_
                    (try clear hb)
                    (try clear hb2)
                    (try clear hk)
                    (try clear hi)
                    refine hK.out _ _ ⟨(cx HB hw461_0), (cx HB hw461_1), (cx HB hw461_2), (cx HB hw461_3), (cx HB hw461_4), (cx HB hw462_0), (cx HB hw462_1), (cx HB hw462_2), (cx HB hw462_3), (cx HB hw462_4), (cx HB hw462_5)⟩ (fun hHeld => ?_);clear hK K;refine norm_ (a' := ?_) ?_ ?_;rotate_left
                    ·show Act.put _ (some 70) _ = _;simp only [Act.put, List.setIfInBounds_toArray, List.set_cons_zero, List.set_cons_succ, i64_w, i32_w];rfl
                    refine pS 12 (some 71) (bb 16 8191) ?_;refine one_ (i := 13) (N := some 72) (bb 16 16383) rfl rfl (one_of HT_.out (by kernel_rfl)) (by decide) (fun K hK => ?_);refine value_ (w1 := ?_) (v := ?_) (by rfl) rfl ?_ ?_;rotate_left 2
                    ·go_simp;constructor
                     ·rfl
                     ·rfl
                    refine hK.out _ _ ⟨(World.cell?_alloc_lt _ _ _ (qhd _ _ ((cx HB hw461_0)))).trans ((cx HB hw461_0)), (World.cell?_alloc_lt _ _ _ (qhd _ _ ((cx HB hw461_1)))).trans ((cx HB hw461_1)), (World.cell?_alloc_lt _ _ _ (qhd _ _ ((cx HB hw461_2)))).trans ((cx HB hw461_2)), (World.cell?_alloc_lt _ _ _ (qhd _ _ ((cx HB hw461_3)))).trans ((cx HB hw461_3)), (World.cell?_alloc_lt _ _ _ (qhd _ _ ((cx HB hw461_4)))).trans ((cx HB hw461_4)), (World.cell?_alloc_lt _ _ _ (qhd _ _ ((cx HB hw462_0)))).trans ((cx HB hw462_0)), (World.cell?_alloc_lt _ _ _ (qhd _ _ ((cx HB hw462_1)))).trans ((cx HB hw462_1)), (World.cell?_alloc_lt _ _ _ (qhd _ _ ((cx HB hw462_2)))).trans ((cx HB hw462_2)), (World.cell?_alloc_lt _ _ _ (qhd _ _ ((cx HB hw462_3)))).trans ((cx HB hw462_3)), (World.cell?_alloc_lt _ _ _ (qhd _ _ ((cx HB hw462_4)))).trans ((cx HB hw462_4)), (World.cell?_alloc_lt _ _ _ (qhd _ _ ((cx HB hw462_5)))).trans ((cx HB hw462_5))⟩ (fun hHeld => ?_);clear hK K;refine norm_ (a' := ?_) ?_ ?_;rotate_left
                    ·show Act.put _ (some 72) _ = _;simp only [Act.put, List.setIfInBounds_toArray, List.set_cons_zero, List.set_cons_succ, i64_w, i32_w];rfl
                    refine one_ (i := 14) (N := some 73) (bb 16 32767) rfl rfl (one_of HT_.out (by kernel_rfl)) (by decide) (fun K hK => ?_);refine Kd.R_append_step Kd.bool (w0 := w) w.heap.size (by rfl) (.tmp 59) (.tmp 72) 80 4 (.bool false) 1 rfl Tryz.underlying80 info4 rfl (by decide) (by omega) u5 x5_1 t463 [.bool t463] (fun k_ => some k_ ≠ (v453 : Value).ownBlock) (fun _ => False) rfl rfl ?aP (fun _ hk => hk.elim) ?aF ?aO ?aB ?aS ?aL ?_
                    (case aP => exact rfl)
                    (case aB => exact zz32)
                    (case aF => exact zz109)
                    (case aO => exact zz35)
                    (case aS => exact zz64)
                    (case aL => have := LMc40.out; omega)
                    intro v465 w43 ho hb hg hat;rw [← Ny464.out] at ho;have n0_ := qa.mk (Kd.R_after (ok := (fun _ => True)) zz91 hg hat);have n1_ := qa.mk (hb);have n2_ := qa.mk (ho);clear HO_7 HB HO_5;have HO_7 := n0_;have HB := n1_;have HO466 := n2_;clear n0_ n1_ n2_ ho hb hg hat;refine hK.out _ _ ⟨(cx HB hw461_0), (cx HB hw461_1), (cx HB hw461_2), (cx HB hw461_3), (cx HB hw461_4), (cx HB hw462_0), (cx HB hw462_1), (cx HB hw462_2), (cx HB hw462_3), (cx HB hw462_4), (cx HB hw462_5)⟩ (fun hHeld => ?_);clear hK K;refine norm_ (a' := ?_) ?_ ?_;rotate_left
                    ·show Act.put _ (some 73) _ = _;simp only [Act.put, List.setIfInBounds_toArray, List.set_cons_zero, List.set_cons_succ, i64_w, i32_w];rfl
                    refine pS 15 (some 5) (bb 16 65535) ?_;refine done_ (done_of HT_.out (by kernel_rfl)) ?_;(try go_wp2);go_roundg kj12
                    case measure => have := HK1.out; have := HK2.out; have := HJ12.out; omega
                    case rel => exact ⟨(y464), (wrap64 (x24_1 + 1)), zz8, H', ⟨zz16⟩, ⟨by (with_reducible repeat (first | apply Kd.R_alloc | apply Kd.R_drewN | apply Kd.R_drew)); exact HO466.out⟩, ⟨zz83⟩, ⟨zz32⟩⟩
                   ·rw [if_neg c40] at H;exact absurd H (by simp)
                  ·rw [if_neg c38] at H;exact absurd H (by simp)
                 ·rw [if_neg c37] at H;exact absurd H (by simp)
                ·rw [if_neg c36] at H;exact absurd H (by simp)
               ·rw [if_neg c35] at H;exact absurd H (by simp)
              ·replace c34 := Bool.eq_false_iff.mpr c34;subst c34;(have H1 : (if x5_1.length < 140737488355328 then (qr.l0 kj12 l0 l1 (x5_1 ++ [false]) ji4 t452 (l1.length : Int) (wrap64 (x24_1 + 1))) else (none)) = some r := by rw [if_neg (show ¬ (false = true) by decide)] at H; exact H);clear H;have H := H1;clear H1;by_cases c44 : x5_1.length < 140737488355328
               ·rw [if_pos c44] at H;have LMc44 := qa.mk c44;clear c44;obtain ⟨y467, hy467⟩ : ∃ y_ : List Bool, y_ = (x5_1 ++ [false]) := ⟨_, rfl⟩;(replace H : (qr.l0 kj12 l0 l1 y467 ji4 t452 (l1.length : Int) (wrap64 (x24_1 + 1))) = some r := by first | (rw [hy467]; with_reducible exact H) | (have H2_ := (Option.bind_some _ _).symm.trans H; rw [hy467]; with_reducible exact H2_) | (have H2_ := (Option.bind_some _ _).symm.trans H; with_reducible exact H2_) | with_reducible exact H | (rw [hy467]; exact H) | exact H);have Ny467 := qa.mk hy467;clear hy467;have H' := qa.mk H;clear H;(try go_wp2);have n0_ := qa.mk (Kd.R_drew HO_5.out);have n1_ := qa.mk (Kd.R_drew HO_7.out);have n2_ := qa.mk (qd HB.out);clear HO_5 HO_7 HB;have HO_5 := n0_;have HO_7 := n1_;have HB := n2_;clear n0_ n1_ n2_;refine start_ (n := 16) (S := fun w' => True) (ds := []) (bb 16 0) (by kernel_rfl) rfl rfl trivial (fun hHeld => ?_); refine with_tabW qr.tab16 qr.bits16 (fun HT_ HW_ => ?_);generalize wc.drew = w45 at HO_5 HO_7 HB hHeld ⊢;refine pS 0 (some 59) (bb 16 1) ?_;refine pS 1 (some 60) (bb 16 3) ?_;refine pS 2 (some 61) (bb 16 7) ?_;refine pU 3 (some 62) (bb 16 15) ?_;refine pU 4 (some 63) (bb 16 31) ?_;refine pU 5 (some 64) (bb 16 63) ?_;refine pU 6 (some 65) (bb 16 127) ?_;refine pU 7 (some 66) (bb 16 255) ?_;refine pU 8 (some 67) (bb 16 511) ?_;refine pU 9 (some 68) (bb 16 1023) ?_;refine pU 10 (some 69) (bb 16 2047) ?_;refine pU 11 (some 70) (bb 16 4095) ?_;refine pS 12 (some 71) (bb 16 8191) ?_;refine one_ (i := 13) (N := some 72) (bb 16 16383) rfl rfl (one_of HT_.out (by kernel_rfl)) (by decide) (fun K hK => ?_);refine value_ (w1 := ?_) (v := ?_) (by rfl) rfl ?_ ?_;rotate_left 2
                ·go_simp;constructor
                 ·rfl
                 ·rfl
                refine hK.out _ _ trivial (fun hHeld => ?_);clear hK K;refine norm_ (a' := ?_) ?_ ?_;rotate_left
                ·show Act.put _ (some 72) _ = _;simp only [Act.put, List.setIfInBounds_toArray, List.set_cons_zero, List.set_cons_succ, i64_w, i32_w];rfl
                refine one_ (i := 14) (N := some 73) (bb 16 32767) rfl rfl (one_of HT_.out (by kernel_rfl)) (by decide) (fun K hK => ?_);refine Kd.R_append_step Kd.bool (w0 := w) w.heap.size (by rfl) (.tmp 59) (.tmp 72) 80 4 (.bool false) 1 rfl Tryz.underlying80 info4 rfl (by decide) (by omega) u5 x5_1 false [.bool false] (fun k_ => some k_ ≠ (v453 : Value).ownBlock) (fun _ => False) rfl rfl ?aP (fun _ hk => hk.elim) ?aF ?aO ?aB ?aS ?aL ?_
                (case aP => exact rfl)
                (case aB => exact zz32)
                (case aF => exact zz109)
                (case aO => exact zz35)
                (case aS => exact zz64)
                (case aL => have := LMc44.out; omega)
                intro v468 w46 ho hb hg hat;rw [← Ny467.out] at ho;have n0_ := qa.mk (Kd.R_after (ok := (fun _ => True)) zz91 hg hat);have n1_ := qa.mk (hb);have n2_ := qa.mk (ho);clear HO_7 HB HO_5;have HO_7 := n0_;have HB := n1_;have HO469 := n2_;clear n0_ n1_ n2_ ho hb hg hat;refine hK.out _ _ trivial (fun hHeld => ?_);clear hK K;refine norm_ (a' := ?_) ?_ ?_;rotate_left
                ·show Act.put _ (some 73) _ = _;simp only [Act.put, List.setIfInBounds_toArray, List.set_cons_zero, List.set_cons_succ, i64_w, i32_w];rfl
                refine pS 15 (some 5) (bb 16 65535) ?_;refine done_ (done_of HT_.out (by kernel_rfl)) ?_;(try go_wp2);go_roundg kj12
                case measure => have := HK1.out; have := HK2.out; have := HJ12.out; omega
                case rel => exact ⟨(y467), (wrap64 (x24_1 + 1)), zz8, H', ⟨zz16⟩, ⟨by (with_reducible repeat (first | apply Kd.R_alloc | apply Kd.R_drewN | apply Kd.R_drew)); exact HO469.out⟩, ⟨zz83⟩, ⟨zz32⟩⟩
               ·rw [if_neg c44] at H;exact absurd H (by simp)
        ·rw [if_neg c12] at H;exact absurd H (by simp)
       ·rw [if_neg c11] at H;exact absurd H (by simp)
      ·rw [if_neg c10] at H;have c10b0 : decide (x24_1 < (l1.length : Int)) = false := decide_eq_false c10;clear c10;obtain rfl := Option.some.inj H;go_wp2;go_ret;exact ⟨_, by first | rfl | (simp [qp, qq] <;> rfl) | (simp only [← hji4]; first | rfl | (simp [qp, qq] <;> rfl)) | (simp [*, qp, qq] <;> rfl) | (congr 2; simp only [bne]; generalize ByteArray.toList _ = z_; cases z_ <;> rfl), by (with_reducible repeat (first | apply Kd.R_alloc | apply Kd.R_drewN | apply Kd.R_drew)); exact Kd.R_mono HO_5.out (fun _ hk => trivial), zz32⟩
   ·rw [if_neg c6] at H;exact absurd H (by simp)
  ·rw [if_neg c5] at H;exact absurd H (by simp)
end Go.Proofs.YtjbobecnlpiejaaGreatDoor.Q
namespace Go.Proofs.YtjbobecnlpiejaaGreatDoor.Q.P
open Go.Proofs.YtjbobecnlpiejaaGreatDoorZ
open Go.RowKit Go.Proofs.YtjbobecnlpiejaaGreatDoorW.PrintWords Go.Proofs.YtjbobecnlpiejaaGreatDoorW.PrintLast Go.Proofs.YtjbobecnlpiejaaGreatDoorW.PrintMore
def G (r : List (List Bool)) (h k : Nat) : Bool := (r.getD h []).getD k false
def orU (rows : List S53) (g : Nat → Bool) : Nat → Nat → Bool
 | 0, _ => false
 | f + 1, h => if h = 0 then false else g h || orU rows g f (up rows (h - 1)).toNat
section
variable {rows : List S53} {n : Nat}
theorem orU_any (hu : UpsN rows n) (g : Nat → Bool) : ∀ (m f e h : Nat), h ≤ m → h ≤ f → h ≤ e → h ≤ n → orU rows g f h = orU rows g e h := by
 intro m
 induction m with
 | zero =>
  intro f e h hm _ _ _;(obtain rfl : h = 0 := by omega);cases f <;> cases e <;> simp [orU]
 | succ m ih =>
  intro f e h hm hf he hn;by_cases h0 : h = 0
  ·subst h0; cases f <;> cases e <;> simp [orU]
  ·obtain ⟨f, rfl⟩ : ∃ x, f = x + 1 := ⟨f - 1, by omega⟩;obtain ⟨e, rfl⟩ : ∃ x, e = x + 1 := ⟨e - 1, by omega⟩;have := hu (h - 1) (by omega);unfold orU;rw [if_neg h0, if_neg h0, ih f e _ (by omega) (by omega) (by omega) (by omega)]
theorem orU_step (hu : UpsN rows n) (g : Nat → Bool) {h : Nat} (hn : h ≤ n) (h0 : 0 < h) : orU rows g h h = (g h || orU rows g (up rows (h - 1)).toNat (up rows (h - 1)).toNat) := by
 obtain ⟨m, rfl⟩ : ∃ x, h = x + 1 := ⟨h - 1, by omega⟩;have := hu m (by omega)
 conv => lhs; unfold orU
 rw [if_neg (by omega)];simp only [Nat.add_sub_cancel];rw [orU_any hu g m m (up rows m).toNat (up rows m).toNat (by omega) (by omega) (Nat.le_refl _) (by omega)]
theorem orU_congr (hu : UpsN rows n) {g g' : Nat → Bool} : ∀ (f h : Nat), h ≤ n → (∀ x, x ≤ h → g x = g' x) → orU rows g f h = orU rows g' f h := by
 intro f
 induction f with
 | zero => intro h _ _; rfl
 | succ f ih =>
  intro h hn hg;unfold orU;by_cases h0 : h = 0
  ·rw [if_pos h0, if_pos h0]
  ·have := hu (h - 1) (by omega);rw [if_neg h0, if_neg h0, hg h (Nat.le_refl _), ih _ (by omega) (fun x hx => hg x (by omega))]
end
def cell (l : List S48) (rows : List S53) (o : List (List Bool)) (i k : Nat) (hk : k < l.length) : Bool :=
 hasB l[k] (qf rows (i : Int)) && (k == 0 || (if l[k].f0 = true then G o (up rows i).toNat (k - 1) else orU rows (fun x => G o x (k - 1)) (up rows i).toNat (up rows i).toNat))
theorem row_val (x : S53) (hx : x.f5.length ≤ 1000) (o a : List Bool) : ∀ (l : List S48) (k : Nat), ∃ t, qwc.row x o a l k = some t ∧ t.length = l.length ∧ ∀ j, (hj : j < l.length) → t.getD j false = (hasB l[j] x && (k + j == 0 || (if l[j].f0 = true then o else a).getD (k + j - 1) false))
 | [], k => ⟨[], rfl, rfl, fun j hj => absurd hj (Nat.not_lt_zero _)⟩
 | p :: r, k => by
  obtain ⟨t, ht, hl, hv⟩ := row_val x hx o a r (k + 1);unfold qwc.row;rw [has_spec p x hx, ht];refine ⟨_, rfl, by simp [hl], fun j hj => ?_⟩
  cases j with
  | zero => rfl
  | succ j =>
   have := hv j (by simpa using hj);rw [show k + 1 + j = k + (j + 1) by omega] at this;exact this
structure FInv (l : List S48) (rows : List S53) (c : Nat) (o a : List (List Bool)) : Prop where
 lo : o.length = c
 la : a.length = c
 z : ∀ k, G o 0 k = false
 av : ∀ h, h < c → ∀ k, G a h k = orU rows (fun x => G o x k) h h
 wo : ∀ h, h < c → (o.getD h []).length = l.length
 wa : ∀ h, h < c → (a.getD h []).length = l.length
 eq : ∀ i, i + 1 < c → ∀ k, (hk : k < l.length) → G o (i + 1) k = cell l rows o i k hk
theorem go_val (l : List S48) (rows : List S53) (hu : UpsN rows rows.length) (hx : ∀ x ∈ rows, x.f5.length ≤ 1000) : ∀ (rs : List S53) (c : Nat) (o a : List (List Bool)), rows.drop c = rs → c ≤ rows.length → FInv l rows (c + 1) o a → ∃ r b, qwc.go l rs o a = some r ∧ FInv l rows (rows.length + 1) r b
 | [], c, o, a, hd, hc, w => by
  have h1 := congrArg List.length hd;rw [List.length_drop] at h1;(obtain rfl : c = rows.length := by simp at h1; omega);exact ⟨o, a, rfl, w⟩
 | x :: rs, c, o, a, hd, hc, w => by
  have hcl : c < rows.length := by
   have h1 := congrArg List.length hd;rw [List.length_drop] at h1;simp at h1;omega
  rw [List.drop_eq_getElem_cons hcl] at hd;injection hd with hd1 hd2;(have hxr : x = qf rows (c : Int) := by rw [rdR rows c hcl]; exact hd1.symm);(have hup : x.f1 = up rows c := by rw [hxr]; rfl);obtain ⟨u1, u2⟩ := hu c hcl;(have hi : (up rows c).toNat < c + 1 := by omega);obtain ⟨t, ht, hl, hv⟩ := row_val x (hx x (by rw [← hd1]; exact List.getElem_mem _)) (o.getD (up rows c).toNat []) (a.getD (up rows c).toNat []) l 0;have hun : UpsN rows c := fun j hj => hu j (by omega);(have gO : ∀ h, h < c + 1 → ∀ k, G (o ++ [t]) h k = G o h k := fun h hh k => by unfold G; rw [getD_app, w.lo, if_pos hh]);(have gOc : ∀ k, G (o ++ [t]) (c + 1) k = t.getD k false := fun k => by unfold G; rw [getD_app, w.lo, if_neg (by omega), if_pos rfl]);have hw := w.wa _ hi
  have aw : FInv l rows (c + 1 + 1) (o ++ [t]) (a ++ [List.zipWith (· || ·) (a.getD (up rows c).toNat []) t]) := by
   refine ⟨by simp [w.lo], by simp [w.la], fun k => by rw [gO 0 (by omega)]; exact w.z k, fun h hh k => ?_, fun h hh => ?_, fun h hh => ?_, fun i hii k hk => ?_⟩
   ·by_cases hc1 : h < c + 1
    ·have e := orU_congr (g := fun x => G (o ++ [t]) x k) (g' := fun x => G o x k) hun h h (by omega) (fun x hx => gO x (by omega) k);rw [e, ← w.av h hc1 k];unfold G;rw [getD_app, w.la, if_pos hc1]
    ·(obtain rfl : h = c + 1 := by omega);rw [orU_step hu _ (by omega) (by omega), Nat.add_sub_cancel, gOc, orU_congr (g := fun x => G (o ++ [t]) x k) (g' := fun x => G o x k) hun _ _ (by omega) (fun x hx => gO x (by omega) k), ← w.av _ hi k];unfold G;rw [getD_app, w.la, if_neg (by omega), if_pos rfl, zip_getD _ _ (by rw [hw, hl]), Bool.or_comm]
   ·rw [getD_app, w.lo];by_cases hc1 : h < c + 1
    ·rw [if_pos hc1]; exact w.wo h hc1
    ·rw [if_neg hc1, if_pos (by omega)]; exact hl
   ·rw [getD_app, w.la];by_cases hc1 : h < c + 1
    ·rw [if_pos hc1]; exact w.wa h hc1
    ·rw [if_neg hc1, if_pos (by omega), List.length_zipWith, hw, hl, Nat.min_self]
   ·by_cases hc1 : i + 1 < c + 1
    ·have hui := hu i (by omega);rw [gO (i + 1) hc1, w.eq i hc1 k hk];unfold cell;rw [gO _ (by omega), orU_congr (g := fun x => G (o ++ [t]) x (k - 1)) (g' := fun x => G o x (k - 1)) hun _ _ (by omega) (fun x hx => gO x (by omega) (k - 1))]
    ·(obtain rfl : i = c := by omega);rw [gOc, hv k hk, Nat.zero_add, hxr];unfold cell;rw [gO _ hi, orU_congr (g := fun x => G (o ++ [t]) x (k - 1)) (g' := fun x => G o x (k - 1)) hun _ _ (by omega) (fun x hx => gO x (by omega) (k - 1)), ← w.av _ hi (k - 1)];cases l[k].f0 <;> rfl
  obtain ⟨r, b, hr, hb⟩ := go_val l rows hu hx rs (c + 1) _ _ hd2 (by omega) aw;refine ⟨r, b, ?_, hb⟩;unfold qwc.go;rw [hup, if_pos ⟨u1, by rw [w.lo]; omega⟩, ht, Option.bind_some];exact hr
theorem fits_val (l : List S48) (h0 : 0 < l.length) (h1 : l.length ≤ 1000) (rows : List S53) (hr : rows.length ≤ 100) (hu : UpsN rows rows.length) (hx : ∀ x ∈ rows, x.f5.length ≤ 1000) : ∃ r b, qwc.f l rows = some r ∧ FInv l rows (rows.length + 1) r b := by
 have one : ∀ h, h < 0 + 1 → h = 0 := fun h hh => by omega
 obtain ⟨r, b, hg, hb⟩ := go_val l rows hu hx rows 0 [List.replicate l.length false] [List.replicate l.length false] rfl (Nat.zero_le _)
  ⟨rfl, rfl, fun k => by unfold G; simp [List.getD_eq_getElem?_getD, List.getElem?_replicate]; split <;> rfl, fun h hh k => by
   rw [one h hh];unfold G;simp [orU, List.getD_eq_getElem?_getD, List.getElem?_replicate]
   split <;> rfl, fun h hh => by rw [one h hh]; simp, fun h hh => by rw [one h hh]; simp, fun i hi => by omega⟩
 refine ⟨r, b, ?_, hb⟩;unfold qwc.f;rw [if_pos ⟨h0, by omega, by omega⟩];exact hg
section
variable (x0 : List S58) (rows : List S53) (acc ahead : List Bool) (i : Nat) (p : S48)
theorem fits_tail (hr : rows.length ≤ 100) (hi : i < rows.length) (hx : (qf rows (i : Int)).f5.length ≤ 1000) (hp : p.f4.length ≤ 1000) (n : Nat) (hn : n < x0.length) (hpp : qg x0 (n : Int) = toP p) (ha : acc.length ≤ 1000) (is : Bool) (res : List Bool)
  (h : Ev (fun k => qr.l0 k x0 rows (acc ++ [is && hasB p (qf rows (i : Int))]) (n : Int) ahead (rows.length : Int) ((i + 1 : Nat) : Int)) res) (y : Int) : Ev (fun k => qr.j2 k x0 rows acc (n : Int) ahead (i : Int) is y (rows.length : Int) (i : Int) false) res := by
 have hw : wrap64 ((i : Int) + 1) = ((i + 1 : Nat) : Int) := w64 (by omega) (by omega);(have hal : acc.length < 140737488355328 := by omega);obtain ⟨K, hK⟩ := h;obtain ⟨K2, hK2⟩ := one_spec p (qf rows (i : Int)) hx hp;refine ⟨K + K2 + 1, fun k hk => ?_⟩;obtain ⟨k, rfl⟩ : ∃ m, k = m + 1 := ⟨k - 1, by omega⟩;show qr.j2 (k + 1) x0 rows acc (n : Int) ahead (i : Int) is y (rows.length : Int) (i : Int) false = _;have hk1 := hK k (by omega);rw [qr.j2, if_neg (by decide)];cases is
 ·rw [if_neg (by decide), if_pos hal, hw];exact hk1
 ·rw [if_pos rfl, if_pos (by omega), if_pos (by omega), if_pos (by omega), if_pos (by omega), hpp, show qgb.f k _ _ _ _ _ _ _ _ _ _ _ = some _ from hK2 k (by omega), Option.bind_some, if_pos hal, hw];exact hk1
theorem fits_climb (hr : rows.length ≤ 100) (hu : UpsN rows rows.length) (n : Nat) (hn : n < x0.length) (hn0 : 0 < n) (hpp : qg x0 (n : Int) = toP p) (g : Nat → Bool) (hal : ahead.length = rows.length) (hg : ∀ h, 0 < h → h ≤ rows.length → rdOf false ahead ((h - 1 : Nat) : Int) = g h) (res : List Bool) :
  ∀ (m h : Nat) (is : Bool), h ≤ m → h ≤ rows.length → (∀ y, Ev (fun k => qr.j2 k x0 rows acc (n : Int) ahead (i : Int) (is || (if p.f0 = true then decide (0 < h) && g h else orU rows g h h)) y (rows.length : Int) (i : Int) false) res) → Ev (fun k => qr.l1 k x0 rows acc (n : Int) ahead (i : Int) is (h : Int) (rows.length : Int) (i : Int)) res := by
 have zero : ∀ is : Bool, (∀ y, Ev (fun k => qr.j2 k x0 rows acc (n : Int) ahead (i : Int) is y (rows.length : Int) (i : Int) false) res) → Ev (fun k => qr.l1 k x0 rows acc (n : Int) ahead (i : Int) is 0 (rows.length : Int) (i : Int)) res := fun is q => Ev.step (fun k => by rw [qr.l1, if_pos (by omega)]; rfl) (q 0);intro m
 induction m with
 | zero =>
  intro h is hm hh q;(obtain rfl : h = 0 := by omega);refine zero is (fun y => ?_);have := q y;simpa [orU] using this
 | succ m ih =>
  intro h is hm hh q;by_cases h0 : h = 0
  ·subst h0; exact ih 0 is (by omega) hh q
  obtain ⟨u1, u2⟩ := hu (h - 1) (by omega);have e1 : wrap64 ((h : Int) - 1) = ((h - 1 : Nat) : Int) := by rw [w64 (by omega) (by omega)]; omega
  have next : ∀ v, Ev (fun k => qr.l1 k x0 rows acc (n : Int) ahead (i : Int) (is || g h) (if p.f0 = true then 0 else up rows (h - 1)) (rows.length : Int) (i : Int)) v → Ev (fun k => qr.l1 k x0 rows acc (n : Int) ahead (i : Int) is (h : Int) (rows.length : Int) (i : Int)) v := by
   rintro v ⟨K, hK⟩;refine ⟨K + 2, fun k hk => ?_⟩;obtain ⟨k, rfl⟩ : ∃ m, k = m + 2 := ⟨k - 2, by omega⟩;have hk2 := hK k (by omega);show qr.l1 (k + 2) x0 rows acc (n : Int) ahead (i : Int) is (h : Int) (rows.length : Int) (i : Int) = _;rw [qr.l1, if_pos (by omega), decide_eq_true (show (h : Int) > 0 by omega), qr.j2, if_pos rfl, e1];(have ec : (qg x0 (n : Int)).f0 = p.f0 := by rw [hpp]; rfl);rw [ec];cases is
   ·rw [if_neg (by decide), if_pos (by omega), if_pos (by omega), if_pos (by omega), if_pos (by omega), if_pos (by omega), hg h (by omega) hh];rw [Bool.false_or] at hk2;cases hf : p.f0
    ·rw [hf, if_neg (by decide)] at hk2;rw [if_neg (by decide)];exact hk2
    ·rw [hf, if_pos rfl] at hk2;rw [if_pos rfl];exact hk2
   ·rw [if_pos rfl, if_pos (by omega), if_pos (by omega), if_pos (by omega), if_pos (by omega)];rw [Bool.true_or] at hk2;cases hf : p.f0
    ·rw [hf, if_neg (by decide)] at hk2;rw [if_neg (by decide)];exact hk2
    ·rw [hf, if_pos rfl] at hk2;rw [if_pos rfl];exact hk2
  refine next res ?_;cases hf : p.f0
  ·rw [if_neg (by decide)]
   have := ih (up rows (h - 1)).toNat (is || g h) (by omega) (by omega) (fun y => by
    have := q y;rw [hf, if_neg (by decide), orU_step hu g hh (by omega)] at this;rw [hf, if_neg (by decide), Bool.or_assoc]
    exact this)
   rw [Int.toNat_of_nonneg u1] at this;exact this
  ·rw [if_pos rfl];refine zero _ (fun y => ?_);have := q y;rw [hf, if_pos rfl, decide_eq_true (show 0 < h by omega), Bool.true_and] at this;exact this
end
def fitL (rows : List S53) (r : List (List Bool)) (n : Nat) : List Bool := (List.range rows.length).map fun i => G r (i + 1) n
theorem fitL_get (rows : List S53) (r : List (List Bool)) (n h : Nat) (h0 : 0 < h) (hh : h ≤ rows.length) : rdOf false (fitL rows r n) ((h - 1 : Nat) : Int) = G r h n := by
 unfold rdOf fitL;rw [Int.toNat_natCast, List.getD_eq_getElem?_getD, List.getElem?_map, List.getElem?_range (by omega)];show G r (h - 1 + 1) n = _;rw [Nat.sub_add_cancel h0]
theorem fits_l0 (l : List S48) (rows : List S53) (hr : rows.length ≤ 100) (hu : UpsN rows rows.length) (hx : ∀ x ∈ rows, x.f5.length ≤ 1000) (hc : ∀ p ∈ l, p.f4.length ≤ 1000) (r b : List (List Bool)) (w : FInv l rows (rows.length + 1) r b) (n : Nat) (hn : n < l.length) (ahead : List Bool) (ha : 0 < n → ahead = fitL rows r (n - 1)) (d : Nat) :
  ∀ (i : Nat) (acc : List Bool), i + d = rows.length → acc.length ≤ i → Ev (fun k => qr.l0 k ((l.map toP).take (n + 1)) rows acc (n : Int) ahead (rows.length : Int) (i : Int)) (acc ++ (List.range' i d).map fun i => G r (i + 1) n) := by
 induction d with
 | zero =>
  intro i acc hi _;refine Ev.step (fun k => ?_) (Ev.now _);rw [qr.l0, if_neg (by omega)];simp
 | succ d ih =>
  intro i acc hi hacc;(have hil : i < rows.length := by omega);have hxl : n < ((l.map toP).take (n + 1)).length := by rw [List.length_take, List.length_map]; omega
  have hpp : qg ((l.map toP).take (n + 1)) (n : Int) = toP l[n] := by
   rw [← rd_map l n hn];unfold qg;rw [Int.toNat_natCast, List.getD_eq_getElem?_getD, List.getD_eq_getElem?_getD, List.getElem?_take, if_pos (by omega)]
  obtain ⟨u1, u2⟩ := hu i hil;have hcell := w.eq i (by omega) n hn;have hih := ih (i + 1) (acc ++ [G r (i + 1) n]) (by omega) (by rw [List.length_append]; simp; omega);(have e : acc ++ (List.range' i (d + 1)).map (fun i => G r (i + 1) n) = acc ++ [G r (i + 1) n] ++ (List.range' (i + 1) d).map (fun i => G r (i + 1) n) := by rw [List.range'_succ]; simp);rw [e];(have hrow : (qf rows (i : Int)).f5.length ≤ 1000 := by rw [rdR rows i hil]; exact hx _ (List.getElem_mem _));have hpc := hc l[n] (List.getElem_mem _);have tail := fun (is : Bool) (q : (is && hasB l[n] (qf rows (i : Int))) = G r (i + 1) n) => fits_tail ((l.map toP).take (n + 1)) rows acc ahead i l[n] hr hil hrow hpc n hxl hpp (by omega) is _ (by rw [q]; exact hih);refine Ev.step (fun k => by rw [qr.l0, if_pos (by omega), if_pos (by omega), if_pos (by omega)]) ?_;show Ev (fun k => qr.l1 k _ rows acc (n : Int) ahead (i : Int) ((n : Int) == 0) (up rows i) (rows.length : Int) (i : Int)) _;by_cases h0 : n = 0
  ·subst h0;refine Ev.step (fun k => ?_) (tail true (by rw [hcell, Bool.true_and]; unfold cell; simp) (up rows i));rw [qr.l1, if_neg (by omega)];rfl
  ·(have e0 : ((n : Int) == 0) = false := by rw [beq_eq_false_iff_ne]; omega);(have en : (n == 0) = false := by rw [beq_eq_false_iff_ne]; exact h0);have hah := ha (by omega)
   have := fits_climb ((l.map toP).take (n + 1)) rows acc ahead i l[n] hr hu n hxl (by omega) hpp (fun h => G r h (n - 1)) (by rw [hah]; unfold fitL; simp) (fun h h1 h2 => by rw [hah]; exact fitL_get rows r (n - 1) h h1 h2) _ (up rows i).toNat (up rows i).toNat false (Nat.le_refl _) (by omega) (tail _ (by
    rw [hcell, Bool.false_or, Bool.and_comm];unfold cell;rw [en, Bool.false_or];congr 1;cases l[n].f0
    ·rw [if_neg (by decide), if_neg (by decide)]
    ·rw [if_pos rfl, if_pos rfl];by_cases hz : 0 < (up rows i).toNat
     ·rw [decide_eq_true hz, Bool.true_and]
     ·rw [decide_eq_false hz, Bool.false_and, show (up rows i).toNat = 0 by omega, w.z]))
   rw [Int.toNat_of_nonneg u1] at this;rw [e0];exact this
theorem Fits_spec (l : List S48) (hl : l.length ≤ 1000) (rows : List S53) (hr : rows.length ≤ 100) (hu : UpsN rows rows.length) (hx : ∀ x ∈ rows, x.f5.length ≤ 1000) (hc : ∀ p ∈ l, p.f4.length ≤ 1000) (r b : List (List Bool)) (w : FInv l rows (rows.length + 1) r b) : ∀ n, n ≤ l.length → Ev (fun k => qr.f k ((l.map toP).take n) rows) (if n = 0 then [] else fitL rows r (n - 1)) := by
 intro n
 induction n with
 | zero =>
  intro _;refine Ev.step (fun k => ?_) (Ev.now _);rw [qr.f, if_pos (by rw [List.take_zero]; show wrap64 (((0 : Nat) : Int) - 1) < 0; rw [w64 (by omega) (by omega)]; omega)];rfl
 | succ n ih =>
  intro hn;(have hlen : ((l.map toP).take (n + 1)).length = n + 1 := by rw [List.length_take, List.length_map]; omega);(have hw : wrap64 (((n + 1 : Nat) : Int) - 1) = (n : Int) := by rw [w64 (by omega) (by omega)]; omega);obtain ⟨K, hK⟩ := ih (by omega);obtain ⟨K2, hK2⟩ := fits_l0 l rows hr hu hx hc r b w n (by omega) (if n = 0 then [] else fitL rows r (n - 1)) (fun h => if_neg (by omega)) rows.length 0 [] (by omega) (Nat.le_refl _);refine ⟨K + K2 + 1, fun k hk => ?_⟩;obtain ⟨k, rfl⟩ : ∃ m, k = m + 1 := ⟨k - 1, by omega⟩;show qr.f (k + 1) ((l.map toP).take (n + 1)) rows = _;rw [qr.f, hlen, hw, if_neg (by omega), if_pos (by omega), if_pos (by omega), Int.toNat_natCast, List.take_take, Nat.min_eq_left (by omega), show qr.f k ((l.map toP).take n) rows = _ from hK k (by omega), Option.bind_some];refine (hK2 k (by omega)).trans ?_;rw [if_neg (by omega), List.nil_append, Nat.add_sub_cancel, ← List.range_eq_range'];rfl
theorem find_no (l : List S48) (rows : List S53) (h : selOK l = false) : Ev (fun k => qhb.f k l rows) [] := by
 refine ⟨20, fun k hk => ?_⟩;obtain ⟨k, rfl⟩ : ∃ m, k = m + 1 := ⟨k - 1, by omega⟩;show qhb.f (k + 1) l rows = some [];rw [qhb.f, check_spec l (k + 1) (by omega), h];simp only [Bool.false_eq_true, if_false, Option.bind_some];rw [if_neg (by decide), qhb.j0, if_pos rfl]
theorem find_bad (l : List S48) (rows : List S53) (e : Int) (he : Ev (fun k => qec.f k rows) e) (h0 : e ≠ 0) : Ev (fun k => qhb.f k l rows) [] := by
 cases h : selOK l
 ·exact find_no l rows h
 ·obtain ⟨K, hK⟩ := he;refine ⟨K + 20, fun k hk => ?_⟩;obtain ⟨k, rfl⟩ : ∃ m, k = m + 1 := ⟨k - 1, by omega⟩;show qhb.f (k + 1) l rows = some [];(have hb : (e != 0) = true := by simpa using h0);rw [qhb.f, check_spec l (k + 1) (by omega), h, if_pos rfl, Option.bind_some, if_pos rfl, show qec.f (k + 1) rows = some e from hK _ (by omega), Option.bind_some, hb, qhb.j0, if_pos rfl]
theorem find_yes (l : List S48) (rows : List S53) (he : Ev (fun k => qec.f k rows) 0) (h : selOK l = true) (ft : List (List Bool)) (hf : qwc.f l rows = some ft) {r : List Int} (hr : Ev (fun k => qhb.l0 k l [] ft (ft.length : Int) 0) r) : Ev (fun k => qhb.f k l rows) r := by
 obtain ⟨K, hK⟩ := he;obtain ⟨K2, hK2⟩ := hr;refine ⟨K + K2 + 20, fun k hk => ?_⟩;obtain ⟨k, rfl⟩ : ∃ m, k = m + 1 := ⟨k - 1, by omega⟩;show qhb.f (k + 1) l rows = some r;rw [qhb.f, check_spec l (k + 1) (by omega), h, if_pos rfl, Option.bind_some, if_pos rfl, show qec.f (k + 1) rows = some 0 from hK _ (by omega), Option.bind_some, qhb.j0, if_neg (by decide), hf, Option.bind_some];exact hK2 _ (by omega)
theorem selOK_parts0 {l : List S48} (h : selOK l = true) : 0 < l.length ∧ l.length ≤ 8 := by
 unfold selOK at h;simp only [Bool.and_eq_true, decide_eq_true_eq] at h;refine ⟨?_, h.1.1.2⟩
 cases l with
 | nil => simp at h
 | cons p r => simp
end Go.Proofs.YtjbobecnlpiejaaGreatDoor.Q.P
namespace Go.Proofs.YtjbobecnlpiejaaGreatDoor.Q
open Go.Proofs.YtjbobecnlpiejaaGreatDoorZ
open Go.RowKit Go.Proofs.YtjbobecnlpiejaaGreatDoorW.PrintWords Go.Proofs.YtjbobecnlpiejaaGreatDoorW.PrintLast Go.Proofs.YtjbobecnlpiejaaGreatDoorW.PrintMore
attribute [local go_sem] qac qbc qhc qgc
def formL (c : Int) : List UInt8 :=
 if c = 38 then [38, 97, 109, 112, 59] else if c = 60 then [38, 108, 116, 59] else if c = 62 then [38, 103, 116, 59] else if c = 34 then [38, 113, 117, 111, 116, 59]
 else if c = 127 ∨ c < 32 then [38, 35] ++ Lib.itoa c ++ [59] else []
def escape_form.f (a0 : Int) : Option ByteArray := if 0 ≤ a0 ∧ a0 ≤ 255 then some ⟨(formL a0).toArray⟩ else none
theorem itoa_short (c : Nat) (h : c < 256) : (Lib.itoa (c : Int)).length ≤ 3 := by
 (have : ∀ c : Fin 256, (Lib.itoa (c.val : Int)).length ≤ 3 := by decide +kernel);exact this ⟨c, h⟩
set_option maxHeartbeats 4000000 in
set_option maxRecDepth 100000 in
theorem escape_form.number (b : Nat) (a0 : Int) (w : World) (hG : Glob w) (h0 : 0 ≤ a0) (h1 : a0 ≤ 255) (hc : w.cell? ⟨b, 0, none⟩ = some (.int .u8 a0)) :
  Calls Tryz.prog 56 #[.pointer (some ⟨b, 0, none⟩)] w fun e w' => e = .returned (.string ⟨([38, 35] ++ Lib.itoa a0 ++ [59]).toArray⟩) ∧ Below w.heap.size w w' := by
 have HG := qa.mk hG
 have hl : (Lib.itoa a0).length ≤ 3 := by
  obtain ⟨n, rfl⟩ := Int.eq_ofNat_of_zero_le h0;exact itoa_short n (by omega)
 have HF := qa.mk (show ∀ l : List UInt8, (⟨#[38, 35]⟩ : ByteArray) ++ ⟨l.toArray⟩ ++ ⟨#[59]⟩ = ⟨([38, 35] ++ l ++ [59]).toArray⟩ from fun l => by
  apply ByteArray.ext; simp)
 clear hG;(go_enter Tryz.func56, Tryz.ntmps56);(go_wp2_with (go_at_call 57; refine (Tryz.strconv_Itoa a0 (by omega) (by omega) _ HG.out.1).mono ?_; rintro e w2 ⟨rfl, k, os, hw⟩; have HB := qa.mk (show Below w.heap.size w w2 from by rw [hw]; exact Lib.below_grow _ _ (Nat.le_refl _) _ _); clear hw));go_ret;exact ⟨by rw [HF.out]; simp, HB.out⟩
set_option maxHeartbeats 4000000 in
set_option maxRecDepth 100000 in
theorem escape_form.calls (a0 : Int) (r : ByteArray) (w : World) (hG : Glob w) (h : escape_form.f a0 = some r) :
  Calls Tryz.prog 37 #[.int .u8 a0] w fun e w' => e = .returned (.string r) ∧ Below w.heap.size w w' := by
 unfold escape_form.f at h;by_cases hb : 0 ≤ a0 ∧ a0 ≤ 255;rotate_left
 ·rw [if_neg hb] at h;cases h
 rw [if_pos hb] at h;obtain rfl := Option.some.inj h;obtain ⟨h0, h1⟩ := hb;clear h;have HG := qa.mk hG;clear hG;have HX : ∀ x, formL a0 = x → qa (formL a0 = x) := fun _ h => ⟨h⟩;by_cases c1 : a0 = 38
 ·(have c1b : (a0 == 38) = true := by simp [c1]);have H := HX _ (by unfold formL; rw [if_pos c1]);clear c1 HX;(go_enter Tryz.func37, Tryz.ntmps37);go_wp2;go_ret;exact ⟨by rw [H.out]; rfl, (Below.refl _ _).alloc (Nat.le_refl _) _⟩
 (have c1b : (a0 == 38) = false := by simp [c1]);by_cases c2 : a0 = 60
 ·(have c2b : (a0 == 60) = true := by simp [c2]);have H := HX _ (by unfold formL; rw [if_neg c1, if_pos c2]);clear c1 c2 HX;(go_enter Tryz.func37, Tryz.ntmps37);go_wp2;go_ret;exact ⟨by rw [H.out]; rfl, (Below.refl _ _).alloc (Nat.le_refl _) _⟩
 (have c2b : (a0 == 60) = false := by simp [c2]);by_cases c3 : a0 = 62
 ·(have c3b : (a0 == 62) = true := by simp [c3]);have H := HX _ (by unfold formL; rw [if_neg c1, if_neg c2, if_pos c3]);clear c1 c2 c3 HX;(go_enter Tryz.func37, Tryz.ntmps37);go_wp2;go_ret;exact ⟨by rw [H.out]; rfl, (Below.refl _ _).alloc (Nat.le_refl _) _⟩
 (have c3b : (a0 == 62) = false := by simp [c3]);by_cases c4 : a0 = 34
 ·(have c4b : (a0 == 34) = true := by simp [c4]);have H := HX _ (by unfold formL; rw [if_neg c1, if_neg c2, if_neg c3, if_pos c4]);clear c1 c2 c3 c4 HX;(go_enter Tryz.func37, Tryz.ntmps37);go_wp2;go_ret;exact ⟨by rw [H.out]; rfl, (Below.refl _ _).alloc (Nat.le_refl _) _⟩
 (have c4b : (a0 == 34) = false := by simp [c4]);by_cases c5 : a0 = 127
 ·(have c5b : (a0 == 127) = true := by simp [c5]);have H := HX _ (by unfold formL; rw [if_neg c1, if_neg c2, if_neg c3, if_neg c4, if_pos (.inl c5)]);clear c1 c2 c3 c4 c5 HX;(go_enter Tryz.func37, Tryz.ntmps37);(go_wp2_with (go_at_call 56; refine (escape_form.number _ a0 _ (Glob.below HG.out (qc (Below.refl _ _) _)) h0 h1 ?hc).mono ?_; (case hc => simp); rintro e w2 ⟨rfl, hb⟩; have HB := qa.mk (qo (w := w) (qc (Below.refl _ _) _) hb); clear hb));go_ret;exact ⟨by rw [H.out]; rfl, HB.out⟩
 (have c5b : (a0 == 127) = false := by simp [c5]);by_cases c6 : a0 < 32
 ·have H := HX _ (by unfold formL; rw [if_neg c1, if_neg c2, if_neg c3, if_neg c4, if_pos (.inr c6)]);clear c1 c2 c3 c4 c5 HX;(go_enter Tryz.func37, Tryz.ntmps37);(go_wp2_with (go_at_call 56; refine (escape_form.number _ a0 _ (Glob.below HG.out (qc (Below.refl _ _) _)) h0 h1 ?hc).mono ?_; (case hc => simp); rintro e w2 ⟨rfl, hb⟩; have HB := qa.mk (qo (w := w) (qc (Below.refl _ _) _) hb); clear hb));go_ret;exact ⟨by rw [H.out]; rfl, HB.out⟩
 have H := HX _ (by unfold formL; rw [if_neg c1, if_neg c2, if_neg c3, if_neg c4, if_neg (by omega)]);clear c1 c2 c3 c4 c5 HX;(go_enter Tryz.func37, Tryz.ntmps37);go_wp2;go_ret;exact ⟨by rw [H.out]; rfl, (Below.refl _ _).alloc (Nat.le_refl _) _⟩
def putL (c : UInt8) : List UInt8 := if formL c.toNat = [] then [c] else formL c.toNat
def escL (l : List UInt8) : List UInt8 := l.flatMap putL
def escape_Escape.f (a0 : ByteArray) : Option ByteArray := if a0.size ≤ 16777216000000 then some ⟨(escL a0.data.toList).toArray⟩ else none
theorem putL_len (c : UInt8) : (putL c).length ≤ 6 ∧ 1 ≤ (putL c).length := by
 (have : ∀ c : Fin 256, (putL (UInt8.ofNat c.val)).length ≤ 6 ∧ 1 ≤ (putL (UInt8.ofNat c.val)).length := by decide +kernel);have h := this ⟨c.toNat, c.toNat_lt⟩;simpa using h
theorem escL_len (l : List UInt8) : (escL l).length ≤ 6 * l.length := by
 induction l with
 | nil => simp [escL]
 | cons c l ih =>
  have h1 := putL_len c;simp only [escL, List.flatMap_cons, List.length_append, List.length_cons] at ih ⊢;omega
theorem escL_take (s : ByteArray) (k : Nat) (h : k < s.size) : escL (s.data.toList.take (k + 1)) = escL (s.data.toList.take k) ++ putL s[k] := by
 rw [List.take_succ_eq_append_getElem (by simpa using h)];simp [escL];rfl
theorem bt_nat (s : ByteArray) (k : Nat) (h : k < s.size) : bt s (k : Int) = (s[k].toNat : Int) := by
 have := bt_at s (k : Int) (by simpa using h);simpa using this.symm
set_option maxHeartbeats 8000000 in
set_option maxRecDepth 100000 in
theorem escape_Escape.calls (a0 : ByteArray) (r : ByteArray) (w : World) (hG : Glob w) (h : escape_Escape.f a0 = some r) :
  Calls Tryz.prog 23 #[.string a0] w fun e w' => e = .returned (.string r) ∧ Below w.heap.size w w' := by
 unfold escape_Escape.f at h;by_cases hl : a0.size ≤ 16777216000000;rotate_left
 ·rw [if_neg hl] at h;cases h
 rw [if_pos hl] at h;obtain rfl := Option.some.inj h;have HG := qa.mk hG;clear hG h;(go_enter Tryz.func23, Tryz.ntmps23);go_wp2
 go_loopg [8] (a0.size + 1) (fun kq v8 w' => ∃ (j : Nat), v8 = .int .i64 (j : Int) ∧ qa (j ≤ a0.size ∧ kq = a0.size + 1 - j) ∧ qa (Bld w.heap.size (escL (a0.data.toList.take j)) w') ∧ qa (Below w.heap.size w w'))
 case atStart => exact ⟨0, rfl, ⟨Nat.zero_le _, rfl⟩, ⟨by simpa [escL] using Bld.fresh w⟩, ⟨qc (Below.refl _ _) _⟩⟩
 case round =>
  obtain ⟨j, rfl, HJ, HI, HB⟩ := hrel;obtain ⟨hj, hk⟩ := HJ.out;clear HJ;subst hk;have hsz : w.heap.size ≤ wr.heap.size := HB.out.size;have hacc := escL_len (a0.data.toList.take j);have hta : (a0.data.toList.take j).length ≤ j := List.length_take_le _ _;by_cases hlt : j < a0.size
  ·have HT := qa.mk (escL_take a0 j hlt);have hpl := putL_len a0[j];have HP := qa.mk (show putL a0[j] = if formL (a0[j].toNat : Int) = [] then [a0[j]] else formL (a0[j].toNat : Int) from rfl);(have hb255 : (a0[j].toNat : Int) ≤ 255 := by have := a0[j].toNat_lt; omega);have HF := qa.mk (show escape_form.f (a0[j].toNat : Int) = some ⟨(formL (a0[j].toNat : Int)).toArray⟩ from if_pos ⟨by omega, hb255⟩);clear HT HP;have HN := qa.mk (escL_take a0 j hlt);by_cases hf : formL (a0[j].toNat : Int) = []
   ·have HE := qa.mk hf;have HN2 := qa.mk (show putL a0[j] = [a0[j]] from if_pos hf);clear hf;(go_wp2_with (first | (go_at_call 37; refine (escape_form.calls _ _ _ (Glob.below HG.out HB.out) HF.out).mono ?_; rintro e w2 ⟨rfl, hb⟩; have HB2 := qa.mk (qo HB.out hb); have HI2 := qa.mk (HI.out.below hb); have hs2 := HB2.out.size; clear hb; rw [HE.out]) | (go_at_call 21; refine (Bld.byte w.heap.size _ (a0[j].toNat : Int) _ HI2.out (by omega) hb255 (by omega) hs2).mono ?_; rintro e w3 ⟨rfl, h3, hb3, _⟩; have HB3 := qa.mk (HB2.out.trans hb3); have HI3 := qa.mk h3; clear h3 hb3)));go_roundg (a0.size + 1 - (j + 1))
    case measure => omega
    case rel =>
     refine ⟨j + 1, by go_num, ⟨by omega, rfl⟩, ⟨?_⟩, HB3⟩;rw [HN.out, HN2.out];simpa using HI3.out
   ·have HE := qa.mk hf;have HN2 := qa.mk (show putL a0[j] = formL (a0[j].toNat : Int) from if_neg hf);(have hz : (formL (a0[j].toNat : Int)).length ≤ 6 := by have := hpl.1; rw [HN2.out] at this; exact this);have c1 : (formL (a0[j].toNat : Int)).isEmpty = false := by simpa using hf
    have HS := qa.mk (show (escL (a0.data.toList.take j)).length + (⟨(formL (a0[j].toNat : Int)).toArray⟩ : ByteArray).size ≤ 140737488355328 from by
     have e : (⟨(formL (a0[j].toNat : Int)).toArray⟩ : ByteArray).size = (formL (a0[j].toNat : Int)).length := by show (formL (a0[j].toNat : Int)).toArray.size = _; rw [List.size_toArray]
     omega)
    clear hf;(go_wp2_with (first | (go_at_call 37; refine (escape_form.calls _ _ _ (Glob.below HG.out HB.out) HF.out).mono ?_; rintro e w2 ⟨rfl, hb⟩; have HB2 := qa.mk (qo HB.out hb); have HI2 := qa.mk (HI.out.below hb); have hs2 := HB2.out.size; clear hb) | (go_at_call 22; refine (Bld.str w.heap.size _ _ _ HI2.out HS.out hs2).mono ?_; rintro e w3 ⟨rfl, h3, hb3, _⟩; have HB3 := qa.mk (HB2.out.trans hb3); have HI3 := qa.mk h3; clear h3 hb3)));go_roundg (a0.size + 1 - (j + 1))
    case measure => omega
    case rel =>
     refine ⟨j + 1, by go_num, ⟨by omega, rfl⟩, ⟨?_⟩, HB3⟩;rw [HN.out, HN2.out];simpa using HI3.out
  ·have HN := qa.mk (show a0.data.toList.take j = a0.data.toList from List.take_of_length_le (by simp; exact Nat.le_of_not_lt hlt));(go_wp2_with (go_at_call 24; refine (Bld.out w.heap.size _ _ HI.out hsz).mono ?_; rintro e w2 ⟨rfl, hb⟩; have HB2 := qa.mk (HB.out.trans hb); clear hb));go_ret;exact ⟨by rw [HN.out]; rfl, HB2.out⟩
def condL (c : S50) : List UInt8 := [91] ++ c.f0.data.toList ++ (if c.f2 = true then [61, 34] ++ escL c.f1.data.toList ++ [34] else []) ++ [93]
def headL (first : Bool) (p : S48) : List UInt8 := if p.f0 = true then [62] else if first = true then [] else [32]
def tagL (p : S48) : List UInt8 := (if p.f2.toList = [] then [42] else []) ++ p.f2.data.toList
def keyL (p : S48) : List UInt8 := if p.f1 = true then [35, 34] ++ escL p.f3.data.toList ++ [34] else []
def partL (first : Bool) (p : S48) : List UInt8 := headL first p ++ tagL p ++ keyL p ++ p.f4.flatMap condL
def selL : List S48 → List UInt8
 | [] => []
 | p :: r => partL true p ++ r.flatMap (partL false)
def query_Print.f (l0 : List S48) : Option (ByteArray × Int) :=
 (qcb.f 64 l0).bind fun e => if e = 0 then (if (selL l0).length ≤ 1000000000000 then some (⟨(selL l0).toArray⟩, 0) else none) else some ((⟨#[]⟩ : ByteArray), e)
theorem selL_take (l : List S48) (j : Nat) (h : j < l.length) : selL (l.take (j + 1)) = selL (l.take j) ++ partL (decide (j = 0)) l[j] := by
 cases j with
 | zero =>
  cases l with
  | nil => simp at h
  | cons p r => simp [selL]
 | succ j =>
  cases l with
  | nil => simp at h
  | cons p r =>
   (have h2 : j < r.length := by simpa using h);simp only [selL, List.take_succ_cons, List.getElem_cons_succ];rw [List.take_succ_eq_append_getElem h2, List.flatMap_append];simp
theorem selL_split (l : List S48) (j : Nat) (h : j < l.length) : ∃ z, selL l = selL (l.take (j + 1)) ++ z := by
 cases l with
 | nil => simp at h
 | cons p r => exact ⟨(r.drop j).flatMap (partL false), by simp only [List.take_succ_cons, selL, List.append_assoc]; rw [← List.flatMap_append, List.take_append_drop]⟩
theorem rd48 (l : List S48) (j : Nat) (h : j < l.length) : l[j] = qu l (j : Int) := by
 unfold qu;rw [Int.toNat_natCast, List.getD_eq_getElem?_getD, List.getElem?_eq_getElem h];rfl
theorem rd50 (l : List S50) (j : Nat) (h : j < l.length) : l[j] = rd_T50 l (j : Int) := by
 unfold rd_T50;rw [Int.toNat_natCast, List.getD_eq_getElem?_getD, List.getElem?_eq_getElem h];rfl
def PBox (g : Nat) (p0 p1 : Bool) (p2 p3 : ByteArray) (n : Nat) (A : Option Addr) (c : Nat) (W : World) : Prop := W.heap[g]? = some (.cells #[.bool p0, .bool p1, .string p2, .string p3, .slice A n c] 48 (0, 0))
theorem PBox.others {g B : Nat} {p0 p1 : Bool} {p2 p3 : ByteArray} {n : Nat} {A : Option Addr} {c : Nat} {W W1 : World} (h : PBox g p0 p1 p2 p3 n A c W) (ho : Lib.OthersKept 5 (some B) W W1) (hne : g ≠ B) : PBox g p0 p1 p2 p3 n A c W1 :=
 ho _ _ h (fun e => hne (Option.some.inj e)) (fun _ _ e => by injection e with _ e; cases e)
theorem PBox.below {g : Nat} {p0 p1 : Bool} {p2 p3 : ByteArray} {n : Nat} {A : Option Addr} {c : Nat} {W W1 : World} (h : PBox g p0 p1 p2 p3 n A c W) (hb : Below W.heap.size W W1) : PBox g p0 p1 p2 p3 n A c W1 := (hb.block g (Array.getElem?_eq_some_iff.1 h).1).trans h
theorem PBox.cells {g : Nat} {p0 p1 : Bool} {p2 p3 : ByteArray} {n : Nat} {A : Option Addr} {c : Nat} {W : World} (h : PBox g p0 p1 p2 p3 n A c W) : W.cell? ⟨g, 0, none⟩ = some (.bool p0) ∧ W.cell? ⟨g, 1, none⟩ = some (.bool p1) ∧ W.cell? ⟨g, 2, none⟩ = some (.string p2) ∧ W.cell? ⟨g, 3, none⟩ = some (.string p3) ∧ W.cell? ⟨g, 4, none⟩ = some (.slice A n c) :=
 ⟨(qz h 0).trans rfl, (qz h 1).trans rfl, (qz h 2).trans rfl, (qz h 3).trans rfl, (qz h 4).trans rfl⟩
def CBox (g : Nat) (q0 q1 : ByteArray) (q2 : Bool) (W : World) : Prop := W.heap[g]? = some (.cells #[.string q0, .string q1, .bool q2] 50 (0, 0))
theorem CBox.others {g B : Nat} {q0 q1 : ByteArray} {q2 : Bool} {W W1 : World} (h : CBox g q0 q1 q2 W) (ho : Lib.OthersKept 5 (some B) W W1) (hne : g ≠ B) : CBox g q0 q1 q2 W1 :=
 ho _ _ h (fun e => hne (Option.some.inj e)) (fun _ _ e => by injection e with _ e; cases e)
theorem CBox.below {g : Nat} {q0 q1 : ByteArray} {q2 : Bool} {W W1 : World} (h : CBox g q0 q1 q2 W) (hb : Below W.heap.size W W1) : CBox g q0 q1 q2 W1 := (hb.block g (Array.getElem?_eq_some_iff.1 h).1).trans h
theorem CBox.cells {g : Nat} {q0 q1 : ByteArray} {q2 : Bool} {W : World} (h : CBox g q0 q1 q2 W) : W.cell? ⟨g, 0, none⟩ = some (.string q0) ∧ W.cell? ⟨g, 1, none⟩ = some (.string q1) ∧ W.cell? ⟨g, 2, none⟩ = some (.bool q2) :=
 ⟨(qz h 0).trans rfl, (qz h 1).trans rfl, (qz h 2).trans rfl⟩
theorem CBox.lt {g : Nat} {q0 q1 : ByteArray} {q2 : Bool} {W : World} (h : CBox g q0 q1 q2 W) : g < W.heap.size := (Array.getElem?_eq_some_iff.1 h).1
theorem PBox.lt {g : Nat} {p0 p1 : Bool} {p2 p3 : ByteArray} {n : Nat} {A : Option Addr} {c : Nat} {W : World} (h : PBox g p0 p1 p2 p3 n A c W) : g < W.heap.size := (Array.getElem?_eq_some_iff.1 h).1
theorem cond_take (l : List S50) (i : Nat) (h : i < l.length) : (l.take (i + 1)).flatMap condL = (l.take i).flatMap condL ++ condL (rd_T50 l (i : Int)) := by
 rw [List.take_succ_eq_append_getElem h, List.flatMap_append, ← rd50 l i h];simp
theorem cond_le (l : List S50) (i : Nat) (h : i < l.length) : ((l.take i).flatMap condL).length + (condL (rd_T50 l (i : Int))).length ≤ (l.flatMap condL).length := by
 (have h1 : l.flatMap condL = (l.take (i + 1)).flatMap condL ++ (l.drop (i + 1)).flatMap condL := by rw [← List.flatMap_append, List.take_append_drop]);rw [h1, cond_take l i h];simp only [List.length_append];omega
theorem escL_ge (l : List UInt8) : l.length ≤ (escL l).length := by
 induction l with
 | nil => simp [escL]
 | cons c l ih =>
  have h1 := putL_len c;simp only [escL, List.flatMap_cons, List.length_append, List.length_cons] at ih ⊢;omega
theorem cat3_size (a b c : List UInt8) : ((⟨a.toArray⟩ : ByteArray) ++ ⟨b.toArray⟩ ++ ⟨c.toArray⟩).size = a.length + b.length + c.length := by
 rw [ByteArray.size_append, ByteArray.size_append];rfl
theorem cat3_list (a b c : List UInt8) : ((⟨a.toArray⟩ : ByteArray) ++ ⟨b.toArray⟩ ++ ⟨c.toArray⟩).data.toList = a ++ b ++ c := by
 rw [ByteArray.data_append, ByteArray.data_append];simp
set_option maxHeartbeats 8000000 in
set_option maxRecDepth 100000 in
theorem query_Print.calls (A0 : Option Addr) (c0 : Nat) (l0 : List S48) (r1 : ByteArray) (r2 : Int) (w : World) (hG : Glob w) (hr0 : Kd.C k48 w A0 l0.length l0) (hc0 : l0.length ≤ c0) (h : query_Print.f l0 = some (r1, r2)) :
  Calls Tryz.prog 8 #[.slice A0 l0.length c0] w fun e w' => e = .returned (.tuple #[.string r1, .int .i64 r2]) ∧ Below w.heap.size w w' := by
 obtain ⟨ec, hec, h⟩ := Option.bind_eq_some_iff.1 h;have HE := qa.mk hec;have HG := qa.mk hG;have HR := qa.mk hr0;have HC := qa.mk hc0;have hm := hr0.2.1;clear hG hr0 hc0 hec;have hu1 := Tryz.underlying48;have hu2 := Tryz.underlying50;by_cases he : ec = 0;rotate_left
 ·rw [if_neg he] at h;simp only [Option.some.injEq, Prod.mk.injEq] at h;obtain ⟨rfl, rfl⟩ := h;(have he1 : (ec == 0) = false := by simpa using he);(have he2 : (ec != 0) = true := by simpa using he);clear he;(go_enter Tryz.func8, Tryz.ntmps8);(go_wp2_with (go_at_call 10; refine (qcb.calls 64 _ _ _ _ _ HR.out HC.out HE.out).mono ?_; rintro e w2 ⟨rfl, hb⟩; have HB := qa.mk hb; clear hb));go_ret2;exact ⟨rfl, HB.out⟩
 subst he;rw [if_pos rfl] at h;by_cases hlen : (selL l0).length ≤ 1000000000000;rotate_left
 ·rw [if_neg hlen] at h;cases h
 rw [if_pos hlen] at h;simp only [Option.some.injEq, Prod.mk.injEq] at h;obtain ⟨rfl, rfl⟩ := h;have HL := qa.mk hlen;clear hlen;(go_enter Tryz.func8, Tryz.ntmps8);go_wp2_with (go_at_call 10; refine (qcb.calls 64 _ _ _ _ _ HR.out HC.out HE.out).mono ?_; rintro e w2 ⟨rfl, hb⟩; have HB := qa.mk hb; have hs := hb.size; clear hb)
 go_loopg [17] (l0.length + 1) (fun kq v17 w' => ∃ (j : Nat), v17 = .int .i64 (j : Int) ∧ qa (j ≤ l0.length ∧ kq = l0.length + 1 - j) ∧ qa (Bld w2.heap.size (selL (l0.take j)) w') ∧ qa (Below w.heap.size w w') ∧ qa (w2.heap.size ≤ w'.heap.size))
 case atStart => exact ⟨0, rfl, ⟨Nat.zero_le _, rfl⟩, ⟨Bld.fresh w2⟩, ⟨qc HB.out _⟩, ⟨by simp⟩⟩
 case round =>
  obtain ⟨j, rfl, HJ, HI, HB, HS⟩ := hrel;obtain ⟨hj, hk⟩ := HJ.out;clear HJ;subst hk;have hs2 := HS.out;by_cases hlt : j < l0.length
  ·obtain ⟨ad, A4, c4, e, hx0, hx1, hx2, hx3, hx4, hl4, hr4⟩ := at_T48 HR.out (j : Int) (by omega) (by omega);cases e;replace hx0 := cx HB hx0;replace hx1 := cx HB hx1;replace hx2 := cx HB hx2;replace hx3 := cx HB hx3;replace hx4 := cx HB hx4;rw [Int.toNat_natCast] at hx0 hx1 hx2 hx3 hx4;have HT := qa.mk (selL_take l0 j hlt);rw [rd48 l0 j hlt] at HT;have HR4 := qa.mk hr4;clear hr4 hl4;generalize qu l0 (j : Int) = p at *
   have HPL := qa.mk (show (selL (l0.take j)).length + (partL (decide (j = 0)) p).length ≤ 1000000000000 from by
    obtain ⟨z, hz⟩ := selL_split l0 j hlt;have h := HL.out;rw [hz, HT.out] at h;simp only [List.length_append] at h
    omega)
   obtain ⟨p0, p1, p2, p3, p4⟩ := p;dsimp only at *
   have hl1 : (selL (l0.take j)).length + (headL (decide (j = 0)) ⟨p0, p1, p2, p3, p4⟩).length + (tagL ⟨p0, p1, p2, p3, p4⟩).length + (keyL ⟨p0, p1, p2, p3, p4⟩).length + (p4.flatMap condL).length ≤ 1000000000000 := by
    have := HPL.out;unfold partL at this;simp only [List.length_append] at this;omega
   clear HPL h
   have hne : wr.heap.size ≠ w2.heap.size := by
    rcases HI.out with ⟨_, v, hv, _⟩ | ⟨_, v, hv, _⟩ <;> (have := (Array.getElem?_eq_some_iff.1 hv).1; omega)
   (have hgt : w2.heap.size < wr.heap.size := by omega);go_upto_block 2 with fail
   go_cut [] (fun wc => qa (Bld w2.heap.size (selL (l0.take j) ++ headL (decide (j = 0)) ⟨p0, p1, p2, p3, p4⟩) wc) ∧ qa (PBox wr.heap.size p0 p1 p2 p3 p4.length A4 c4 wc) ∧ qa (Below w.heap.size w wc))
   case first =>
    (have hx : (wr.alloc (.cells #[.bool p0, .bool p1, .string p2, .string p3, .slice A4 p4.length c4] 48)).cell? ⟨wr.heap.size, 0, none⟩ = some (.bool p0) := by simp);have HI2 := qa.mk (HI.out.below (qc (Below.refl _ _) (.cells #[.bool p0, .bool p1, .string p2, .string p3, .slice A4 p4.length c4] 48)));have HP2 := qa.mk (show PBox wr.heap.size p0 p1 p2 p3 p4.length A4 c4 (wr.alloc (.cells #[.bool p0, .bool p1, .string p2, .string p3, .slice A4 p4.length c4] 48)) from heap_alloc_new wr _);have HB2 := qa.mk (qc HB.out (.cells #[.bool p0, .bool p1, .string p2, .string p3, .slice A4 p4.length c4] 48));clear hx0 hx1 hx2 hx3 hx4 HI HB HT;cases p0
    ·by_cases hj0 : j = 0
     ·have HN := qa.mk (show headL (decide (j = 0)) ⟨false, p1, p2, p3, p4⟩ = [] from by simp [headL, hj0]);(have hj1 : decide (0 < j) = false := by simp [hj0]);clear hj0;(go_wp2_with fail);go_meet;exact ⟨⟨by rw [HN.out, List.append_nil]; exact HI2.out⟩, HP2, HB2⟩
     ·have HN := qa.mk (show headL (decide (j = 0)) ⟨false, p1, p2, p3, p4⟩ = [32] from by simp [headL, hj0]);(have hj1 : decide (0 < j) = true := by simp; omega);clear hj0;(go_wp2_with (go_at_call 21; go_loud (refine (Bld.byte w2.heap.size _ 32 _ HI2.out (by omega) (by omega) (by omega) (by simp; omega)).mono ?_); rintro e w3 ⟨rfl, h3, hb3, ho3⟩; have HI3 := qa.mk h3; have HP3 := qa.mk (HP2.out.others ho3 (by omega)); have HB3 := qa.mk (HB2.out.trans (hb3.mono hs)); have hs3 := HP3.out; clear h3 hb3 ho3));go_meet;exact ⟨⟨by rw [HN.out]; exact HI3.out⟩, HP3, HB3⟩
    ·have HN := qa.mk (show headL (decide (j = 0)) ⟨true, p1, p2, p3, p4⟩ = [62] from by simp [headL]);(go_wp2_with (go_at_call 21; refine (Bld.byte w2.heap.size _ 62 _ HI2.out (by omega) (by omega) (by omega) (by simp; omega)).mono ?_; rintro e w3 ⟨rfl, h3, hb3, ho3⟩; have HI3 := qa.mk h3; have HP3 := qa.mk (HP2.out.others ho3 (by omega)); have HB3 := qa.mk (HB2.out.trans (hb3.mono hs)); have hs3 := HP3.out; clear h3 hb3 ho3));go_meet;exact ⟨⟨by rw [HN.out]; exact HI3.out⟩, HP3, HB3⟩
   case rest =>
    clear hx0 hx1 hx2 hx3 hx4 HI HB;obtain ⟨HI, HP, HB⟩ := hcut;obtain ⟨hy0, hy1, hy2, hy3, hy4⟩ := HP.out.cells;generalize hacc : selL (l0.take j) ++ headL (decide (j = 0)) ⟨p0, p1, p2, p3, p4⟩ = acc at *
    have hla : acc.length + (tagL ⟨p0, p1, p2, p3, p4⟩).length + (keyL ⟨p0, p1, p2, p3, p4⟩).length + (p4.flatMap condL).length ≤ 1000000000000 := by
     rw [← hacc, List.length_append];omega
    have HACC := qa.mk hacc;clear hl1 hacc;go_upto_if 32 with fail
    go_cut [] (fun wd => qa (Bld w2.heap.size (acc ++ (if p2.toList = [] then [42] else [])) wd) ∧ qa (PBox wr.heap.size p0 p1 p2 p3 p4.length A4 c4 wd) ∧ qa (Below w.heap.size w wd))
    case first =>
     by_cases ct : p2.toList = []
     ·have ct0 : (p2.toList == ([] : List UInt8)) = true := beq_iff_eq.mpr ct;(have ct1 : p2.toList.isEmpty = true := by rw [ct]; rfl);have HN := qa.mk (show (if p2.toList = [] then [42] else []) = ([42] : List UInt8) from if_pos ct);have HLN := qa.mk (show acc.length + 1 ≤ 140737488355328 from by omega);clear ct hla ct0;rw [ct1];clear ct1;(go_wp2_with (go_at_call 21; refine (Bld.byte w2.heap.size _ 42 _ HI.out (by omega) (by omega) HLN.out (Nat.le_of_lt (Nat.lt_trans hgt HP.out.lt))).mono ?_; rintro e w3 ⟨rfl, h3, hb3, ho3⟩; have HI3 := qa.mk h3; have HP3 := qa.mk (HP.out.others ho3 hne); have HB3 := qa.mk (HB.out.trans (hb3.mono hs)); clear h3 hb3 ho3));go_meet;exact ⟨⟨by rw [HN.out]; exact HI3.out⟩, HP3, HB3⟩
     ·have ct0 : (p2.toList == ([] : List UInt8)) = false := beq_eq_false_iff_ne.mpr ct;(have ct1 : p2.toList.isEmpty = false := by cases hq : p2.toList with | nil => exact absurd hq ct | cons a b => rfl);have HN := qa.mk (show (if p2.toList = [] then [42] else []) = ([] : List UInt8) from if_neg ct);clear ct hla ct0;rw [ct1];clear ct1;(go_wp2_with fail);go_meet;exact ⟨⟨by rw [HN.out, List.append_nil]; exact HI.out⟩, HP, HB⟩
    case rest =>
     clear hy0 hy1 hy2 hy3 hy4 HI HP HB;obtain ⟨HI, HP, HB⟩ := hcut;obtain ⟨hy0, hy1, hy2, hy3, hy4⟩ := HP.out.cells;generalize hac2 : acc ++ (if p2.toList = [] then [42] else []) = ac2 at *
     have hla2 : ac2.length + p2.size + (keyL ⟨p0, p1, p2, p3, p4⟩).length + (p4.flatMap condL).length ≤ 1000000000000 := by
      rw [← hac2, List.length_append];simp only [tagL, List.length_append] at hla;have hsz : p2.data.toList.length = p2.size := rfl;omega
     have HACC2 := qa.mk hac2;clear hla hac2;have HLN := qa.mk (show ac2.length + p2.size ≤ 140737488355328 from by omega);(go_upto_if 38 with (go_at_call 22; refine (Bld.str w2.heap.size _ p2 _ HI.out HLN.out (Nat.le_of_lt (Nat.lt_trans hgt HP.out.lt))).mono ?_; rintro e w3 ⟨rfl, h3, hb3, ho3⟩; have HI3 := qa.mk h3; have HP3 := qa.mk (HP.out.others ho3 hne); have HB3 := qa.mk (HB.out.trans (hb3.mono hs)); have hs5 := HB3.out.size; obtain ⟨hz0, hz1, hz2, hz3, hz4⟩ := HP3.out.cells; have hs3 := HP3.out.lt; clear h3 hb3 ho3));clear HI HP HB HLN hy0 hy1 hy2 hy3 hy4
     have hla3 : (ac2 ++ p2.data.toList).length + (keyL ⟨p0, p1, p2, p3, p4⟩).length + (p4.flatMap condL).length ≤ 1000000000000 := by
      rw [List.length_append];have hsz : p2.data.toList.length = p2.size := rfl;omega
     generalize hac3 : ac2 ++ p2.data.toList = ac3 at *;have HACC3 := qa.mk hac3;clear hla2 hac3
     go_cut [] (fun wd => qa (Bld w2.heap.size (ac3 ++ keyL ⟨p0, p1, p2, p3, p4⟩) wd) ∧ qa (PBox wr.heap.size p0 p1 p2 p3 p4.length A4 c4 wd) ∧ qa (Below w.heap.size w wd))
     case first =>
      cases p1
      ·have HN := qa.mk (show keyL ⟨p0, false, p2, p3, p4⟩ = ([] : List UInt8) from rfl);clear hla3;(go_wp2_with fail);go_meet;exact ⟨⟨by rw [HN.out, List.append_nil]; exact HI3.out⟩, HP3, HB3⟩
      ·have HN := qa.mk (show keyL ⟨p0, true, p2, p3, p4⟩ = [35, 34] ++ escL p3.data.toList ++ [34] from rfl)
       have hel : ac3.length + (escL p3.data.toList).length + 3 ≤ 1000000000000 := by
        have := HN.out;rw [this] at hla3;simp only [List.length_append, List.length_cons, List.length_nil] at hla3;omega
       have HEL := qa.mk hel;clear hla3 hel
       have HE2 := qa.mk (show escape_Escape.f p3 = some ⟨(escL p3.data.toList).toArray⟩ from by
        unfold escape_Escape.f;refine if_pos ?_;have h1 := escL_ge p3.data.toList;have h2 := HEL.out;have hsz : p3.data.toList.length = p3.size := rfl
        omega)
       (have hes : (⟨(escL p3.data.toList).toArray⟩ : ByteArray).size = (escL p3.data.toList).length := by simp [ByteArray.size]);have hel := HEL.out;have hl3 := HEL.out;(go_wp2_with (first | (go_at_call 23; refine (escape_Escape.calls p3 _ _ (HG.out.below HB3.out) HE2.out).mono ?_; rintro e w4 ⟨rfl, hb4⟩; have HI4 := qa.mk (HI3.out.below hb4); have HP4 := qa.mk (HP3.out.below hb4); have HB4 := qa.mk (HB3.out.trans (hb4.mono hs5)); have hs4 := HP4.out.lt; clear hb4) | (go_at_call 22; go_loud (refine (Bld.str w2.heap.size _ _ _ HI4.out (by have := cat3_size [35, 34] (escL p3.data.toList) [34]; simp only [List.length_cons, List.length_nil] at this; omega) (Nat.le_of_lt (Nat.lt_trans hgt hs4))).mono ?_); rintro e w5 ⟨rfl, h5, hb5, ho5⟩; have HI5 := qa.mk h5; have HP5 := qa.mk (HP4.out.others ho5 hne); have HB5 := qa.mk (HB4.out.trans (hb5.mono hs)); clear h5 hb5 ho5)));go_meet;exact ⟨⟨by rw [HN.out]; have := HI5.out; rw [cat3_list] at this; exact this⟩, HP5, HB5⟩
     case rest =>
      clear hz0 hz1 hz2 hz3 hz4 hs3 hs5 HI3 HP3 HB3;obtain ⟨HI, HP, HB⟩ := hcut;obtain ⟨hy0, hy1, hy2, hy3, hy4⟩ := HP.out.cells;have hs3 := HP.out.lt
      have hla4 : (ac3 ++ keyL ⟨p0, p1, p2, p3, p4⟩).length + (p4.flatMap condL).length ≤ 1000000000000 := by
       rw [List.length_append];exact hla3
      generalize hac4 : ac3 ++ keyL ⟨p0, p1, p2, p3, p4⟩ = ac4 at *;have HACC4 := qa.mk hac4;have HL5 := qa.mk hla4;clear hla3 hla4 hac4;have HM4 := qa.mk HR4.out.2.1;go_wp2_with fail
      go_loopg [48] (p4.length + 1) (fun kq v48 w' => ∃ (i : Nat), v48 = .int .i64 (i : Int) ∧ qa (i ≤ p4.length ∧ kq = p4.length + 1 - i) ∧ qa (Bld w2.heap.size (ac4 ++ (p4.take i).flatMap condL) w') ∧ qa (Below w.heap.size w w') ∧ qa (w2.heap.size < w'.heap.size))
      case atStart => exact ⟨0, rfl, ⟨Nat.zero_le _, rfl⟩, ⟨by simpa using HI.out⟩, HB, ⟨Nat.lt_trans hgt hs3⟩⟩
      case round =>
       clear hy0 hy1 hy2 hy3 hy4 HI HB HP hs3 hgt hne HS hs2;obtain ⟨i, rfl, HJ2, HI, HB, HS⟩ := hrel;obtain ⟨hi, hk2⟩ := HJ2.out;clear HJ2;subst hk2;have hm4 := HM4.out;by_cases hlt2 : i < p4.length
       ·obtain ⟨bd, e, hx0, hx1, hx2⟩ := at_T50 HR4.out (i : Int) (by omega) (by omega);cases e;replace hx0 := cx HB hx0;replace hx1 := cx HB hx1;replace hx2 := cx HB hx2;rw [Int.toNat_natCast] at hx0 hx1 hx2;have HT2 := qa.mk (cond_take p4 i hlt2);have hq := cond_le p4 i hlt2;generalize rd_T50 p4 (i : Int) = q at *;obtain ⟨q0, q1, q2⟩ := q;dsimp only at *
        have hl6 : (ac4 ++ (p4.take i).flatMap condL).length + (condL ⟨q0, q1, q2⟩).length ≤ 1000000000000 := by
         have := HL5.out;rw [List.length_append];omega
        clear hq;generalize hbc : ac4 ++ (p4.take i).flatMap condL = bc at *;have HBC := qa.mk hbc;clear hbc;have hgt := HS.out;(have hne : wr.heap.size ≠ w2.heap.size := by omega);have HI2 := qa.mk (HI.out.below (qc (Below.refl _ _) (.cells #[.string q0, .string q1, .bool q2] 50)));have HP2 := qa.mk (show CBox wr.heap.size q0 q1 q2 (wr.alloc (.cells #[.string q0, .string q1, .bool q2] 50)) from heap_alloc_new wr _);have HB2 := qa.mk (qc HB.out (.cells #[.string q0, .string q1, .bool q2] 50));obtain ⟨hy0, hy1, hy2⟩ := HP2.out.cells;have hgt2 := Nat.lt_trans hgt HP2.out.lt;have HL6 := qa.mk hl6;clear hl6
        have HLN := qa.mk (show bc.length + ((⟨#[91]⟩ : ByteArray) ++ q0).size ≤ 140737488355328 from by
         have h := HL6.out;simp only [condL, List.length_append] at h;have hsz : q0.data.toList.length = q0.size := rfl;rw [ByteArray.size_append];have h1 : (⟨#[91]⟩ : ByteArray).size = 1 := rfl
         omega)
        have hq0 : q0.size ≤ 1000000000000 := by
         have h := HL6.out;simp only [condL, List.length_append] at h;have hsz : q0.data.toList.length = q0.size := rfl;omega
        clear HI HB HS;(go_upto_if 57 with (go_at_call 22; refine (Bld.str w2.heap.size _ _ _ HI2.out HLN.out (Nat.le_of_lt hgt2)).mono ?_; rintro e w3 ⟨rfl, h3, hb3, ho3⟩; have HI3 := qa.mk h3; have HP3 := qa.mk (HP2.out.others ho3 hne); have HB3 := qa.mk (HB2.out.trans (hb3.mono hs)); have hs5 := HB3.out.size; obtain ⟨hz0, hz1, hz2⟩ := HP3.out.cells; have hs3 := HP3.out.lt; clear h3 hb3 ho3));clear hx0 hx1 hx2 hy0 hy1 hy2 hgt2 HP2 HI2 HB2 HLN
        go_cut [] (fun wd => qa (Bld w2.heap.size (bc ++ ((⟨#[91]⟩ : ByteArray) ++ q0).data.toList ++ (if q2 = true then [61, 34] ++ escL q1.data.toList ++ [34] else [])) wd) ∧ qa (w2.heap.size < wd.heap.size) ∧ qa (Below w.heap.size w wd))
        case first =>
         cases q2
         ·(go_wp2_with fail);go_meet;exact ⟨⟨by simpa using HI3.out⟩, ⟨Nat.lt_trans hgt hs3⟩, HB3⟩
         ·have hel : bc.length + ((⟨#[91]⟩ : ByteArray) ++ q0).data.toList.length + (escL q1.data.toList).length + 3 ≤ 1000000000000 := by
           have := HL6.out;simp only [condL, if_true, List.length_append, List.length_cons, List.length_nil, ByteArray.data_append, Array.toList_append] at this ⊢;omega
          have HEL := qa.mk hel
          have HE2 := qa.mk (show escape_Escape.f q1 = some ⟨(escL q1.data.toList).toArray⟩ from by
           unfold escape_Escape.f;refine if_pos ?_;have h1 := escL_ge q1.data.toList;have h2 := HEL.out;have hsz : q1.data.toList.length = q1.size := rfl
           omega)
          (have hes : (⟨(escL q1.data.toList).toArray⟩ : ByteArray).size = (escL q1.data.toList).length := by simp [ByteArray.size]);(have hl3 : (escL q1.data.toList).length ≤ 1000000000000 := by omega);clear hel;(go_wp2_with (first | (go_at_call 23; refine (escape_Escape.calls q1 _ _ (HG.out.below HB3.out) HE2.out).mono ?_; rintro e w4 ⟨rfl, hb4⟩; have HI4 := qa.mk (HI3.out.below hb4); have HP4 := qa.mk (HP3.out.below hb4); have HB4 := qa.mk (HB3.out.trans (hb4.mono hs5)); have hs4 := HP4.out.lt; clear hb4) | (go_at_call 22; refine (Bld.str w2.heap.size _ _ _ HI4.out (by have := cat3_size [61, 34] (escL q1.data.toList) [34]; have h2 := HEL.out; simp only [List.length_cons, List.length_nil, List.length_append] at this h2 ⊢; omega) (Nat.le_of_lt (Nat.lt_trans hgt hs4))).mono ?_; rintro e w5 ⟨rfl, h5, hb5, ho5⟩; have HI5 := qa.mk h5; have HP5 := qa.mk (HP4.out.others ho5 hne); have HB5 := qa.mk (HB4.out.trans (hb5.mono hs)); clear h5 hb5 ho5)));go_meet;exact ⟨⟨by have := HI5.out; rw [cat3_list] at this; exact this⟩, ⟨Nat.lt_trans hgt HP5.out.lt⟩, HB5⟩
        case rest =>
         obtain ⟨HI4, HS4, HB4⟩ := hcut
         have HLX := qa.mk (show (bc ++ ((⟨#[91]⟩ : ByteArray) ++ q0).data.toList ++ (if q2 = true then [61, 34] ++ escL q1.data.toList ++ [34] else [])).length + 1 ≤ 140737488355328 from by
          have := HL6.out;simp only [condL, List.length_append, List.length_cons, List.length_nil, ByteArray.data_append, Array.toList_append] at this ⊢
          omega)
         have HEX := qa.mk (show bc ++ ((⟨#[91]⟩ : ByteArray) ++ q0).data.toList ++ (if q2 = true then [61, 34] ++ escL q1.data.toList ++ [34] else []) ++ [93] = bc ++ condL ⟨q0, q1, q2⟩ from by
          simp only [condL, ByteArray.data_append, Array.toList_append, List.append_assoc])
         clear HI3 HP3 HB3 hz0 hz1 hz2 hs3 hs5;(go_wp2_with (go_at_call 21; refine (Bld.byte w2.heap.size _ 93 _ HI4.out (by omega) (by omega) HLX.out (Nat.le_of_lt HS4.out)).mono ?_; rintro e w6 ⟨rfl, h6, hb6, ho6⟩; have HI6 := qa.mk h6; have HS6 := qa.mk (qid HS4.out hb6.size); have HB6 := qa.mk (HB4.out.trans (hb6.mono hs)); clear h6 hb6 ho6));go_roundg (p4.length + 1 - (i + 1))
         case measure => omega
         case rel => exact ⟨i + 1, by simp, ⟨by omega, rfl⟩, ⟨by have := HI6.out; rw [show ([(93 : Int).toNat.toUInt8] : List UInt8) = [93] from rfl, HEX.out, ← HBC.out, List.append_assoc, ← HT2.out] at this; exact this⟩, HB6, HS6⟩
       ·(have hi2 : i = p4.length := by omega);subst hi2;clear hlt2
        have HIX := qa.mk (show Bld w2.heap.size (selL (l0.take (j + 1))) wr from by
         have h1 := HI.out;rw [List.take_length, ← HACC4.out, ← HACC3.out, ← HACC2.out, ← HACC.out] at h1;rw [HT.out];unfold partL;unfold tagL
         simpa only [List.append_assoc] using h1)
        have HSZ := qa.mk (Nat.le_of_lt HS.out);(go_wp2_with fail);go_roundg (l0.length + 1 - (j + 1))
        case measure => omega
        case rel => exact ⟨j + 1, by simp, ⟨by omega, rfl⟩, HIX, HB, HSZ⟩
  ·(have hj2 : j = l0.length := by omega);subst hj2;(go_wp2_with (go_at_call 24; refine (Bld.out w2.heap.size _ _ HI.out HS.out).mono ?_; rintro e w6 ⟨rfl, hb6⟩; have HB6 := qa.mk (HB.out.trans (hb6.mono hs)); clear hb6));go_ret2;exact ⟨rfl, HB6.out⟩
def qdd.f (a0 : ByteArray) (a1 : ByteArray) : Option (Bool) := if (a0.size : Int) ≥ (a1.size : Int) then (if 0 ≤ (a1.size : Int) then (if (a1.size : Int) ≤ (a0.size : Int) then (some ((a0.extract 0 ((a1.size : Int) : Int).toNat).toList == a1.toList)) else (none)) else (none)) else (some false)
set_option maxHeartbeats 8000000 in
set_option maxRecDepth 100000 in
theorem qdd.calls (a0 : ByteArray) (a1 : ByteArray) (r : Bool) (w : World) (h : qdd.f a0 a1 = some r) :
  Calls Tryz.prog 77 #[.string a0, .string a1] w fun e w' => e = .returned (.bool r) ∧ Drawn0 w w' := by
 have H : (if (a0.size : Int) ≥ (a1.size : Int) then (if 0 ≤ (a1.size : Int) then (if (a1.size : Int) ≤ (a0.size : Int) then (some ((a0.extract 0 ((a1.size : Int) : Int).toNat).toList == a1.toList)) else (none)) else (none)) else (some false)) = some r := h;clear h;by_cases c3 : (a0.size : Int) ≥ (a1.size : Int)
 ·rw [if_pos c3] at H;have c3b0 : decide ((a1.size : Int) ≤ (a0.size : Int)) = true := decide_eq_true c3;have c3b1 : decide (a1.size ≤ a0.size) = true := decide_eq_true (Int.ofNat_le.mp c3);clear c3;by_cases c4 : 0 ≤ (a1.size : Int)
  ·rw [if_pos c4] at H;have c4b0 := eq_true c4;have c4b1 : decide (0 ≤ (a1.size : Int)) = true := decide_eq_true c4;clear c4;by_cases c5 : (a1.size : Int) ≤ (a0.size : Int)
   ·rw [if_pos c5] at H;have c5b0 := eq_true c5;have c5b1 : decide ((a1.size : Int) ≤ (a0.size : Int)) = true := decide_eq_true c5;clear c5;obtain rfl := Option.some.inj H;(go_enter Tryz.func77, Tryz.ntmps77);go_wp2;go_ret;exact ⟨zz8, zz15⟩
   ·rw [if_neg c5] at H;exact absurd H (by simp)
  ·rw [if_neg c4] at H;exact absurd H (by simp)
 ·rw [if_neg c3] at H;have c3b0 : decide ((a1.size : Int) ≤ (a0.size : Int)) = false := decide_eq_false c3;have c3b1 : decide (a1.size ≤ a0.size) = false := decide_eq_false (fun h => c3 (Int.ofNat_le.mpr h));clear c3;obtain rfl := Option.some.inj H;(go_enter Tryz.func77, Tryz.ntmps77);go_wp2;go_ret;exact ⟨zz8, zz15⟩
def stringslite_CutPrefix.f (a0 : ByteArray) (a1 : ByteArray) : Option (ByteArray × Bool) := (qdd.f a0 a1).bind fun t122 => (if t122 = true then (if 0 ≤ (a1.size : Int) then (if (a1.size : Int) ≤ (a0.size : Int) then (some (a0.extract ((a1.size : Int) : Int).toNat a0.size, true)) else (none)) else (none)) else (some (a0, false)))
set_option maxHeartbeats 8000000 in
set_option maxRecDepth 100000 in
theorem stringslite_CutPrefix.calls (a0 : ByteArray) (a1 : ByteArray) (r1 : ByteArray) (r2 : Bool) (w : World) (h : stringslite_CutPrefix.f a0 a1 = some (r1, r2)) :
  Calls Tryz.prog 62 #[.string a0, .string a1] w fun e w' => e = .returned (.tuple #[.string r1, .bool r2]) ∧ Drawn0 w w' := by
 have H : ((qdd.f a0 a1).bind fun t122 => (if t122 = true then (if 0 ≤ (a1.size : Int) then (if (a1.size : Int) ≤ (a0.size : Int) then (some (a0.extract ((a1.size : Int) : Int).toNat a0.size, true)) else (none)) else (none)) else (some (a0, false)))) = some (r1, r2) := h;clear h;replace H := Option.bind_eq_some_iff.mp H;obtain ⟨t122, A30, H⟩ := H;replace H : (if t122 = true then (if 0 ≤ (a1.size : Int) then (if (a1.size : Int) ≤ (a0.size : Int) then (some (a0.extract ((a1.size : Int) : Int).toNat a0.size, true)) else (none)) else (none)) else (some (a0, false))) = some (r1, r2) := H;have A3 := qa.mk A30;clear A30;by_cases c4 : t122 = true
 ·subst c4;(have H1 : (if 0 ≤ (a1.size : Int) then (if (a1.size : Int) ≤ (a0.size : Int) then (some (a0.extract ((a1.size : Int) : Int).toNat a0.size, true)) else (none)) else (none)) = some (r1, r2) := by rw [if_pos rfl] at H; exact H);clear H;have H := H1;clear H1;by_cases c5 : 0 ≤ (a1.size : Int)
  ·rw [if_pos c5] at H;have c5b0 := eq_true c5;have c5b1 : decide (0 ≤ (a1.size : Int)) = true := decide_eq_true c5;clear c5;by_cases c6 : (a1.size : Int) ≤ (a0.size : Int)
   ·rw [if_pos c6] at H;have c6b0 := eq_true c6;have c6b1 : decide ((a1.size : Int) ≤ (a0.size : Int)) = true := decide_eq_true c6;clear c6;simp only [Option.some.injEq, Prod.mk.injEq] at H;obtain ⟨rfl, rfl⟩ := H;(go_enter Tryz.func62, Tryz.ntmps62);(go_wp2_with (first | ((with_reducible refine qv (f := 77) rfl ?_); refine qpb (some 8) rfl rfl Tryz.func77 (by kernel_rfl) rfl #[.string a0, .string a1] rfl zz87 ?_; (with_reducible refine (qdd.calls a0 a1 true _ A3.out).mono ?_); rintro e w' ⟨rfl, ⟨nd, rfl⟩⟩; refine ⟨_, rfl, ?_⟩)));go_ret2;exact ⟨zz8, zz15⟩
   ·rw [if_neg c6] at H;exact absurd H (by simp)
  ·rw [if_neg c5] at H;exact absurd H (by simp)
 ·replace c4 := Bool.eq_false_iff.mpr c4;subst c4;(have H1 : (some (a0, false)) = some (r1, r2) := by rw [if_neg (show ¬ (false = true) by decide)] at H; exact H);clear H;have H := H1;clear H1;simp only [Option.some.injEq, Prod.mk.injEq] at H;obtain ⟨rfl, rfl⟩ := H;(go_enter Tryz.func62, Tryz.ntmps62);(go_wp2_with (first | ((with_reducible refine qv (f := 77) rfl ?_); refine qpb (some 8) rfl rfl Tryz.func77 (by kernel_rfl) rfl #[.string a0, .string a1] rfl zz87 ?_; (with_reducible refine (qdd.calls a0 a1 false _ A3.out).mono ?_); rintro e w' ⟨rfl, ⟨nd, rfl⟩⟩; refine ⟨_, rfl, ?_⟩)));go_ret2;exact ⟨zz8, zz15⟩
def strings_CutPrefix.f (a0 : ByteArray) (a1 : ByteArray) : Option (ByteArray × Bool) := (stringslite_CutPrefix.f a0 a1).bind fun bt123 => (some (bt123.1, bt123.2))
set_option maxHeartbeats 8000000 in
set_option maxRecDepth 100000 in
theorem strings_CutPrefix.calls (a0 : ByteArray) (a1 : ByteArray) (r1 : ByteArray) (r2 : Bool) (w : World) (h : strings_CutPrefix.f a0 a1 = some (r1, r2)) :
  Calls Tryz.prog 47 #[.string a0, .string a1] w fun e w' => e = .returned (.tuple #[.string r1, .bool r2]) ∧ Drawn0 w w' := by
 have H : ((stringslite_CutPrefix.f a0 a1).bind fun bt123 => (some (bt123.1, bt123.2))) = some (r1, r2) := h;clear h;replace H := Option.bind_eq_some_iff.mp H;obtain ⟨⟨t123, t124⟩, A30, H⟩ := H;replace H : (some (t123, t124)) = some (r1, r2) := H;have A3 := qa.mk A30;clear A30;simp only [Option.some.injEq, Prod.mk.injEq] at H;obtain ⟨rfl, rfl⟩ := H;(go_enter Tryz.func47, Tryz.ntmps47);(go_wp2_with (first | ((with_reducible refine qv (f := 62) rfl ?_); refine qpb (some 8) rfl rfl Tryz.func62 (by kernel_rfl) rfl #[.string a0, .string a1] rfl zz87 ?_; (with_reducible refine (stringslite_CutPrefix.calls a0 a1 t123 t124 _ A3.out).mono ?_); rintro e w' ⟨rfl, ⟨nd, rfl⟩⟩; refine ⟨_, rfl, ?_⟩)));go_ret2;exact ⟨zz8, zz15⟩
def IsS74 (w0 W : World) (g : Nat) (f0 : ByteArray) (f1 : Bool) : Prop := W.heap[g]? = some (.cells #[.string f0, .bool f1] 74 (0, 0)) ∧ w0.heap.size ≤ g
theorem IsS74.grown {w0 W : World} {g : Nat} {f0 : ByteArray} {f1 : Bool} {W1 : World} {row : Option Nat} (h : IsS74 w0 W g f0 f1) (hw : W.grownBy W1 row) (hne : some g ≠ row) : IsS74 w0 W1 g f0 f1 := by
 obtain ⟨hb, hg⟩ := h;exact ⟨blk_grown hb hw hne, hg⟩
theorem IsS74.own_neN {w0 W : World} {g : Nat} {f0 : ByteArray} {f1 : Bool} {α : Type} {d : Kd α} {e : Nat} {base : Nat} {ok : Nat → Prop} {v : Value} {xs : List α} (h : IsS74 w0 W g f0 f1) (ho : Kd.N d e W base ok v xs) (ht : e ≠ 74) : some g ≠ v.ownBlock := by
 obtain ⟨hb, hg⟩ := h;exact Kd.N_ne ho hb ht
theorem IsS74.fresh {w0 W : World} {g : Nat} {f0 : ByteArray} {f1 : Bool} (h : IsS74 w0 W g f0 f1) : ∀ k, W.heap.size ≤ k → k ≠ g := by
 obtain ⟨hb, hg⟩ := h;exact Kd.freshB hb
theorem IsS74.below {w0 W : World} {g : Nat} {f0 : ByteArray} {f1 : Bool} {W1 : World} (h : IsS74 w0 W g f0 f1) (hw : Below W.heap.size W W1) : IsS74 w0 W1 g f0 f1 := h.grown (grown_of_below hw none) (by simp)
theorem IsS74.alloc {w0 W : World} {g : Nat} {f0 : ByteArray} {f1 : Bool} (h : IsS74 w0 W g f0 f1) (o : Obj) : IsS74 w0 (W.alloc o) g f0 f1 := h.below (qc (Below.refl _ _) o)
theorem IsS74.drewN {w0 W : World} {g : Nat} {f0 : ByteArray} {f1 : Bool} (h : IsS74 w0 W g f0 f1) (m : Nat) : IsS74 w0 (W.drewN m) g f0 f1 := h
theorem IsS74.drew {w0 W : World} {g : Nat} {f0 : ByteArray} {f1 : Bool} (h : IsS74 w0 W g f0 f1) : IsS74 w0 W.drew g f0 f1 := h
theorem IsS74.apart {w0 W : World} {g : Nat} {f0 : ByteArray} {f1 : Bool} {α : Type} {d : Kd α} {e : Nat} {base : Nat} {ok : Nat → Prop} {v : Value} {xs : List α} (h : IsS74 w0 W g f0 f1) (ho : d.R e W base ok v xs) (ht : ∀ q, q ∈ e :: d.E → q ≠ 74) : d.R e W base (fun k => ok k ∧ k ≠ g) v xs := by
 obtain ⟨hb, hg⟩ := h;exact Kd.R_types ho hb ht
theorem IsS74.lt {w0 W : World} {g : Nat} {f0 : ByteArray} {f1 : Bool} (h : IsS74 w0 W g f0 f1) : g < W.heap.size := by
 obtain ⟨hb, hg⟩ := h;exact qmc hb
theorem IsS74.ge {w0 W : World} {g : Nat} {f0 : ByteArray} {f1 : Bool} (h : IsS74 w0 W g f0 f1) : w0.heap.size ≤ g := by
 obtain ⟨hb, hg⟩ := h;exact hg
theorem IsS74.far {w0 W : World} {g : Nat} {f0 : ByteArray} {f1 : Bool} {p : Addr} (h : IsS74 w0 W g f0 f1) (hne : g ≠ p.block) (u : Value) : IsS74 w0 (W.setCell p u) g f0 f1 := by
 obtain ⟨hb, hg⟩ := h;exact ⟨qwb hb hne u, hg⟩
theorem cellS74_0 {W : World} {g : Nat} {f0 : ByteArray} {f1 : Bool} (h : W.heap[g]? = some (.cells #[.string f0, .bool f1] 74 (0, 0))) : W.cell? ⟨g, 0, none⟩ = some (.string f0) := (qz h 0).trans rfl
theorem IsS74.set_0 {w0 W : World} {g : Nat} {f0 : ByteArray} {f1 : Bool} (h : IsS74 w0 W g f0 f1) (x : ByteArray) : IsS74 w0 (W.setCell ⟨g, 0, none⟩ (.string x)) g x f1 := by
 obtain ⟨hb, hg⟩ := h;exact ⟨by simpa using blk_set hb 0 (.string x), hg⟩
theorem cellS74_1 {W : World} {g : Nat} {f0 : ByteArray} {f1 : Bool} (h : W.heap[g]? = some (.cells #[.string f0, .bool f1] 74 (0, 0))) : W.cell? ⟨g, 1, none⟩ = some (.bool f1) := (qz h 1).trans rfl
theorem IsS74.set_1 {w0 W : World} {g : Nat} {f0 : ByteArray} {f1 : Bool} (h : IsS74 w0 W g f0 f1) (x : Bool) : IsS74 w0 (W.setCell ⟨g, 1, none⟩ (.bool x)) g f0 x := by
 obtain ⟨hb, hg⟩ := h;exact ⟨by simpa using blk_set hb 1 (.bool x), hg⟩
def qxb.f (s0_0 : ByteArray) (s0_1 : Bool) (a1 : ByteArray) : Option (Bool × ByteArray × Bool) := (strings_CutPrefix.f s0_0 a1).bind fun bt125 => (some (bt125.2, bt125.1, s0_1))
set_option maxHeartbeats 8000000 in
set_option maxRecDepth 100000 in
theorem qxb.calls (g : Nat) (s0_0 : ByteArray) (s0_1 : Bool) (a1 : ByteArray) (r1 : Bool) (r2 : ByteArray) (r3 : Bool) (w0 w : World) (hI : IsS74 w0 w g s0_0 s0_1) (hB : Below w0.heap.size w0 w) (h : qxb.f s0_0 s0_1 a1 = some (r1, r2, r3)) :
  Calls Tryz.prog 28 #[.pointer (some ⟨g, 0, none⟩), .string a1] w fun e w' => e = .returned (.bool r1) ∧ IsS74 w0 w' g r2 r3 ∧ Below w0.heap.size w0 w' ∧ KeepBut w w' g none := by
 have HI0 := qa.mk hI;have HK := qa.mk (KeepBut.refl w g none);clear hI;have HB := qa.mk hB;clear hB;have H : ((strings_CutPrefix.f s0_0 a1).bind fun bt125 => (some (bt125.2, bt125.1, s0_1))) = some (r1, r2, r3) := h;clear h;replace H := Option.bind_eq_some_iff.mp H;obtain ⟨⟨t125, t126⟩, A30, H⟩ := H;replace H : (some (t126, t125, s0_1)) = some (r1, r2, r3) := H;have A3 := qa.mk A30;clear A30;simp only [Option.some.injEq, Prod.mk.injEq] at H;obtain ⟨rfl, rfl, rfl⟩ := H;obtain ⟨HGz4, hgz4⟩ := HI0.out;have hcz4_0 := cellS74_0 HGz4;have hcz4_1 := cellS74_1 HGz4;have hfz4_0 := qe HGz4 0;have hfz4_1 := qe HGz4 1;clear HGz4 hgz4;(go_enter Tryz.func28, Tryz.ntmps28);(go_wp2_with (first | ((with_reducible refine qv (f := 47) rfl ?_); refine qpb (some 13) rfl rfl Tryz.func47 (by kernel_rfl) rfl #[.string s0_0, .string a1] rfl zz87 ?_; (with_reducible refine (strings_CutPrefix.calls s0_0 a1 t125 t126 _ A3.out).mono ?_); rintro e w' ⟨rfl, ⟨nd, rfl⟩⟩; refine ⟨_, rfl, ?_⟩)));go_ret;exact ⟨zz98, zz118, zz85, zz94⟩
end Go.Proofs.YtjbobecnlpiejaaGreatDoor.Q
