import Derived.Test.YtjbobecnlpiejaaDoorSR1
set_option linter.unusedVariables false
set_option linter.unusedSimpArgs false
namespace Go.Proofs.YtjbobecnlpiejaaDoor.Q
open Go.Proofs.YtjbobecnlpiejaaDoorZ
open Go.RowKit Go.Proofs.YtjbobecnlpiejaaDoorW.PrintWords Go.Proofs.YtjbobecnlpiejaaDoorW.PrintLast Go.Proofs.YtjbobecnlpiejaaDoorW.PrintMore
attribute [local go_sem] qvb qwb qzb qyb
mutual
def qn.j0 : Nat → List (S60) → Bool → Option (Bool)
 | 0, _, _ => none
 | k + 1, x0, x20 => if x20 = true then (some false) else (qn.l0 k x0 (x0.length : Int) 0)
def qn.l0 : Nat → List (S60) → Int → Int → Option (Bool)
 | 0, _, _, _ => none
 | k + 1, x0, x22, x23 => if x23 < x22 then (if 0 ≤ x23 then (if x23 < (x0.length : Int) then (if ((qg x0 x23).f2).toList = ([] : List UInt8) then (if (qg x0 x23).f1 = true then (if ((qg x0 x23).f3).toList = ([] : List UInt8) then (qn.j2 k x0 x22 x23 true ((qg x0 x23).f0) ((qg x0 x23).f1) ((qg x0 x23).f2) ((qg x0 x23).f3) ((qg x0 x23).f4)) else (if (((qg x0 x23).f3).size : Int) > 65536 then (qn.j2 k x0 x22 x23 true ((qg x0 x23).f0) ((qg x0 x23).f1) ((qg x0 x23).f2) ((qg x0 x23).f3) ((qg x0 x23).f4)) else (qn.j2 k x0 x22 x23 (decide ((((qg x0 x23).f4).length : Int) > 8)) ((qg x0 x23).f0) ((qg x0 x23).f1) ((qg x0 x23).f2) ((qg x0 x23).f3) ((qg x0 x23).f4)))) else (if ((qg x0 x23).f3).toList = ([] : List UInt8) then (if (((qg x0 x23).f3).size : Int) > 65536 then (qn.j2 k x0 x22 x23 true ((qg x0 x23).f0) ((qg x0 x23).f1) ((qg x0 x23).f2) ((qg x0 x23).f3) ((qg x0 x23).f4)) else (qn.j2 k x0 x22 x23 (decide ((((qg x0 x23).f4).length : Int) > 8)) ((qg x0 x23).f0) ((qg x0 x23).f1) ((qg x0 x23).f2) ((qg x0 x23).f3) ((qg x0 x23).f4))) else (qn.j2 k x0 x22 x23 true ((qg x0 x23).f0) ((qg x0 x23).f1) ((qg x0 x23).f2) ((qg x0 x23).f3) ((qg x0 x23).f4)))) else ((qab.f k ((qg x0 x23).f2) false).bind fun t343 => (if t343 = true then (if (qg x0 x23).f1 = true then (if ((qg x0 x23).f3).toList = ([] : List UInt8) then (qn.j2 k x0 x22 x23 true ((qg x0 x23).f0) ((qg x0 x23).f1) ((qg x0 x23).f2) ((qg x0 x23).f3) ((qg x0 x23).f4)) else (if (((qg x0 x23).f3).size : Int) > 65536 then (qn.j2 k x0 x22 x23 true ((qg x0 x23).f0) ((qg x0 x23).f1) ((qg x0 x23).f2) ((qg x0 x23).f3) ((qg x0 x23).f4)) else (qn.j2 k x0 x22 x23 (decide ((((qg x0 x23).f4).length : Int) > 8)) ((qg x0 x23).f0) ((qg x0 x23).f1) ((qg x0 x23).f2) ((qg x0 x23).f3) ((qg x0 x23).f4)))) else (if ((qg x0 x23).f3).toList = ([] : List UInt8) then (if (((qg x0 x23).f3).size : Int) > 65536 then (qn.j2 k x0 x22 x23 true ((qg x0 x23).f0) ((qg x0 x23).f1) ((qg x0 x23).f2) ((qg x0 x23).f3) ((qg x0 x23).f4)) else (qn.j2 k x0 x22 x23 (decide ((((qg x0 x23).f4).length : Int) > 8)) ((qg x0 x23).f0) ((qg x0 x23).f1) ((qg x0 x23).f2) ((qg x0 x23).f3) ((qg x0 x23).f4))) else (qn.j2 k x0 x22 x23 true ((qg x0 x23).f0) ((qg x0 x23).f1) ((qg x0 x23).f2) ((qg x0 x23).f3) ((qg x0 x23).f4)))) else (qn.j2 k x0 x22 x23 true ((qg x0 x23).f0) ((qg x0 x23).f1) ((qg x0 x23).f2) ((qg x0 x23).f3) ((qg x0 x23).f4))))) else (none)) else (none)) else (some true)
def qn.j2 : Nat → List (S60) → Int → Int → Bool → Bool → Bool → ByteArray → ByteArray → List (S61) → Option (Bool)
 | 0, _, _, _, _, _, _, _, _, _ => none
 | k + 1, x0, x22, x23, x69, x343000, x343001, x343002, x343003, x343004 => if x69 = true then (some false) else (qn.l1 k x0 x22 x23 (x343004.length : Int) 0 x343000 x343001 x343002 x343003 x343004)
def qn.l1 : Nat → List (S60) → Int → Int → Int → Int → Bool → Bool → ByteArray → ByteArray → List (S61) → Option (Bool)
 | 0, _, _, _, _, _, _, _, _, _, _ => none
 | k + 1, x0, x22, x23, x72, x73, x343000, x343001, x343002, x343003, x343004 => if x73 < x72 then (if 0 ≤ x73 then (if x73 < (x343004.length : Int) then ((qab.f k ((qgb x343004 x73).f0) true).bind fun t346 => (if t346 = true then (if (qgb x343004 x73).f2 = true then (if (((qgb x343004 x73).f1).size : Int) > 65536 then (some false) else (qn.l1 k x0 x22 x23 x72 (wrap64 (x73 + 1)) x343000 x343001 x343002 x343003 x343004)) else (if ((qgb x343004 x73).f1).toList = ([] : List UInt8) then (if (((qgb x343004 x73).f1).size : Int) > 65536 then (some false) else (qn.l1 k x0 x22 x23 x72 (wrap64 (x73 + 1)) x343000 x343001 x343002 x343003 x343004)) else (some false))) else (some false))) else (none)) else (none)) else (qn.l0 k x0 x22 (wrap64 (x23 + 1)))
end
def qn.f (k : Nat) (l0 : List (S60)) : Option (Bool) := if (l0.length : Int) < 1 then (qn.j0 k l0 true) else (if (l0.length : Int) > 8 then (qn.j0 k l0 true) else (if 0 < (l0.length : Int) then (qn.j0 k l0 ((qg l0 0).f0)) else (none)))
set_option maxHeartbeats 8000000 in
set_option maxRecDepth 100000 in
theorem qn.calls (k : Nat) (A0 : Option Addr) (c0 : Nat) (l0 : List (S60)) (r : Bool) (w : World) (hr0 : Kd.C k60 w A0 l0.length l0) (hc0 : l0.length ≤ c0) (h : qn.f k l0 = some r) :
  Calls Tryd.prog 8 #[.slice A0 l0.length c0] w fun e w' => e = .returned (.bool r) ∧ Below w.heap.size w w' := by
 have hu60 := Tryd.underlying60
 have hu61 := Tryd.underlying61
 have HR0 := qa.mk hr0
 have HC0 := qa.mk hc0
 clear hr0 hc0
 have HB := qa.mk (Below.refl w.heap.size w)
 have H : (if (l0.length : Int) < 1 then (qn.j0 k l0 true) else (if (l0.length : Int) > 8 then (qn.j0 k l0 true) else (if 0 < (l0.length : Int) then (qn.j0 k l0 ((qg l0 0).f0)) else (none)))) = some r := h
 clear h
 have HC2 := qa.mk H
 clear H
 go_enter Tryd.func8, Tryd.ntmps8
 go_upto_region 1 with (fail)
 go_cut [20] (fun v20 wc => ∃ (kq : Nat) (x20_1 : Bool), v20 = .bool x20_1 ∧ qa (qn.j0 kq l0 x20_1 = some r) ∧ qa (kq ≤ k) ∧ qa (Below w.heap.size w wc))
 case first =>
  have H := HC2.out
  clear HC2
  by_cases c3 : (l0.length : Int) < 1
  ·rw [if_pos c3] at H
   have c3b0 : decide ((l0.length : Int) < 1) = true := decide_eq_true c3
   have c3b1 : decide (l0.length < 1) = true := decide_eq_true (by omega)
   clear c3
   (first | rw [c3b0] | (simp only [i64_w, i32_w]; rw [c3b0]) | rw [c3b2] | skip)
   have H' := qa.mk H
   clear H
   go_wp2
   go_meet
   case rel => exact ⟨_, (true), zz7, H', ⟨zz3⟩, ⟨zz53⟩⟩
  ·rw [if_neg c3] at H
   have c3b0 : decide ((l0.length : Int) < 1) = false := decide_eq_false c3
   have c3b1 : decide (l0.length < 1) = false := decide_eq_false (by omega)
   clear c3
   (first | rw [c3b0] | (simp only [i64_w, i32_w]; rw [c3b0]) | rw [c3b2] | skip)
   by_cases c4 : (l0.length : Int) > 8
   ·rw [if_pos c4] at H
    have c4b0 : decide (8 < (l0.length : Int)) = true := decide_eq_true c4
    have c4b1 : decide (8 < l0.length) = true := decide_eq_true (by omega)
    clear c4
    have H' := qa.mk H
    clear H
    go_wp2
    go_meet
    case rel => exact ⟨_, (true), zz7, H', ⟨zz3⟩, ⟨zz53⟩⟩
   ·rw [if_neg c4] at H
    have c4b0 : decide (8 < (l0.length : Int)) = false := decide_eq_false c4
    have c4b1 : decide (8 < l0.length) = false := decide_eq_false (by omega)
    clear c4
    by_cases c5 : 0 < (l0.length : Int)
    ·rw [if_pos c5] at H
     have c5b0 : decide (0 < (l0.length : Int)) = true := decide_eq_true c5
     have c5b1 : decide (0 < l0.length) = true := decide_eq_true (by omega)
     clear c5
     have H' := qa.mk H
     clear H
     have p340 : 0 ≤ (0 : Int) := (by omega)
     have q340 : 0 < (l0.length : Int) := of_decide_eq_true zz12
     obtain ⟨ad340, A340_4, c340_4, e340, hx340_0, hx340_1, hx340_2, hx340_3, hx340_4, hl340_4, hi340_4⟩ := at_T60 HR0.out 0 p340 q340
     cases e340
     have qi340 : (0 < l0.length) = True := eq_true (by omega)
     (try rw [show ((0 : Int)).toNat = 0 from rfl] at hx340_0)
     (try rw [show 0 * 5 = 0 from rfl] at hx340_0)
     (try rw [Addr.add_zero'] at hx340_0)
     (try rw [show ((0 : Int)).toNat = 0 from rfl] at hx340_1)
     (try rw [show 0 * 5 = 0 from rfl] at hx340_1)
     (try rw [Addr.add_zero'] at hx340_1)
     (try rw [show ((0 : Int)).toNat = 0 from rfl] at hx340_2)
     (try rw [show 0 * 5 = 0 from rfl] at hx340_2)
     (try rw [Addr.add_zero'] at hx340_2)
     (try rw [show ((0 : Int)).toNat = 0 from rfl] at hx340_3)
     (try rw [show 0 * 5 = 0 from rfl] at hx340_3)
     (try rw [Addr.add_zero'] at hx340_3)
     (try rw [show ((0 : Int)).toNat = 0 from rfl] at hx340_4)
     (try rw [show 0 * 5 = 0 from rfl] at hx340_4)
     (try rw [Addr.add_zero'] at hx340_4)
     replace hx340_0 := (HB.out.cell (qwc w _ hx340_0)).trans hx340_0
     replace hx340_1 := (HB.out.cell (qwc w _ hx340_1)).trans hx340_1
     replace hx340_2 := (HB.out.cell (qwc w _ hx340_2)).trans hx340_2
     replace hx340_3 := (HB.out.cell (qwc w _ hx340_3)).trans hx340_3
     replace hx340_4 := (HB.out.cell (qwc w _ hx340_4)).trans hx340_4
     have HR340_4 := qa.mk hi340_4
     have HC340_4 := qa.mk hl340_4
     clear hi340_4 hl340_4
     replace p340 := eq_true p340
     replace q340 := eq_true q340
     go_wp2
     go_meet
     case rel => exact ⟨_, ((qg l0 0).f0), zz7, H', ⟨zz3⟩, ⟨zz53⟩⟩
    ·rw [if_neg c5] at H
     exact absurd H (by simp)
 case rest =>
  clear HC2
  try clear p2
  try clear c3
  try clear c3b0
  try clear c3b1
  try clear c3b2
  try clear p3
  try clear q3
  try clear hx3
  try clear qi3
  try clear c4
  try clear c4b0
  try clear c4b1
  try clear c5
  try clear c5b0
  try clear c5b1
  try clear hx340_0
  try clear hx340_1
  try clear hx340_2
  try clear hx340_3
  try clear hx340_4
  try clear p340
  try clear q340
  obtain ⟨kq, x20_1, rfl, HA, HJ1, HB⟩ := hcut
  cases kq with
  | zero => exact absurd HA.out (by simp [qn.j0])
  | succ kj1 =>
   have H := HA.out
   clear HA
   simp only [qn.j0] at H
   by_cases c6 : x20_1 = true
   ·subst c6
    have H1 : (some false) = some r := by rw [if_pos rfl] at H; exact H
    clear H
    have H := H1
    clear H1
    obtain rfl := Option.some.inj H
    go_wp2
    go_ret
    exact ⟨zz103, zz53⟩
   ·replace c6 := Bool.eq_false_iff.mpr c6
    subst c6
    have H1 : (qn.l0 kj1 l0 (l0.length : Int) 0) = some r := by rw [if_neg (show ¬ (false = true) by decide)] at H; exact H
    clear H
    have H := H1
    clear H1
    have H' := qa.mk H
    clear H
    go_wp2
    go_loopg [23] kj1 (fun kq v23 w' => ∃ (x23_2 : Int), v23 = .int .i64 x23_2 ∧ qa (qn.l0 kq l0 (l0.length : Int) x23_2 = some r) ∧ qa (kq ≤ kj1) ∧ qa (Below w.heap.size w w'))
    case atStart => exact ⟨(0), zz7, H', ⟨Nat.le_refl _⟩, ⟨zz53⟩⟩
    case round =>
     clear H'
     try clear p2
     try clear c3
     try clear c3b0
     try clear c3b1
     try clear c3b2
     try clear p3
     try clear q3
     try clear hx3
     try clear qi3
     try clear c4
     try clear c4b0
     try clear c4b1
     try clear c5
     try clear c5b0
     try clear c5b1
     try clear c6
     try clear hx340_0
     try clear hx340_1
     try clear hx340_2
     try clear hx340_3
     try clear hx340_4
     try clear p2
     try clear p3
     try clear p340
     try clear q3
     try clear q340
     obtain ⟨x23_2, rfl, HA, HK2, HB⟩ := hrel
     cases gk with
     | zero => exact absurd HA.out (by simp [qn.l0])
     | succ k2 =>
      have H := HA.out
      clear HA
      simp only [qn.l0] at H
      by_cases c7 : x23_2 < (l0.length : Int)
      ·rw [if_pos c7] at H
       have c7b0 : decide (x23_2 < (l0.length : Int)) = true := decide_eq_true c7
       clear c7
       by_cases c8 : 0 ≤ x23_2
       ·rw [if_pos c8] at H
        have c8b0 : decide (0 ≤ x23_2) = true := decide_eq_true c8
        clear c8
        by_cases c9 : x23_2 < (l0.length : Int)
        ·rw [if_pos c9] at H
         have c9b0 : decide (x23_2 < (l0.length : Int)) = true := decide_eq_true c9
         clear c9
         have HC10 := qa.mk H
         clear H
         have p341 : 0 ≤ (x23_2 : Int) := of_decide_eq_true zz12
         have q341 : x23_2 < (l0.length : Int) := of_decide_eq_true zz12
         obtain ⟨ad341, A341_4, c341_4, e341, hx341_0, hx341_1, hx341_2, hx341_3, hx341_4, hl341_4, hi341_4⟩ := at_T60 HR0.out x23_2 p341 q341
         cases e341
         replace hx341_0 := (HB.out.cell (qwc w _ hx341_0)).trans hx341_0
         replace hx341_1 := (HB.out.cell (qwc w _ hx341_1)).trans hx341_1
         replace hx341_2 := (HB.out.cell (qwc w _ hx341_2)).trans hx341_2
         replace hx341_3 := (HB.out.cell (qwc w _ hx341_3)).trans hx341_3
         replace hx341_4 := (HB.out.cell (qwc w _ hx341_4)).trans hx341_4
         have HR341_4 := qa.mk hi341_4
         have HC341_4 := qa.mk hl341_4
         clear hi341_4 hl341_4
         replace p341 := eq_true p341
         replace q341 := eq_true q341
         go_upto_region 7 with (first | ((with_reducible refine qeb (N := 4) rfl ?_); (try (refine qkc (by rfl) ?_; dsimp only)); refine qjb ?hg (N := 4) ?hd (cs := #[.bool false, .bool false, .string (⟨#[]⟩ : ByteArray), .string (⟨#[]⟩ : ByteArray), .slice none 0 0]) (t := 60) ?hr ?_; (case hd => rfl); (case hg => rfl); (case hr => exact zz6); intro gb342 hg w11 hbox hb; have n0_ := qa.mk (qp zz53 hb); have n1_ := qa.mk (hbox); have n2_ := qa.mk ((by rw [hg]; exact (qo zz53) : w.heap.size ≤ gb342)); have n3_ := qa.mk ((by rw [hg]; exact (qo zz53) : w.heap.size ≤ gb342)); clear HB; have HB := n0_; have BK342 := n1_; have GW342 := n2_; have GE342 := n3_; clear n0_ n1_ n2_ n3_; clear hb hbox hg; have hcz12_0 : w11.cell? ⟨gb342, 0, none⟩ = some (.bool false) := (qh BK342.out 0).trans rfl; have hcz12_1 : w11.cell? ⟨gb342, 1, none⟩ = some (.bool false) := (qh BK342.out 1).trans rfl; have hcz12_2 : w11.cell? ⟨gb342, 2, none⟩ = some (.string (⟨#[]⟩ : ByteArray)) := (qh BK342.out 2).trans rfl; have hcz12_3 : w11.cell? ⟨gb342, 3, none⟩ = some (.string (⟨#[]⟩ : ByteArray)) := (qh BK342.out 3).trans rfl; have hcz12_4 : w11.cell? ⟨gb342, 4, none⟩ = some (.slice none 0 0) := (qh BK342.out 4).trans rfl; have hfz12_0 := qf BK342.out 0; have hfz12_1 := qf BK342.out 1; have hfz12_2 := qf BK342.out 2; have hfz12_3 := qf BK342.out 3; have hfz12_4 := qf BK342.out 4))
         (try simp only [Act.put, List.setIfInBounds_toArray, List.set_cons_zero, List.set_cons_succ])
         go_cut [69] (fun v69 wc => ∃ (kq : Nat) (x69_9 : Bool), v69 = .bool x69_9 ∧ qa (qn.j2 kq l0 (l0.length : Int) x23_2 x69_9 ((qg l0 x23_2).f0) ((qg l0 x23_2).f1) ((qg l0 x23_2).f2) ((qg l0 x23_2).f3) ((qg l0 x23_2).f4) = some r) ∧ qa (kq ≤ k2) ∧ qa (wc.heap[gb342]? = some (.cells #[.bool ((qg l0 x23_2).f0), .bool ((qg l0 x23_2).f1), .string ((qg l0 x23_2).f2), .string ((qg l0 x23_2).f3), (.slice A341_4 ((qg l0 x23_2).f4).length c341_4)] 60 (0, 0))) ∧ qa (Below w.heap.size w wc))
         case first =>
          have H := HC10.out
          clear HC10
          by_cases c13 : ((qg l0 x23_2).f2).toList = ([] : List UInt8)
          ·rw [if_pos c13] at H
           have c13b0 : (((qg l0 x23_2).f2).toList == ([] : List UInt8)) = true := beq_iff_eq.mpr c13
           have c13b1 : (((qg l0 x23_2).f2).toList != ([] : List UInt8)) = false := bne_eq_false_iff_eq.mpr c13
           (try (have c13b2 : List.isEmpty (((qg l0 x23_2).f2).toList) = true := by simpa using c13))
           clear c13
           (first | rw [c13b0] | (simp only [i64_w, i32_w]; rw [c13b0]) | rw [c13b2] | skip)
           obtain ⟨bq14, hbq14⟩ : ∃ b_ : Bool, b_ = ((qg l0 x23_2).f1) := ⟨_, rfl⟩
           replace H : (if bq14 = true then (if ((qg l0 x23_2).f3).toList = ([] : List UInt8) then (qn.j2 k2 l0 (l0.length : Int) x23_2 true ((qg l0 x23_2).f0) bq14 ((qg l0 x23_2).f2) ((qg l0 x23_2).f3) ((qg l0 x23_2).f4)) else (if (((qg l0 x23_2).f3).size : Int) > 65536 then (qn.j2 k2 l0 (l0.length : Int) x23_2 true ((qg l0 x23_2).f0) bq14 ((qg l0 x23_2).f2) ((qg l0 x23_2).f3) ((qg l0 x23_2).f4)) else (qn.j2 k2 l0 (l0.length : Int) x23_2 (decide ((((qg l0 x23_2).f4).length : Int) > 8)) ((qg l0 x23_2).f0) bq14 ((qg l0 x23_2).f2) ((qg l0 x23_2).f3) ((qg l0 x23_2).f4)))) else (if ((qg l0 x23_2).f3).toList = ([] : List UInt8) then (if (((qg l0 x23_2).f3).size : Int) > 65536 then (qn.j2 k2 l0 (l0.length : Int) x23_2 true ((qg l0 x23_2).f0) bq14 ((qg l0 x23_2).f2) ((qg l0 x23_2).f3) ((qg l0 x23_2).f4)) else (qn.j2 k2 l0 (l0.length : Int) x23_2 (decide ((((qg l0 x23_2).f4).length : Int) > 8)) ((qg l0 x23_2).f0) bq14 ((qg l0 x23_2).f2) ((qg l0 x23_2).f3) ((qg l0 x23_2).f4))) else (qn.j2 k2 l0 (l0.length : Int) x23_2 true ((qg l0 x23_2).f0) bq14 ((qg l0 x23_2).f2) ((qg l0 x23_2).f3) ((qg l0 x23_2).f4)))) = some r := by rw [← hbq14] at H; exact H
           have Nbq14 := qa.mk hbq14
           clear hbq14
           (try rw [← Nbq14.out])
           by_cases c15 : bq14 = true
           ·subst c15
            have H1 : (if ((qg l0 x23_2).f3).toList = ([] : List UInt8) then (qn.j2 k2 l0 (l0.length : Int) x23_2 true ((qg l0 x23_2).f0) true ((qg l0 x23_2).f2) ((qg l0 x23_2).f3) ((qg l0 x23_2).f4)) else (if (((qg l0 x23_2).f3).size : Int) > 65536 then (qn.j2 k2 l0 (l0.length : Int) x23_2 true ((qg l0 x23_2).f0) true ((qg l0 x23_2).f2) ((qg l0 x23_2).f3) ((qg l0 x23_2).f4)) else (qn.j2 k2 l0 (l0.length : Int) x23_2 (decide ((((qg l0 x23_2).f4).length : Int) > 8)) ((qg l0 x23_2).f0) true ((qg l0 x23_2).f2) ((qg l0 x23_2).f3) ((qg l0 x23_2).f4)))) = some r := by rw [if_pos rfl] at H; exact H
            clear H
            have H := H1
            clear H1
            by_cases c16 : ((qg l0 x23_2).f3).toList = ([] : List UInt8)
            ·rw [if_pos c16] at H
             have c16b0 : (((qg l0 x23_2).f3).toList == ([] : List UInt8)) = true := beq_iff_eq.mpr c16
             have c16b1 : (((qg l0 x23_2).f3).toList != ([] : List UInt8)) = false := bne_eq_false_iff_eq.mpr c16
             (try (have c16b2 : List.isEmpty (((qg l0 x23_2).f3).toList) = true := by simpa using c16))
             clear c16
             have H' := qa.mk H
             clear H
             have hcz17_0 : w11.cell? ⟨gb342, 0, none⟩ = some (.bool false) := (qh BK342.out 0).trans rfl
             have hcz17_1 : w11.cell? ⟨gb342, 1, none⟩ = some (.bool false) := (qh BK342.out 1).trans rfl
             have hcz17_2 : w11.cell? ⟨gb342, 2, none⟩ = some (.string (⟨#[]⟩ : ByteArray)) := (qh BK342.out 2).trans rfl
             have hcz17_3 : w11.cell? ⟨gb342, 3, none⟩ = some (.string (⟨#[]⟩ : ByteArray)) := (qh BK342.out 3).trans rfl
             have hcz17_4 : w11.cell? ⟨gb342, 4, none⟩ = some (.slice none 0 0) := (qh BK342.out 4).trans rfl
             have hfz17_0 := qf BK342.out 0
             have hfz17_1 := qf BK342.out 1
             have hfz17_2 := qf BK342.out 2
             have hfz17_3 := qf BK342.out 3
             have hfz17_4 := qf BK342.out 4
             go_wp2
             go_meet
             case rel => (try rw [← Nbq14.out]); exact ⟨_, (true), zz7, H', ⟨zz37⟩, ⟨zz185⟩, ⟨zz88⟩⟩
            ·rw [if_neg c16] at H
             have c16b0 : (((qg l0 x23_2).f3).toList == ([] : List UInt8)) = false := beq_eq_false_iff_ne.mpr c16
             have c16b1 : (((qg l0 x23_2).f3).toList != ([] : List UInt8)) = true := bne_iff_ne.mpr c16
             (try (have c16b2 : List.isEmpty (((qg l0 x23_2).f3).toList) = false := by simpa using c16))
             by_cases c18 : (((qg l0 x23_2).f3).size : Int) > 65536
             ·rw [if_pos c18] at H
              have c18b0 : decide (65536 < (((qg l0 x23_2).f3).size : Int)) = true := decide_eq_true c18
              have c18b1 : decide (65536 < ((qg l0 x23_2).f3).size) = true := decide_eq_true (by omega)
              clear c18
              have H' := qa.mk H
              clear H
              have hcz19_0 : w11.cell? ⟨gb342, 0, none⟩ = some (.bool false) := (qh BK342.out 0).trans rfl
              have hcz19_1 : w11.cell? ⟨gb342, 1, none⟩ = some (.bool false) := (qh BK342.out 1).trans rfl
              have hcz19_2 : w11.cell? ⟨gb342, 2, none⟩ = some (.string (⟨#[]⟩ : ByteArray)) := (qh BK342.out 2).trans rfl
              have hcz19_3 : w11.cell? ⟨gb342, 3, none⟩ = some (.string (⟨#[]⟩ : ByteArray)) := (qh BK342.out 3).trans rfl
              have hcz19_4 : w11.cell? ⟨gb342, 4, none⟩ = some (.slice none 0 0) := (qh BK342.out 4).trans rfl
              have hfz19_0 := qf BK342.out 0
              have hfz19_1 := qf BK342.out 1
              have hfz19_2 := qf BK342.out 2
              have hfz19_3 := qf BK342.out 3
              have hfz19_4 := qf BK342.out 4
              go_wp2
              go_meet
              case rel => (try rw [← Nbq14.out]); exact ⟨_, (true), zz7, H', ⟨zz37⟩, ⟨zz185⟩, ⟨zz88⟩⟩
             ·rw [if_neg c18] at H
              have c18b0 : decide (65536 < (((qg l0 x23_2).f3).size : Int)) = false := decide_eq_false c18
              have c18b1 : decide (65536 < ((qg l0 x23_2).f3).size) = false := decide_eq_false (by omega)
              clear c18
              have H' := qa.mk H
              clear H
              have hcz20_0 : w11.cell? ⟨gb342, 0, none⟩ = some (.bool false) := (qh BK342.out 0).trans rfl
              have hcz20_1 : w11.cell? ⟨gb342, 1, none⟩ = some (.bool false) := (qh BK342.out 1).trans rfl
              have hcz20_2 : w11.cell? ⟨gb342, 2, none⟩ = some (.string (⟨#[]⟩ : ByteArray)) := (qh BK342.out 2).trans rfl
              have hcz20_3 : w11.cell? ⟨gb342, 3, none⟩ = some (.string (⟨#[]⟩ : ByteArray)) := (qh BK342.out 3).trans rfl
              have hcz20_4 : w11.cell? ⟨gb342, 4, none⟩ = some (.slice none 0 0) := (qh BK342.out 4).trans rfl
              have hfz20_0 := qf BK342.out 0
              have hfz20_1 := qf BK342.out 1
              have hfz20_2 := qf BK342.out 2
              have hfz20_3 := qf BK342.out 3
              have hfz20_4 := qf BK342.out 4
              go_wp2
              go_meet
              case rel => (try rw [← Nbq14.out]); exact ⟨_, (decide ((((qg l0 x23_2).f4).length : Int) > 8)), zz7, H', ⟨zz37⟩, ⟨zz185⟩, ⟨zz88⟩⟩
           ·replace c15 := Bool.eq_false_iff.mpr c15
            subst c15
            have H1 : (if ((qg l0 x23_2).f3).toList = ([] : List UInt8) then (if (((qg l0 x23_2).f3).size : Int) > 65536 then (qn.j2 k2 l0 (l0.length : Int) x23_2 true ((qg l0 x23_2).f0) false ((qg l0 x23_2).f2) ((qg l0 x23_2).f3) ((qg l0 x23_2).f4)) else (qn.j2 k2 l0 (l0.length : Int) x23_2 (decide ((((qg l0 x23_2).f4).length : Int) > 8)) ((qg l0 x23_2).f0) false ((qg l0 x23_2).f2) ((qg l0 x23_2).f3) ((qg l0 x23_2).f4))) else (qn.j2 k2 l0 (l0.length : Int) x23_2 true ((qg l0 x23_2).f0) false ((qg l0 x23_2).f2) ((qg l0 x23_2).f3) ((qg l0 x23_2).f4))) = some r := by rw [if_neg (show ¬ (false = true) by decide)] at H; exact H
            clear H
            have H := H1
            clear H1
            by_cases c21 : ((qg l0 x23_2).f3).toList = ([] : List UInt8)
            ·rw [if_pos c21] at H
             have c21b0 : (((qg l0 x23_2).f3).toList == ([] : List UInt8)) = true := beq_iff_eq.mpr c21
             have c21b1 : (((qg l0 x23_2).f3).toList != ([] : List UInt8)) = false := bne_eq_false_iff_eq.mpr c21
             (try (have c21b2 : List.isEmpty (((qg l0 x23_2).f3).toList) = true := by simpa using c21))
             clear c21
             by_cases c22 : (((qg l0 x23_2).f3).size : Int) > 65536
             ·rw [if_pos c22] at H
              have c22b0 : decide (65536 < (((qg l0 x23_2).f3).size : Int)) = true := decide_eq_true c22
              have c22b1 : decide (65536 < ((qg l0 x23_2).f3).size) = true := decide_eq_true (by omega)
              clear c22
              have H' := qa.mk H
              clear H
              have hcz23_0 : w11.cell? ⟨gb342, 0, none⟩ = some (.bool false) := (qh BK342.out 0).trans rfl
              have hcz23_1 : w11.cell? ⟨gb342, 1, none⟩ = some (.bool false) := (qh BK342.out 1).trans rfl
              have hcz23_2 : w11.cell? ⟨gb342, 2, none⟩ = some (.string (⟨#[]⟩ : ByteArray)) := (qh BK342.out 2).trans rfl
              have hcz23_3 : w11.cell? ⟨gb342, 3, none⟩ = some (.string (⟨#[]⟩ : ByteArray)) := (qh BK342.out 3).trans rfl
              have hcz23_4 : w11.cell? ⟨gb342, 4, none⟩ = some (.slice none 0 0) := (qh BK342.out 4).trans rfl
              have hfz23_0 := qf BK342.out 0
              have hfz23_1 := qf BK342.out 1
              have hfz23_2 := qf BK342.out 2
              have hfz23_3 := qf BK342.out 3
              have hfz23_4 := qf BK342.out 4
              go_wp2
              go_meet
              case rel => (try rw [← Nbq14.out]); exact ⟨_, (true), zz7, H', ⟨zz37⟩, ⟨zz186⟩, ⟨zz88⟩⟩
             ·rw [if_neg c22] at H
              have c22b0 : decide (65536 < (((qg l0 x23_2).f3).size : Int)) = false := decide_eq_false c22
              have c22b1 : decide (65536 < ((qg l0 x23_2).f3).size) = false := decide_eq_false (by omega)
              clear c22
              have H' := qa.mk H
              clear H
              have hcz24_0 : w11.cell? ⟨gb342, 0, none⟩ = some (.bool false) := (qh BK342.out 0).trans rfl
              have hcz24_1 : w11.cell? ⟨gb342, 1, none⟩ = some (.bool false) := (qh BK342.out 1).trans rfl
              have hcz24_2 : w11.cell? ⟨gb342, 2, none⟩ = some (.string (⟨#[]⟩ : ByteArray)) := (qh BK342.out 2).trans rfl
              have hcz24_3 : w11.cell? ⟨gb342, 3, none⟩ = some (.string (⟨#[]⟩ : ByteArray)) := (qh BK342.out 3).trans rfl
              have hcz24_4 : w11.cell? ⟨gb342, 4, none⟩ = some (.slice none 0 0) := (qh BK342.out 4).trans rfl
              have hfz24_0 := qf BK342.out 0
              have hfz24_1 := qf BK342.out 1
              have hfz24_2 := qf BK342.out 2
              have hfz24_3 := qf BK342.out 3
              have hfz24_4 := qf BK342.out 4
              go_wp2
              go_meet
              case rel => (try rw [← Nbq14.out]); exact ⟨_, (decide ((((qg l0 x23_2).f4).length : Int) > 8)), zz7, H', ⟨zz37⟩, ⟨zz186⟩, ⟨zz88⟩⟩
            ·rw [if_neg c21] at H
             have c21b0 : (((qg l0 x23_2).f3).toList == ([] : List UInt8)) = false := beq_eq_false_iff_ne.mpr c21
             have c21b1 : (((qg l0 x23_2).f3).toList != ([] : List UInt8)) = true := bne_iff_ne.mpr c21
             (try (have c21b2 : List.isEmpty (((qg l0 x23_2).f3).toList) = false := by simpa using c21))
             have H' := qa.mk H
             clear H
             have hcz25_0 : w11.cell? ⟨gb342, 0, none⟩ = some (.bool false) := (qh BK342.out 0).trans rfl
             have hcz25_1 : w11.cell? ⟨gb342, 1, none⟩ = some (.bool false) := (qh BK342.out 1).trans rfl
             have hcz25_2 : w11.cell? ⟨gb342, 2, none⟩ = some (.string (⟨#[]⟩ : ByteArray)) := (qh BK342.out 2).trans rfl
             have hcz25_3 : w11.cell? ⟨gb342, 3, none⟩ = some (.string (⟨#[]⟩ : ByteArray)) := (qh BK342.out 3).trans rfl
             have hcz25_4 : w11.cell? ⟨gb342, 4, none⟩ = some (.slice none 0 0) := (qh BK342.out 4).trans rfl
             have hfz25_0 := qf BK342.out 0
             have hfz25_1 := qf BK342.out 1
             have hfz25_2 := qf BK342.out 2
             have hfz25_3 := qf BK342.out 3
             have hfz25_4 := qf BK342.out 4
             go_wp2
             go_meet
             case rel => (try rw [← Nbq14.out]); exact ⟨_, (true), zz7, H', ⟨zz37⟩, ⟨zz186⟩, ⟨zz88⟩⟩
          ·rw [if_neg c13] at H
           have c13b0 : (((qg l0 x23_2).f2).toList == ([] : List UInt8)) = false := beq_eq_false_iff_ne.mpr c13
           have c13b1 : (((qg l0 x23_2).f2).toList != ([] : List UInt8)) = true := bne_iff_ne.mpr c13
           (try (have c13b2 : List.isEmpty (((qg l0 x23_2).f2).toList) = false := by simpa using c13))
           (first | rw [c13b0] | (simp only [i64_w, i32_w]; rw [c13b0]) | rw [c13b2] | skip)
           replace H := Option.bind_eq_some_iff.mp H
           obtain ⟨t343, A260, H⟩ := H
           replace H : (if t343 = true then (if (qg l0 x23_2).f1 = true then (if ((qg l0 x23_2).f3).toList = ([] : List UInt8) then (qn.j2 k2 l0 (l0.length : Int) x23_2 true ((qg l0 x23_2).f0) ((qg l0 x23_2).f1) ((qg l0 x23_2).f2) ((qg l0 x23_2).f3) ((qg l0 x23_2).f4)) else (if (((qg l0 x23_2).f3).size : Int) > 65536 then (qn.j2 k2 l0 (l0.length : Int) x23_2 true ((qg l0 x23_2).f0) ((qg l0 x23_2).f1) ((qg l0 x23_2).f2) ((qg l0 x23_2).f3) ((qg l0 x23_2).f4)) else (qn.j2 k2 l0 (l0.length : Int) x23_2 (decide ((((qg l0 x23_2).f4).length : Int) > 8)) ((qg l0 x23_2).f0) ((qg l0 x23_2).f1) ((qg l0 x23_2).f2) ((qg l0 x23_2).f3) ((qg l0 x23_2).f4)))) else (if ((qg l0 x23_2).f3).toList = ([] : List UInt8) then (if (((qg l0 x23_2).f3).size : Int) > 65536 then (qn.j2 k2 l0 (l0.length : Int) x23_2 true ((qg l0 x23_2).f0) ((qg l0 x23_2).f1) ((qg l0 x23_2).f2) ((qg l0 x23_2).f3) ((qg l0 x23_2).f4)) else (qn.j2 k2 l0 (l0.length : Int) x23_2 (decide ((((qg l0 x23_2).f4).length : Int) > 8)) ((qg l0 x23_2).f0) ((qg l0 x23_2).f1) ((qg l0 x23_2).f2) ((qg l0 x23_2).f3) ((qg l0 x23_2).f4))) else (qn.j2 k2 l0 (l0.length : Int) x23_2 true ((qg l0 x23_2).f0) ((qg l0 x23_2).f1) ((qg l0 x23_2).f2) ((qg l0 x23_2).f3) ((qg l0 x23_2).f4)))) else (qn.j2 k2 l0 (l0.length : Int) x23_2 true ((qg l0 x23_2).f0) ((qg l0 x23_2).f1) ((qg l0 x23_2).f2) ((qg l0 x23_2).f3) ((qg l0 x23_2).f4))) = some r := H
           have A26 := qa.mk A260
           clear A260
           by_cases c27 : t343 = true
           ·subst c27
            have H1 : (if (qg l0 x23_2).f1 = true then (if ((qg l0 x23_2).f3).toList = ([] : List UInt8) then (qn.j2 k2 l0 (l0.length : Int) x23_2 true ((qg l0 x23_2).f0) ((qg l0 x23_2).f1) ((qg l0 x23_2).f2) ((qg l0 x23_2).f3) ((qg l0 x23_2).f4)) else (if (((qg l0 x23_2).f3).size : Int) > 65536 then (qn.j2 k2 l0 (l0.length : Int) x23_2 true ((qg l0 x23_2).f0) ((qg l0 x23_2).f1) ((qg l0 x23_2).f2) ((qg l0 x23_2).f3) ((qg l0 x23_2).f4)) else (qn.j2 k2 l0 (l0.length : Int) x23_2 (decide ((((qg l0 x23_2).f4).length : Int) > 8)) ((qg l0 x23_2).f0) ((qg l0 x23_2).f1) ((qg l0 x23_2).f2) ((qg l0 x23_2).f3) ((qg l0 x23_2).f4)))) else (if ((qg l0 x23_2).f3).toList = ([] : List UInt8) then (if (((qg l0 x23_2).f3).size : Int) > 65536 then (qn.j2 k2 l0 (l0.length : Int) x23_2 true ((qg l0 x23_2).f0) ((qg l0 x23_2).f1) ((qg l0 x23_2).f2) ((qg l0 x23_2).f3) ((qg l0 x23_2).f4)) else (qn.j2 k2 l0 (l0.length : Int) x23_2 (decide ((((qg l0 x23_2).f4).length : Int) > 8)) ((qg l0 x23_2).f0) ((qg l0 x23_2).f1) ((qg l0 x23_2).f2) ((qg l0 x23_2).f3) ((qg l0 x23_2).f4))) else (qn.j2 k2 l0 (l0.length : Int) x23_2 true ((qg l0 x23_2).f0) ((qg l0 x23_2).f1) ((qg l0 x23_2).f2) ((qg l0 x23_2).f3) ((qg l0 x23_2).f4)))) = some r := by rw [if_pos rfl] at H; exact H
            clear H
            have H := H1
            clear H1
            obtain ⟨bq28, hbq28⟩ : ∃ b_ : Bool, b_ = ((qg l0 x23_2).f1) := ⟨_, rfl⟩
            replace H : (if bq28 = true then (if ((qg l0 x23_2).f3).toList = ([] : List UInt8) then (qn.j2 k2 l0 (l0.length : Int) x23_2 true ((qg l0 x23_2).f0) bq28 ((qg l0 x23_2).f2) ((qg l0 x23_2).f3) ((qg l0 x23_2).f4)) else (if (((qg l0 x23_2).f3).size : Int) > 65536 then (qn.j2 k2 l0 (l0.length : Int) x23_2 true ((qg l0 x23_2).f0) bq28 ((qg l0 x23_2).f2) ((qg l0 x23_2).f3) ((qg l0 x23_2).f4)) else (qn.j2 k2 l0 (l0.length : Int) x23_2 (decide ((((qg l0 x23_2).f4).length : Int) > 8)) ((qg l0 x23_2).f0) bq28 ((qg l0 x23_2).f2) ((qg l0 x23_2).f3) ((qg l0 x23_2).f4)))) else (if ((qg l0 x23_2).f3).toList = ([] : List UInt8) then (if (((qg l0 x23_2).f3).size : Int) > 65536 then (qn.j2 k2 l0 (l0.length : Int) x23_2 true ((qg l0 x23_2).f0) bq28 ((qg l0 x23_2).f2) ((qg l0 x23_2).f3) ((qg l0 x23_2).f4)) else (qn.j2 k2 l0 (l0.length : Int) x23_2 (decide ((((qg l0 x23_2).f4).length : Int) > 8)) ((qg l0 x23_2).f0) bq28 ((qg l0 x23_2).f2) ((qg l0 x23_2).f3) ((qg l0 x23_2).f4))) else (qn.j2 k2 l0 (l0.length : Int) x23_2 true ((qg l0 x23_2).f0) bq28 ((qg l0 x23_2).f2) ((qg l0 x23_2).f3) ((qg l0 x23_2).f4)))) = some r := by rw [← hbq28] at H; exact H
            have Nbq28 := qa.mk hbq28
            clear hbq28
            (try rw [← Nbq28.out])
            by_cases c29 : bq28 = true
            ·subst c29
             have H1 : (if ((qg l0 x23_2).f3).toList = ([] : List UInt8) then (qn.j2 k2 l0 (l0.length : Int) x23_2 true ((qg l0 x23_2).f0) true ((qg l0 x23_2).f2) ((qg l0 x23_2).f3) ((qg l0 x23_2).f4)) else (if (((qg l0 x23_2).f3).size : Int) > 65536 then (qn.j2 k2 l0 (l0.length : Int) x23_2 true ((qg l0 x23_2).f0) true ((qg l0 x23_2).f2) ((qg l0 x23_2).f3) ((qg l0 x23_2).f4)) else (qn.j2 k2 l0 (l0.length : Int) x23_2 (decide ((((qg l0 x23_2).f4).length : Int) > 8)) ((qg l0 x23_2).f0) true ((qg l0 x23_2).f2) ((qg l0 x23_2).f3) ((qg l0 x23_2).f4)))) = some r := by rw [if_pos rfl] at H; exact H
             clear H
             have H := H1
             clear H1
             by_cases c30 : ((qg l0 x23_2).f3).toList = ([] : List UInt8)
             ·rw [if_pos c30] at H
              have c30b0 : (((qg l0 x23_2).f3).toList == ([] : List UInt8)) = true := beq_iff_eq.mpr c30
              have c30b1 : (((qg l0 x23_2).f3).toList != ([] : List UInt8)) = false := bne_eq_false_iff_eq.mpr c30
              (try (have c30b2 : List.isEmpty (((qg l0 x23_2).f3).toList) = true := by simpa using c30))
              clear c30
              have H' := qa.mk H
              clear H
              have hcz31_0 : w11.cell? ⟨gb342, 0, none⟩ = some (.bool false) := (qh BK342.out 0).trans rfl
              have hcz31_1 : w11.cell? ⟨gb342, 1, none⟩ = some (.bool false) := (qh BK342.out 1).trans rfl
              have hcz31_2 : w11.cell? ⟨gb342, 2, none⟩ = some (.string (⟨#[]⟩ : ByteArray)) := (qh BK342.out 2).trans rfl
              have hcz31_3 : w11.cell? ⟨gb342, 3, none⟩ = some (.string (⟨#[]⟩ : ByteArray)) := (qh BK342.out 3).trans rfl
              have hcz31_4 : w11.cell? ⟨gb342, 4, none⟩ = some (.slice none 0 0) := (qh BK342.out 4).trans rfl
              have hfz31_0 := qf BK342.out 0
              have hfz31_1 := qf BK342.out 1
              have hfz31_2 := qf BK342.out 2
              have hfz31_3 := qf BK342.out 3
              have hfz31_4 := qf BK342.out 4
              go_wp2_with (first | (go_at_call 20; (with_reducible refine (qab.calls k2 ((qg l0 x23_2).f2) false true _ A26.out).mono ?_); rintro e w' ⟨rfl, ⟨nd, rfl⟩⟩))
              go_meet
              case rel => (try rw [← Nbq28.out]); exact ⟨_, (true), zz7, H', ⟨zz37⟩, ⟨zz185⟩, ⟨zz88⟩⟩
             ·rw [if_neg c30] at H
              have c30b0 : (((qg l0 x23_2).f3).toList == ([] : List UInt8)) = false := beq_eq_false_iff_ne.mpr c30
              have c30b1 : (((qg l0 x23_2).f3).toList != ([] : List UInt8)) = true := bne_iff_ne.mpr c30
              (try (have c30b2 : List.isEmpty (((qg l0 x23_2).f3).toList) = false := by simpa using c30))
              by_cases c32 : (((qg l0 x23_2).f3).size : Int) > 65536
              ·rw [if_pos c32] at H
               have c32b0 : decide (65536 < (((qg l0 x23_2).f3).size : Int)) = true := decide_eq_true c32
               have c32b1 : decide (65536 < ((qg l0 x23_2).f3).size) = true := decide_eq_true (by omega)
               clear c32
               have H' := qa.mk H
               clear H
               have hcz33_0 : w11.cell? ⟨gb342, 0, none⟩ = some (.bool false) := (qh BK342.out 0).trans rfl
               have hcz33_1 : w11.cell? ⟨gb342, 1, none⟩ = some (.bool false) := (qh BK342.out 1).trans rfl
               have hcz33_2 : w11.cell? ⟨gb342, 2, none⟩ = some (.string (⟨#[]⟩ : ByteArray)) := (qh BK342.out 2).trans rfl
               have hcz33_3 : w11.cell? ⟨gb342, 3, none⟩ = some (.string (⟨#[]⟩ : ByteArray)) := (qh BK342.out 3).trans rfl
               have hcz33_4 : w11.cell? ⟨gb342, 4, none⟩ = some (.slice none 0 0) := (qh BK342.out 4).trans rfl
               have hfz33_0 := qf BK342.out 0
               have hfz33_1 := qf BK342.out 1
               have hfz33_2 := qf BK342.out 2
               have hfz33_3 := qf BK342.out 3
               have hfz33_4 := qf BK342.out 4
               go_wp2_with (first | (go_at_call 20; (with_reducible refine (qab.calls k2 ((qg l0 x23_2).f2) false true _ A26.out).mono ?_); rintro e w' ⟨rfl, ⟨nd, rfl⟩⟩))
               go_meet
               case rel => (try rw [← Nbq28.out]); exact ⟨_, (true), zz7, H', ⟨zz37⟩, ⟨zz185⟩, ⟨zz88⟩⟩
              ·rw [if_neg c32] at H
               have c32b0 : decide (65536 < (((qg l0 x23_2).f3).size : Int)) = false := decide_eq_false c32
               have c32b1 : decide (65536 < ((qg l0 x23_2).f3).size) = false := decide_eq_false (by omega)
               clear c32
               have H' := qa.mk H
               clear H
               have hcz34_0 : w11.cell? ⟨gb342, 0, none⟩ = some (.bool false) := (qh BK342.out 0).trans rfl
               have hcz34_1 : w11.cell? ⟨gb342, 1, none⟩ = some (.bool false) := (qh BK342.out 1).trans rfl
               have hcz34_2 : w11.cell? ⟨gb342, 2, none⟩ = some (.string (⟨#[]⟩ : ByteArray)) := (qh BK342.out 2).trans rfl
               have hcz34_3 : w11.cell? ⟨gb342, 3, none⟩ = some (.string (⟨#[]⟩ : ByteArray)) := (qh BK342.out 3).trans rfl
               have hcz34_4 : w11.cell? ⟨gb342, 4, none⟩ = some (.slice none 0 0) := (qh BK342.out 4).trans rfl
               have hfz34_0 := qf BK342.out 0
               have hfz34_1 := qf BK342.out 1
               have hfz34_2 := qf BK342.out 2
               have hfz34_3 := qf BK342.out 3
               have hfz34_4 := qf BK342.out 4
               go_wp2_with (first | (go_at_call 20; (with_reducible refine (qab.calls k2 ((qg l0 x23_2).f2) false true _ A26.out).mono ?_); rintro e w' ⟨rfl, ⟨nd, rfl⟩⟩))
               go_meet
               case rel => (try rw [← Nbq28.out]); exact ⟨_, (decide ((((qg l0 x23_2).f4).length : Int) > 8)), zz7, H', ⟨zz37⟩, ⟨zz185⟩, ⟨zz88⟩⟩
            ·replace c29 := Bool.eq_false_iff.mpr c29
             subst c29
             have H1 : (if ((qg l0 x23_2).f3).toList = ([] : List UInt8) then (if (((qg l0 x23_2).f3).size : Int) > 65536 then (qn.j2 k2 l0 (l0.length : Int) x23_2 true ((qg l0 x23_2).f0) false ((qg l0 x23_2).f2) ((qg l0 x23_2).f3) ((qg l0 x23_2).f4)) else (qn.j2 k2 l0 (l0.length : Int) x23_2 (decide ((((qg l0 x23_2).f4).length : Int) > 8)) ((qg l0 x23_2).f0) false ((qg l0 x23_2).f2) ((qg l0 x23_2).f3) ((qg l0 x23_2).f4))) else (qn.j2 k2 l0 (l0.length : Int) x23_2 true ((qg l0 x23_2).f0) false ((qg l0 x23_2).f2) ((qg l0 x23_2).f3) ((qg l0 x23_2).f4))) = some r := by rw [if_neg (show ¬ (false = true) by decide)] at H; exact H
             clear H
             have H := H1
             clear H1
             by_cases c35 : ((qg l0 x23_2).f3).toList = ([] : List UInt8)
             ·rw [if_pos c35] at H
              have c35b0 : (((qg l0 x23_2).f3).toList == ([] : List UInt8)) = true := beq_iff_eq.mpr c35
              have c35b1 : (((qg l0 x23_2).f3).toList != ([] : List UInt8)) = false := bne_eq_false_iff_eq.mpr c35
              (try (have c35b2 : List.isEmpty (((qg l0 x23_2).f3).toList) = true := by simpa using c35))
              clear c35
              by_cases c36 : (((qg l0 x23_2).f3).size : Int) > 65536
              ·rw [if_pos c36] at H
               have c36b0 : decide (65536 < (((qg l0 x23_2).f3).size : Int)) = true := decide_eq_true c36
               have c36b1 : decide (65536 < ((qg l0 x23_2).f3).size) = true := decide_eq_true (by omega)
               clear c36
               have H' := qa.mk H
               clear H
               have hcz37_0 : w11.cell? ⟨gb342, 0, none⟩ = some (.bool false) := (qh BK342.out 0).trans rfl
               have hcz37_1 : w11.cell? ⟨gb342, 1, none⟩ = some (.bool false) := (qh BK342.out 1).trans rfl
               have hcz37_2 : w11.cell? ⟨gb342, 2, none⟩ = some (.string (⟨#[]⟩ : ByteArray)) := (qh BK342.out 2).trans rfl
               have hcz37_3 : w11.cell? ⟨gb342, 3, none⟩ = some (.string (⟨#[]⟩ : ByteArray)) := (qh BK342.out 3).trans rfl
               have hcz37_4 : w11.cell? ⟨gb342, 4, none⟩ = some (.slice none 0 0) := (qh BK342.out 4).trans rfl
               have hfz37_0 := qf BK342.out 0
               have hfz37_1 := qf BK342.out 1
               have hfz37_2 := qf BK342.out 2
               have hfz37_3 := qf BK342.out 3
               have hfz37_4 := qf BK342.out 4
               go_wp2_with (first | (go_at_call 20; (with_reducible refine (qab.calls k2 ((qg l0 x23_2).f2) false true _ A26.out).mono ?_); rintro e w' ⟨rfl, ⟨nd, rfl⟩⟩))
               go_meet
               case rel => (try rw [← Nbq28.out]); exact ⟨_, (true), zz7, H', ⟨zz37⟩, ⟨zz186⟩, ⟨zz88⟩⟩
              ·rw [if_neg c36] at H
               have c36b0 : decide (65536 < (((qg l0 x23_2).f3).size : Int)) = false := decide_eq_false c36
               have c36b1 : decide (65536 < ((qg l0 x23_2).f3).size) = false := decide_eq_false (by omega)
               clear c36
               have H' := qa.mk H
               clear H
               have hcz38_0 : w11.cell? ⟨gb342, 0, none⟩ = some (.bool false) := (qh BK342.out 0).trans rfl
               have hcz38_1 : w11.cell? ⟨gb342, 1, none⟩ = some (.bool false) := (qh BK342.out 1).trans rfl
               have hcz38_2 : w11.cell? ⟨gb342, 2, none⟩ = some (.string (⟨#[]⟩ : ByteArray)) := (qh BK342.out 2).trans rfl
               have hcz38_3 : w11.cell? ⟨gb342, 3, none⟩ = some (.string (⟨#[]⟩ : ByteArray)) := (qh BK342.out 3).trans rfl
               have hcz38_4 : w11.cell? ⟨gb342, 4, none⟩ = some (.slice none 0 0) := (qh BK342.out 4).trans rfl
               have hfz38_0 := qf BK342.out 0
               have hfz38_1 := qf BK342.out 1
               have hfz38_2 := qf BK342.out 2
               have hfz38_3 := qf BK342.out 3
               have hfz38_4 := qf BK342.out 4
               go_wp2_with (first | (go_at_call 20; (with_reducible refine (qab.calls k2 ((qg l0 x23_2).f2) false true _ A26.out).mono ?_); rintro e w' ⟨rfl, ⟨nd, rfl⟩⟩))
               go_meet
               case rel => (try rw [← Nbq28.out]); exact ⟨_, (decide ((((qg l0 x23_2).f4).length : Int) > 8)), zz7, H', ⟨zz37⟩, ⟨zz186⟩, ⟨zz88⟩⟩
             ·rw [if_neg c35] at H
              have c35b0 : (((qg l0 x23_2).f3).toList == ([] : List UInt8)) = false := beq_eq_false_iff_ne.mpr c35
              have c35b1 : (((qg l0 x23_2).f3).toList != ([] : List UInt8)) = true := bne_iff_ne.mpr c35
              (try (have c35b2 : List.isEmpty (((qg l0 x23_2).f3).toList) = false := by simpa using c35))
              have H' := qa.mk H
              clear H
              have hcz39_0 : w11.cell? ⟨gb342, 0, none⟩ = some (.bool false) := (qh BK342.out 0).trans rfl
              have hcz39_1 : w11.cell? ⟨gb342, 1, none⟩ = some (.bool false) := (qh BK342.out 1).trans rfl
              have hcz39_2 : w11.cell? ⟨gb342, 2, none⟩ = some (.string (⟨#[]⟩ : ByteArray)) := (qh BK342.out 2).trans rfl
              have hcz39_3 : w11.cell? ⟨gb342, 3, none⟩ = some (.string (⟨#[]⟩ : ByteArray)) := (qh BK342.out 3).trans rfl
              have hcz39_4 : w11.cell? ⟨gb342, 4, none⟩ = some (.slice none 0 0) := (qh BK342.out 4).trans rfl
              have hfz39_0 := qf BK342.out 0
              have hfz39_1 := qf BK342.out 1
              have hfz39_2 := qf BK342.out 2
              have hfz39_3 := qf BK342.out 3
              have hfz39_4 := qf BK342.out 4
              go_wp2_with (first | (go_at_call 20; (with_reducible refine (qab.calls k2 ((qg l0 x23_2).f2) false true _ A26.out).mono ?_); rintro e w' ⟨rfl, ⟨nd, rfl⟩⟩))
              go_meet
              case rel => (try rw [← Nbq28.out]); exact ⟨_, (true), zz7, H', ⟨zz37⟩, ⟨zz186⟩, ⟨zz88⟩⟩
           ·replace c27 := Bool.eq_false_iff.mpr c27
            subst c27
            have H1 : (qn.j2 k2 l0 (l0.length : Int) x23_2 true ((qg l0 x23_2).f0) ((qg l0 x23_2).f1) ((qg l0 x23_2).f2) ((qg l0 x23_2).f3) ((qg l0 x23_2).f4)) = some r := by rw [if_neg (show ¬ (false = true) by decide)] at H; exact H
            clear H
            have H := H1
            clear H1
            have H' := qa.mk H
            clear H
            have hcz40_0 : w11.cell? ⟨gb342, 0, none⟩ = some (.bool false) := (qh BK342.out 0).trans rfl
            have hcz40_1 : w11.cell? ⟨gb342, 1, none⟩ = some (.bool false) := (qh BK342.out 1).trans rfl
            have hcz40_2 : w11.cell? ⟨gb342, 2, none⟩ = some (.string (⟨#[]⟩ : ByteArray)) := (qh BK342.out 2).trans rfl
            have hcz40_3 : w11.cell? ⟨gb342, 3, none⟩ = some (.string (⟨#[]⟩ : ByteArray)) := (qh BK342.out 3).trans rfl
            have hcz40_4 : w11.cell? ⟨gb342, 4, none⟩ = some (.slice none 0 0) := (qh BK342.out 4).trans rfl
            have hfz40_0 := qf BK342.out 0
            have hfz40_1 := qf BK342.out 1
            have hfz40_2 := qf BK342.out 2
            have hfz40_3 := qf BK342.out 3
            have hfz40_4 := qf BK342.out 4
            go_wp2_with (first | (go_at_call 20; (with_reducible refine (qab.calls k2 ((qg l0 x23_2).f2) false false _ A26.out).mono ?_); rintro e w' ⟨rfl, ⟨nd, rfl⟩⟩))
            go_meet
            case rel => exact ⟨_, (true), zz7, H', ⟨zz37⟩, ⟨by (with_reducible repeat (first | refine qk ?_ _ | refine ql ?_ | refine qj ?_ _)); refine qq (cs := #[.bool ((qg l0 x23_2).f0), .bool ((qg l0 x23_2).f1), .string ((qg l0 x23_2).f2), .string ((qg l0 x23_2).f3), .slice none 0 0]) ?_ 4 _ rfl; (with_reducible repeat (first | refine qk ?_ _ | refine ql ?_ | refine qj ?_ _)); refine qq (cs := #[.bool ((qg l0 x23_2).f0), .bool ((qg l0 x23_2).f1), .string ((qg l0 x23_2).f2), .string (⟨#[]⟩ : ByteArray), .slice none 0 0]) ?_ 3 _ rfl; (with_reducible repeat (first | refine qk ?_ _ | refine ql ?_ | refine qj ?_ _)); refine qq (cs := #[.bool ((qg l0 x23_2).f0), .bool ((qg l0 x23_2).f1), .string (⟨#[]⟩ : ByteArray), .string (⟨#[]⟩ : ByteArray), .slice none 0 0]) ?_ 2 _ rfl; (with_reducible repeat (first | refine qk ?_ _ | refine ql ?_ | refine qj ?_ _)); refine qq (cs := #[.bool ((qg l0 x23_2).f0), .bool false, .string (⟨#[]⟩ : ByteArray), .string (⟨#[]⟩ : ByteArray), .slice none 0 0]) ?_ 1 _ rfl; (with_reducible repeat (first | refine qk ?_ _ | refine ql ?_ | refine qj ?_ _)); refine qq (cs := #[.bool false, .bool false, .string (⟨#[]⟩ : ByteArray), .string (⟨#[]⟩ : ByteArray), .slice none 0 0]) ?_ 0 _ rfl; (with_reducible repeat (first | refine qk ?_ _ | refine ql ?_ | refine qj ?_ _)); exact BK342.out⟩, ⟨zz88⟩⟩
         case rest =>
          clear HC10
          try clear c1
          try clear q1
          try clear c2
          try clear p2
          try clear q2
          try clear c3
          try clear c3b0
          try clear c3b1
          try clear c3b2
          try clear p3
          try clear q3
          try clear hx3
          try clear qi3
          try clear c4
          try clear c4b0
          try clear c4b1
          try clear c5
          try clear c5b0
          try clear c5b1
          try clear c6
          try clear c7
          try clear c7b0
          try clear c8
          try clear c8b0
          try clear c9
          try clear c9b0
          try clear c13
          try clear c13b0
          try clear c13b1
          try clear c13b2
          try clear q14
          try clear c15
          try clear c16
          try clear c16b0
          try clear c16b1
          try clear c16b2
          try clear c18
          try clear c18b0
          try clear c18b1
          try clear c21
          try clear c21b0
          try clear c21b1
          try clear c21b2
          try clear c22
          try clear c22b0
          try clear c22b1
          try clear c27
          try clear q28
          try clear c29
          try clear c30
          try clear c30b0
          try clear c30b1
          try clear c30b2
          try clear c32
          try clear c32b0
          try clear c32b1
          try clear c34
          try clear p34
          try clear q34
          try clear hx34
          try clear qi34
          try clear c35
          try clear c35b0
          try clear c35b1
          try clear c35b2
          try clear c36
          try clear c36b0
          try clear c36b1
          try clear hcz12_0
          try clear hcz12_1
          try clear hcz12_2
          try clear hcz12_3
          try clear hcz12_4
          try clear hcz17_0
          try clear hcz17_1
          try clear hcz17_2
          try clear hcz17_3
          try clear hcz17_4
          try clear hcz19_0
          try clear hcz19_1
          try clear hcz19_2
          try clear hcz19_3
          try clear hcz19_4
          try clear hcz20_0
          try clear hcz20_1
          try clear hcz20_2
          try clear hcz20_3
          try clear hcz20_4
          try clear hcz23_0
          try clear hcz23_1
          try clear hcz23_2
          try clear hcz23_3
          try clear hcz23_4
          try clear hcz24_0
          try clear hcz24_1
          try clear hcz24_2
          try clear hcz24_3
          try clear hcz24_4
          try clear hcz25_0
          try clear hcz25_1
          try clear hcz25_2
          try clear hcz25_3
          try clear hcz25_4
          try clear hcz31_0
          try clear hcz31_1
          try clear hcz31_2
          try clear hcz31_3
          try clear hcz31_4
          try clear hcz33_0
          try clear hcz33_1
          try clear hcz33_2
          try clear hcz33_3
          try clear hcz33_4
          try clear hcz34_0
          try clear hcz34_1
          try clear hcz34_2
          try clear hcz34_3
          try clear hcz34_4
          try clear hcz37_0
          try clear hcz37_1
          try clear hcz37_2
          try clear hcz37_3
          try clear hcz37_4
          try clear hcz38_0
          try clear hcz38_1
          try clear hcz38_2
          try clear hcz38_3
          try clear hcz38_4
          try clear hcz39_0
          try clear hcz39_1
          try clear hcz39_2
          try clear hcz39_3
          try clear hcz39_4
          try clear hcz40_0
          try clear hcz40_1
          try clear hcz40_2
          try clear hcz40_3
          try clear hcz40_4
          try clear hfz12_0
          try clear hfz12_1
          try clear hfz12_2
          try clear hfz12_3
          try clear hfz12_4
          try clear hfz17_0
          try clear hfz17_1
          try clear hfz17_2
          try clear hfz17_3
          try clear hfz17_4
          try clear hfz19_0
          try clear hfz19_1
          try clear hfz19_2
          try clear hfz19_3
          try clear hfz19_4
          try clear hfz20_0
          try clear hfz20_1
          try clear hfz20_2
          try clear hfz20_3
          try clear hfz20_4
          try clear hfz23_0
          try clear hfz23_1
          try clear hfz23_2
          try clear hfz23_3
          try clear hfz23_4
          try clear hfz24_0
          try clear hfz24_1
          try clear hfz24_2
          try clear hfz24_3
          try clear hfz24_4
          try clear hfz25_0
          try clear hfz25_1
          try clear hfz25_2
          try clear hfz25_3
          try clear hfz25_4
          try clear hfz31_0
          try clear hfz31_1
          try clear hfz31_2
          try clear hfz31_3
          try clear hfz31_4
          try clear hfz33_0
          try clear hfz33_1
          try clear hfz33_2
          try clear hfz33_3
          try clear hfz33_4
          try clear hfz34_0
          try clear hfz34_1
          try clear hfz34_2
          try clear hfz34_3
          try clear hfz34_4
          try clear hfz37_0
          try clear hfz37_1
          try clear hfz37_2
          try clear hfz37_3
          try clear hfz37_4
          try clear hfz38_0
          try clear hfz38_1
          try clear hfz38_2
          try clear hfz38_3
          try clear hfz38_4
          try clear hfz39_0
          try clear hfz39_1
          try clear hfz39_2
          try clear hfz39_3
          try clear hfz39_4
          try clear hfz40_0
          try clear hfz40_1
          try clear hfz40_2
          try clear hfz40_3
          try clear hfz40_4
          try clear hx340_0
          try clear hx340_1
          try clear hx340_2
          try clear hx340_3
          try clear hx340_4
          try clear hx341_0
          try clear hx341_1
          try clear hx341_2
          try clear hx341_3
          try clear hx341_4
          try clear p2
          try clear p3
          try clear p340
          try clear p341
          try clear q3
          try clear q340
          try clear q341
          obtain ⟨kq, x69_9, rfl, HA, HJ9, BK342, HB⟩ := hcut
          cases kq with
          | zero => exact absurd HA.out (by simp [qn.j2])
          | succ kj9 =>
           have H := HA.out
           clear HA
           simp only [qn.j2] at H
           by_cases c41 : x69_9 = true
           ·subst c41
            have H1 : (some false) = some r := by rw [if_pos rfl] at H; exact H
            clear H
            have H := H1
            clear H1
            obtain rfl := Option.some.inj H
            go_wp2
            go_ret
            exact ⟨zz103, zz88⟩
           ·replace c41 := Bool.eq_false_iff.mpr c41
            subst c41
            have H1 : (qn.l1 kj9 l0 (l0.length : Int) x23_2 (((qg l0 x23_2).f4).length : Int) 0 ((qg l0 x23_2).f0) ((qg l0 x23_2).f1) ((qg l0 x23_2).f2) ((qg l0 x23_2).f3) ((qg l0 x23_2).f4)) = some r := by rw [if_neg (show ¬ (false = true) by decide)] at H; exact H
            clear H
            have H := H1
            clear H1
            have H' := qa.mk H
            clear H
            have hcz42_0 : wc.cell? ⟨gb342, 0, none⟩ = some (.bool ((qg l0 x23_2).f0)) := (qh BK342.out 0).trans rfl
            have hcz42_1 : wc.cell? ⟨gb342, 1, none⟩ = some (.bool ((qg l0 x23_2).f1)) := (qh BK342.out 1).trans rfl
            have hcz42_2 : wc.cell? ⟨gb342, 2, none⟩ = some (.string ((qg l0 x23_2).f2)) := (qh BK342.out 2).trans rfl
            have hcz42_3 : wc.cell? ⟨gb342, 3, none⟩ = some (.string ((qg l0 x23_2).f3)) := (qh BK342.out 3).trans rfl
            have hcz42_4 : wc.cell? ⟨gb342, 4, none⟩ = some (.slice A341_4 ((qg l0 x23_2).f4).length c341_4) := (qh BK342.out 4).trans rfl
            have hfz42_0 := qf BK342.out 0
            have hfz42_1 := qf BK342.out 1
            have hfz42_2 := qf BK342.out 2
            have hfz42_3 := qf BK342.out 3
            have hfz42_4 := qf BK342.out 4
            go_wp2
            go_loopg [73] kj9 (fun kq v73 w' => ∃ (x73_4 : Int), v73 = .int .i64 x73_4 ∧ qa (qn.l1 kq l0 (l0.length : Int) x23_2 (((qg l0 x23_2).f4).length : Int) x73_4 ((qg l0 x23_2).f0) ((qg l0 x23_2).f1) ((qg l0 x23_2).f2) ((qg l0 x23_2).f3) ((qg l0 x23_2).f4) = some r) ∧ qa (kq ≤ kj9) ∧ qa (w'.heap[gb342]? = some (.cells #[.bool ((qg l0 x23_2).f0), .bool ((qg l0 x23_2).f1), .string ((qg l0 x23_2).f2), .string ((qg l0 x23_2).f3), (.slice A341_4 ((qg l0 x23_2).f4).length c341_4)] 60 (0, 0))) ∧ qa (Below w.heap.size w w'))
            case atStart => exact ⟨(0), zz7, H', ⟨Nat.le_refl _⟩, ⟨zz51⟩, ⟨zz88⟩⟩
            case round =>
             clear H'
             try clear c1
             try clear q1
             try clear c2
             try clear p2
             try clear q2
             try clear c3
             try clear c3b0
             try clear c3b1
             try clear c3b2
             try clear p3
             try clear q3
             try clear hx3
             try clear qi3
             try clear c4
             try clear c4b0
             try clear c4b1
             try clear c5
             try clear c5b0
             try clear c5b1
             try clear c6
             try clear c7
             try clear c7b0
             try clear c8
             try clear c8b0
             try clear c9
             try clear c9b0
             try clear c13
             try clear c13b0
             try clear c13b1
             try clear c13b2
             try clear q14
             try clear c15
             try clear c16
             try clear c16b0
             try clear c16b1
             try clear c16b2
             try clear c18
             try clear c18b0
             try clear c18b1
             try clear c21
             try clear c21b0
             try clear c21b1
             try clear c21b2
             try clear c22
             try clear c22b0
             try clear c22b1
             try clear c27
             try clear q28
             try clear c29
             try clear c30
             try clear c30b0
             try clear c30b1
             try clear c30b2
             try clear c32
             try clear c32b0
             try clear c32b1
             try clear c34
             try clear p34
             try clear q34
             try clear hx34
             try clear qi34
             try clear c35
             try clear c35b0
             try clear c35b1
             try clear c35b2
             try clear c36
             try clear c36b0
             try clear c36b1
             try clear c41
             try clear hcz12_0
             try clear hcz12_1
             try clear hcz12_2
             try clear hcz12_3
             try clear hcz12_4
             try clear hcz17_0
             try clear hcz17_1
             try clear hcz17_2
             try clear hcz17_3
             try clear hcz17_4
             try clear hcz19_0
             try clear hcz19_1
             try clear hcz19_2
             try clear hcz19_3
             try clear hcz19_4
             try clear hcz20_0
             try clear hcz20_1
             try clear hcz20_2
             try clear hcz20_3
             try clear hcz20_4
             try clear hcz23_0
             try clear hcz23_1
             try clear hcz23_2
             try clear hcz23_3
             try clear hcz23_4
             try clear hcz24_0
             try clear hcz24_1
             try clear hcz24_2
             try clear hcz24_3
             try clear hcz24_4
             try clear hcz25_0
             try clear hcz25_1
             try clear hcz25_2
             try clear hcz25_3
             try clear hcz25_4
             try clear hcz31_0
             try clear hcz31_1
             try clear hcz31_2
             try clear hcz31_3
             try clear hcz31_4
             try clear hcz33_0
             try clear hcz33_1
             try clear hcz33_2
             try clear hcz33_3
             try clear hcz33_4
             try clear hcz34_0
             try clear hcz34_1
             try clear hcz34_2
             try clear hcz34_3
             try clear hcz34_4
             try clear hcz37_0
             try clear hcz37_1
             try clear hcz37_2
             try clear hcz37_3
             try clear hcz37_4
             try clear hcz38_0
             try clear hcz38_1
             try clear hcz38_2
             try clear hcz38_3
             try clear hcz38_4
             try clear hcz39_0
             try clear hcz39_1
             try clear hcz39_2
             try clear hcz39_3
             try clear hcz39_4
             try clear hcz40_0
             try clear hcz40_1
             try clear hcz40_2
             try clear hcz40_3
             try clear hcz40_4
             try clear hcz42_0
             try clear hcz42_1
             try clear hcz42_2
             try clear hcz42_3
             try clear hcz42_4
             try clear hfz12_0
             try clear hfz12_1
             try clear hfz12_2
             try clear hfz12_3
             try clear hfz12_4
             try clear hfz17_0
             try clear hfz17_1
             try clear hfz17_2
             try clear hfz17_3
             try clear hfz17_4
             try clear hfz19_0
             try clear hfz19_1
             try clear hfz19_2
             try clear hfz19_3
             try clear hfz19_4
             try clear hfz20_0
             try clear hfz20_1
             try clear hfz20_2
             try clear hfz20_3
             try clear hfz20_4
             try clear hfz23_0
             try clear hfz23_1
             try clear hfz23_2
             try clear hfz23_3
             try clear hfz23_4
             try clear hfz24_0
             try clear hfz24_1
             try clear hfz24_2
             try clear hfz24_3
             try clear hfz24_4
             try clear hfz25_0
             try clear hfz25_1
             try clear hfz25_2
             try clear hfz25_3
             try clear hfz25_4
             try clear hfz31_0
             try clear hfz31_1
             try clear hfz31_2
             try clear hfz31_3
             try clear hfz31_4
             try clear hfz33_0
             try clear hfz33_1
             try clear hfz33_2
             try clear hfz33_3
             try clear hfz33_4
             try clear hfz34_0
             try clear hfz34_1
             try clear hfz34_2
             try clear hfz34_3
             try clear hfz34_4
             try clear hfz37_0
             try clear hfz37_1
             try clear hfz37_2
             try clear hfz37_3
             try clear hfz37_4
             try clear hfz38_0
             try clear hfz38_1
             try clear hfz38_2
             try clear hfz38_3
             try clear hfz38_4
             try clear hfz39_0
             try clear hfz39_1
             try clear hfz39_2
             try clear hfz39_3
             try clear hfz39_4
             try clear hfz40_0
             try clear hfz40_1
             try clear hfz40_2
             try clear hfz40_3
             try clear hfz40_4
             try clear hfz42_0
             try clear hfz42_1
             try clear hfz42_2
             try clear hfz42_3
             try clear hfz42_4
             try clear hx340_0
             try clear hx340_1
             try clear hx340_2
             try clear hx340_3
             try clear hx340_4
             try clear hx341_0
             try clear hx341_1
             try clear hx341_2
             try clear hx341_3
             try clear hx341_4
             try clear p2
             try clear p3
             try clear p34
             try clear p340
             try clear p341
             try clear q1
             try clear q14
             try clear q2
             try clear q28
             try clear q3
             try clear q34
             try clear q340
             try clear q341
             obtain ⟨x73_4, rfl, HA, HK4, BK342, HB⟩ := hrel
             cases gk with
             | zero => exact absurd HA.out (by simp [qn.l1])
             | succ k4 =>
              have H := HA.out
              clear HA
              simp only [qn.l1] at H
              by_cases c43 : x73_4 < (((qg l0 x23_2).f4).length : Int)
              ·rw [if_pos c43] at H
               have c43b0 : decide (x73_4 < (((qg l0 x23_2).f4).length : Int)) = true := decide_eq_true c43
               clear c43
               by_cases c44 : 0 ≤ x73_4
               ·rw [if_pos c44] at H
                have c44b0 : decide (0 ≤ x73_4) = true := decide_eq_true c44
                clear c44
                by_cases c45 : x73_4 < (((qg l0 x23_2).f4).length : Int)
                ·rw [if_pos c45] at H
                 have c45b0 : decide (x73_4 < (((qg l0 x23_2).f4).length : Int)) = true := decide_eq_true c45
                 clear c45
                 replace H := Option.bind_eq_some_iff.mp H
                 obtain ⟨t346, A460, H⟩ := H
                 replace H : (if t346 = true then (if (qgb ((qg l0 x23_2).f4) x73_4).f2 = true then (if (((qgb ((qg l0 x23_2).f4) x73_4).f1).size : Int) > 65536 then (some false) else (qn.l1 k4 l0 (l0.length : Int) x23_2 (((qg l0 x23_2).f4).length : Int) (wrap64 (x73_4 + 1)) ((qg l0 x23_2).f0) ((qg l0 x23_2).f1) ((qg l0 x23_2).f2) ((qg l0 x23_2).f3) ((qg l0 x23_2).f4))) else (if ((qgb ((qg l0 x23_2).f4) x73_4).f1).toList = ([] : List UInt8) then (if (((qgb ((qg l0 x23_2).f4) x73_4).f1).size : Int) > 65536 then (some false) else (qn.l1 k4 l0 (l0.length : Int) x23_2 (((qg l0 x23_2).f4).length : Int) (wrap64 (x73_4 + 1)) ((qg l0 x23_2).f0) ((qg l0 x23_2).f1) ((qg l0 x23_2).f2) ((qg l0 x23_2).f3) ((qg l0 x23_2).f4))) else (some false))) else (some false)) = some r := H
                 have A46 := qa.mk A460
                 clear A460
                 by_cases c47 : t346 = true
                 ·subst c47
                  have H1 : (if (qgb ((qg l0 x23_2).f4) x73_4).f2 = true then (if (((qgb ((qg l0 x23_2).f4) x73_4).f1).size : Int) > 65536 then (some false) else (qn.l1 k4 l0 (l0.length : Int) x23_2 (((qg l0 x23_2).f4).length : Int) (wrap64 (x73_4 + 1)) ((qg l0 x23_2).f0) ((qg l0 x23_2).f1) ((qg l0 x23_2).f2) ((qg l0 x23_2).f3) ((qg l0 x23_2).f4))) else (if ((qgb ((qg l0 x23_2).f4) x73_4).f1).toList = ([] : List UInt8) then (if (((qgb ((qg l0 x23_2).f4) x73_4).f1).size : Int) > 65536 then (some false) else (qn.l1 k4 l0 (l0.length : Int) x23_2 (((qg l0 x23_2).f4).length : Int) (wrap64 (x73_4 + 1)) ((qg l0 x23_2).f0) ((qg l0 x23_2).f1) ((qg l0 x23_2).f2) ((qg l0 x23_2).f3) ((qg l0 x23_2).f4))) else (some false))) = some r := by rw [if_pos rfl] at H; exact H
                  clear H
                  have H := H1
                  clear H1
                  obtain ⟨bq48, hbq48⟩ : ∃ b_ : Bool, b_ = ((qgb ((qg l0 x23_2).f4) x73_4).f2) := ⟨_, rfl⟩
                  replace H : (if bq48 = true then (if (((qgb ((qg l0 x23_2).f4) x73_4).f1).size : Int) > 65536 then (some false) else (qn.l1 k4 l0 (l0.length : Int) x23_2 (((qg l0 x23_2).f4).length : Int) (wrap64 (x73_4 + 1)) ((qg l0 x23_2).f0) ((qg l0 x23_2).f1) ((qg l0 x23_2).f2) ((qg l0 x23_2).f3) ((qg l0 x23_2).f4))) else (if ((qgb ((qg l0 x23_2).f4) x73_4).f1).toList = ([] : List UInt8) then (if (((qgb ((qg l0 x23_2).f4) x73_4).f1).size : Int) > 65536 then (some false) else (qn.l1 k4 l0 (l0.length : Int) x23_2 (((qg l0 x23_2).f4).length : Int) (wrap64 (x73_4 + 1)) ((qg l0 x23_2).f0) ((qg l0 x23_2).f1) ((qg l0 x23_2).f2) ((qg l0 x23_2).f3) ((qg l0 x23_2).f4))) else (some false))) = some r := by rw [← hbq48] at H; exact H
                  have Nbq48 := qa.mk hbq48
                  clear hbq48
                  (try rw [← Nbq48.out])
                  by_cases c49 : bq48 = true
                  ·subst c49
                   have H1 : (if (((qgb ((qg l0 x23_2).f4) x73_4).f1).size : Int) > 65536 then (some false) else (qn.l1 k4 l0 (l0.length : Int) x23_2 (((qg l0 x23_2).f4).length : Int) (wrap64 (x73_4 + 1)) ((qg l0 x23_2).f0) ((qg l0 x23_2).f1) ((qg l0 x23_2).f2) ((qg l0 x23_2).f3) ((qg l0 x23_2).f4))) = some r := by rw [if_pos rfl] at H; exact H
                   clear H
                   have H := H1
                   clear H1
                   by_cases c50 : (((qgb ((qg l0 x23_2).f4) x73_4).f1).size : Int) > 65536
                   ·rw [if_pos c50] at H
                    have c50b0 : decide (65536 < (((qgb ((qg l0 x23_2).f4) x73_4).f1).size : Int)) = true := decide_eq_true c50
                    have c50b1 : decide (65536 < ((qgb ((qg l0 x23_2).f4) x73_4).f1).size) = true := decide_eq_true (by omega)
                    clear c50
                    obtain rfl := Option.some.inj H
                    have hcz51_0 : wr.cell? ⟨gb342, 0, none⟩ = some (.bool ((qg l0 x23_2).f0)) := (qh BK342.out 0).trans rfl
                    have hcz51_1 : wr.cell? ⟨gb342, 1, none⟩ = some (.bool ((qg l0 x23_2).f1)) := (qh BK342.out 1).trans rfl
                    have hcz51_2 : wr.cell? ⟨gb342, 2, none⟩ = some (.string ((qg l0 x23_2).f2)) := (qh BK342.out 2).trans rfl
                    have hcz51_3 : wr.cell? ⟨gb342, 3, none⟩ = some (.string ((qg l0 x23_2).f3)) := (qh BK342.out 3).trans rfl
                    have hcz51_4 : wr.cell? ⟨gb342, 4, none⟩ = some (.slice A341_4 ((qg l0 x23_2).f4).length c341_4) := (qh BK342.out 4).trans rfl
                    have hfz51_0 := qf BK342.out 0
                    have hfz51_1 := qf BK342.out 1
                    have hfz51_2 := qf BK342.out 2
                    have hfz51_3 := qf BK342.out 3
                    have hfz51_4 := qf BK342.out 4
                    have p344 : 0 ≤ (x73_4 : Int) := of_decide_eq_true zz12
                    have q344 : x73_4 < (((qg l0 x23_2).f4).length : Int) := of_decide_eq_true zz12
                    obtain ⟨ad344, e344, hx344_0, hx344_1, hx344_2⟩ := at_T61 HR341_4.out x73_4 p344 q344
                    (try rw [← Nbq48.out] at hx344_2)
                    cases e344
                    replace hx344_0 := (HB.out.cell (qwc w _ hx344_0)).trans hx344_0
                    replace hx344_1 := (HB.out.cell (qwc w _ hx344_1)).trans hx344_1
                    replace hx344_2 := (HB.out.cell (qwc w _ hx344_2)).trans hx344_2
                    replace p344 := eq_true p344
                    replace q344 := eq_true q344
                    go_wp2_with (first | ((with_reducible refine qeb (N := 6) rfl ?_); (try (refine qkc (by rfl) ?_; dsimp only)); refine qjb ?hg (N := 6) ?hd (cs := #[.string (⟨#[]⟩ : ByteArray), .string (⟨#[]⟩ : ByteArray), .bool false]) (t := 61) ?hr ?_; (case hd => rfl); (case hg => rfl); (case hr => exact zz6); intro gb345 hg w52 hbox hb; have n0_ := qa.mk (qmb (g := gb342) (o := .cells #[.bool ((qg l0 x23_2).f0), .bool ((qg l0 x23_2).f1), .string ((qg l0 x23_2).f2), .string ((qg l0 x23_2).f3), .slice (some ad344) ((qg l0 x23_2).f4).length c341_4] 60 (0, 0)) zz51 hb); have n1_ := qa.mk (qp zz88 hb); have n2_ := qa.mk (hbox); have n3_ := qa.mk ((by rw [hg]; exact (qo zz88) : w.heap.size ≤ gb345)); have n4_ := qa.mk ((by rw [hg]; exact (qo zz88) : w.heap.size ≤ gb345)); have n5_ := qa.mk ((by rw [hg]; exact qyc (qbc (g := gb342) (o := .cells #[.bool ((qg l0 x23_2).f0), .bool ((qg l0 x23_2).f1), .string ((qg l0 x23_2).f2), .string ((qg l0 x23_2).f3), .slice (some ad344) ((qg l0 x23_2).f4).length c341_4] 60 (0, 0)) zz51) : gb342 ≠ gb345)); have n6_ := qa.mk ((by rw [hg]; exact Nat.ne_of_gt (qbc (g := gb342) (o := .cells #[.bool ((qg l0 x23_2).f0), .bool ((qg l0 x23_2).f1), .string ((qg l0 x23_2).f2), .string ((qg l0 x23_2).f3), .slice (some ad344) ((qg l0 x23_2).f4).length c341_4] 60 (0, 0)) zz51) : gb345 ≠ gb342)); clear BK342; clear HB; have BK342 := n0_; have HB := n1_; have BK345 := n2_; have GW345 := n3_; have GE345 := n4_; have NB342_345 := n5_; have NB345_342 := n6_; clear n0_ n1_ n2_ n3_ n4_ n5_ n6_; clear hb hbox hg; have hnb53 := NB345_342.out; have hnc53 := NB342_345.out; have hcz54_0 : w52.cell? ⟨gb345, 0, none⟩ = some (.string (⟨#[]⟩ : ByteArray)) := (qh BK345.out 0).trans rfl; have hcz54_1 : w52.cell? ⟨gb345, 1, none⟩ = some (.string (⟨#[]⟩ : ByteArray)) := (qh BK345.out 1).trans rfl; have hcz54_2 : w52.cell? ⟨gb345, 2, none⟩ = some (.bool false) := (qh BK345.out 2).trans rfl; have hfz54_0 := qf BK345.out 0; have hfz54_1 := qf BK345.out 1; have hfz54_2 := qf BK345.out 2) | ((with_reducible refine qy (f := 20) rfl ?_); refine qqb (some 83) rfl rfl Tryd.func20 (by kernel_rfl) rfl #[.string ((qgb ((qg l0 x23_2).f4) x73_4).f0), .bool true] rfl zz94 ?_; (with_reducible refine (qab.calls k4 ((qgb ((qg l0 x23_2).f4) x73_4).f0) true true _ A46.out).mono ?_); rintro e w' ⟨rfl, ⟨nd, rfl⟩⟩; refine ⟨_, rfl, ?_⟩))
                    go_ret
                    exact ⟨zz103, zz109⟩
                   ·rw [if_neg c50] at H
                    have c50b0 : decide (65536 < (((qgb ((qg l0 x23_2).f4) x73_4).f1).size : Int)) = false := decide_eq_false c50
                    have c50b1 : decide (65536 < ((qgb ((qg l0 x23_2).f4) x73_4).f1).size) = false := decide_eq_false (by omega)
                    clear c50
                    have H' := qa.mk H
                    clear H
                    have hcz55_0 : wr.cell? ⟨gb342, 0, none⟩ = some (.bool ((qg l0 x23_2).f0)) := (qh BK342.out 0).trans rfl
                    have hcz55_1 : wr.cell? ⟨gb342, 1, none⟩ = some (.bool ((qg l0 x23_2).f1)) := (qh BK342.out 1).trans rfl
                    have hcz55_2 : wr.cell? ⟨gb342, 2, none⟩ = some (.string ((qg l0 x23_2).f2)) := (qh BK342.out 2).trans rfl
                    have hcz55_3 : wr.cell? ⟨gb342, 3, none⟩ = some (.string ((qg l0 x23_2).f3)) := (qh BK342.out 3).trans rfl
                    have hcz55_4 : wr.cell? ⟨gb342, 4, none⟩ = some (.slice A341_4 ((qg l0 x23_2).f4).length c341_4) := (qh BK342.out 4).trans rfl
                    have hfz55_0 := qf BK342.out 0
                    have hfz55_1 := qf BK342.out 1
                    have hfz55_2 := qf BK342.out 2
                    have hfz55_3 := qf BK342.out 3
                    have hfz55_4 := qf BK342.out 4
                    have p344 : 0 ≤ (x73_4 : Int) := of_decide_eq_true zz12
                    have q344 : x73_4 < (((qg l0 x23_2).f4).length : Int) := of_decide_eq_true zz12
                    obtain ⟨ad344, e344, hx344_0, hx344_1, hx344_2⟩ := at_T61 HR341_4.out x73_4 p344 q344
                    (try rw [← Nbq48.out] at hx344_2)
                    cases e344
                    replace hx344_0 := (HB.out.cell (qwc w _ hx344_0)).trans hx344_0
                    replace hx344_1 := (HB.out.cell (qwc w _ hx344_1)).trans hx344_1
                    replace hx344_2 := (HB.out.cell (qwc w _ hx344_2)).trans hx344_2
                    replace p344 := eq_true p344
                    replace q344 := eq_true q344
                    go_wp2_with (first | ((with_reducible refine qeb (N := 6) rfl ?_); (try (refine qkc (by rfl) ?_; dsimp only)); refine qjb ?hg (N := 6) ?hd (cs := #[.string (⟨#[]⟩ : ByteArray), .string (⟨#[]⟩ : ByteArray), .bool false]) (t := 61) ?hr ?_; (case hd => rfl); (case hg => rfl); (case hr => exact zz6); intro gb345 hg w56 hbox hb; have n0_ := qa.mk (qmb (g := gb342) (o := .cells #[.bool ((qg l0 x23_2).f0), .bool ((qg l0 x23_2).f1), .string ((qg l0 x23_2).f2), .string ((qg l0 x23_2).f3), .slice (some ad344) ((qg l0 x23_2).f4).length c341_4] 60 (0, 0)) zz51 hb); have n1_ := qa.mk (qp zz88 hb); have n2_ := qa.mk (hbox); have n3_ := qa.mk ((by rw [hg]; exact (qo zz88) : w.heap.size ≤ gb345)); have n4_ := qa.mk ((by rw [hg]; exact (qo zz88) : w.heap.size ≤ gb345)); have n5_ := qa.mk ((by rw [hg]; exact qyc (qbc (g := gb342) (o := .cells #[.bool ((qg l0 x23_2).f0), .bool ((qg l0 x23_2).f1), .string ((qg l0 x23_2).f2), .string ((qg l0 x23_2).f3), .slice (some ad344) ((qg l0 x23_2).f4).length c341_4] 60 (0, 0)) zz51) : gb342 ≠ gb345)); have n6_ := qa.mk ((by rw [hg]; exact Nat.ne_of_gt (qbc (g := gb342) (o := .cells #[.bool ((qg l0 x23_2).f0), .bool ((qg l0 x23_2).f1), .string ((qg l0 x23_2).f2), .string ((qg l0 x23_2).f3), .slice (some ad344) ((qg l0 x23_2).f4).length c341_4] 60 (0, 0)) zz51) : gb345 ≠ gb342)); clear BK342; clear HB; have BK342 := n0_; have HB := n1_; have BK345 := n2_; have GW345 := n3_; have GE345 := n4_; have NB342_345 := n5_; have NB345_342 := n6_; clear n0_ n1_ n2_ n3_ n4_ n5_ n6_; clear hb hbox hg; have hnb57 := NB345_342.out; have hnc57 := NB342_345.out; have hcz58_0 : w56.cell? ⟨gb345, 0, none⟩ = some (.string (⟨#[]⟩ : ByteArray)) := (qh BK345.out 0).trans rfl; have hcz58_1 : w56.cell? ⟨gb345, 1, none⟩ = some (.string (⟨#[]⟩ : ByteArray)) := (qh BK345.out 1).trans rfl; have hcz58_2 : w56.cell? ⟨gb345, 2, none⟩ = some (.bool false) := (qh BK345.out 2).trans rfl; have hfz58_0 := qf BK345.out 0; have hfz58_1 := qf BK345.out 1; have hfz58_2 := qf BK345.out 2) | ((with_reducible refine qy (f := 20) rfl ?_); refine qqb (some 83) rfl rfl Tryd.func20 (by kernel_rfl) rfl #[.string ((qgb ((qg l0 x23_2).f4) x73_4).f0), .bool true] rfl zz94 ?_; (with_reducible refine (qab.calls k4 ((qgb ((qg l0 x23_2).f4) x73_4).f0) true true _ A46.out).mono ?_); rintro e w' ⟨rfl, ⟨nd, rfl⟩⟩; refine ⟨_, rfl, ?_⟩))
                    go_roundg k4
                    case measure => have := HJ1.out; have := HK2.out; have := HJ9.out; have := HK4.out; omega
                    case rel => (try rw [← Nbq48.out]); exact ⟨(wrap64 (x73_4 + 1)), zz7, H', ⟨zz39⟩, ⟨zz147⟩, ⟨zz109⟩⟩
                  ·replace c49 := Bool.eq_false_iff.mpr c49
                   subst c49
                   have H1 : (if ((qgb ((qg l0 x23_2).f4) x73_4).f1).toList = ([] : List UInt8) then (if (((qgb ((qg l0 x23_2).f4) x73_4).f1).size : Int) > 65536 then (some false) else (qn.l1 k4 l0 (l0.length : Int) x23_2 (((qg l0 x23_2).f4).length : Int) (wrap64 (x73_4 + 1)) ((qg l0 x23_2).f0) ((qg l0 x23_2).f1) ((qg l0 x23_2).f2) ((qg l0 x23_2).f3) ((qg l0 x23_2).f4))) else (some false)) = some r := by rw [if_neg (show ¬ (false = true) by decide)] at H; exact H
                   clear H
                   have H := H1
                   clear H1
                   by_cases c59 : ((qgb ((qg l0 x23_2).f4) x73_4).f1).toList = ([] : List UInt8)
                   ·rw [if_pos c59] at H
                    have c59b0 : (((qgb ((qg l0 x23_2).f4) x73_4).f1).toList == ([] : List UInt8)) = true := beq_iff_eq.mpr c59
                    have c59b1 : (((qgb ((qg l0 x23_2).f4) x73_4).f1).toList != ([] : List UInt8)) = false := bne_eq_false_iff_eq.mpr c59
                    (try (have c59b2 : List.isEmpty (((qgb ((qg l0 x23_2).f4) x73_4).f1).toList) = true := by simpa using c59))
                    clear c59
                    by_cases c60 : (((qgb ((qg l0 x23_2).f4) x73_4).f1).size : Int) > 65536
                    ·rw [if_pos c60] at H
                     have c60b0 : decide (65536 < (((qgb ((qg l0 x23_2).f4) x73_4).f1).size : Int)) = true := decide_eq_true c60
                     have c60b1 : decide (65536 < ((qgb ((qg l0 x23_2).f4) x73_4).f1).size) = true := decide_eq_true (by omega)
                     clear c60
                     obtain rfl := Option.some.inj H
                     have hcz61_0 : wr.cell? ⟨gb342, 0, none⟩ = some (.bool ((qg l0 x23_2).f0)) := (qh BK342.out 0).trans rfl
                     have hcz61_1 : wr.cell? ⟨gb342, 1, none⟩ = some (.bool ((qg l0 x23_2).f1)) := (qh BK342.out 1).trans rfl
                     have hcz61_2 : wr.cell? ⟨gb342, 2, none⟩ = some (.string ((qg l0 x23_2).f2)) := (qh BK342.out 2).trans rfl
                     have hcz61_3 : wr.cell? ⟨gb342, 3, none⟩ = some (.string ((qg l0 x23_2).f3)) := (qh BK342.out 3).trans rfl
                     have hcz61_4 : wr.cell? ⟨gb342, 4, none⟩ = some (.slice A341_4 ((qg l0 x23_2).f4).length c341_4) := (qh BK342.out 4).trans rfl
                     have hfz61_0 := qf BK342.out 0
                     have hfz61_1 := qf BK342.out 1
                     have hfz61_2 := qf BK342.out 2
                     have hfz61_3 := qf BK342.out 3
                     have hfz61_4 := qf BK342.out 4
                     have p344 : 0 ≤ (x73_4 : Int) := of_decide_eq_true zz12
                     have q344 : x73_4 < (((qg l0 x23_2).f4).length : Int) := of_decide_eq_true zz12
                     obtain ⟨ad344, e344, hx344_0, hx344_1, hx344_2⟩ := at_T61 HR341_4.out x73_4 p344 q344
                     (try rw [← Nbq48.out] at hx344_2)
                     cases e344
                     replace hx344_0 := (HB.out.cell (qwc w _ hx344_0)).trans hx344_0
                     replace hx344_1 := (HB.out.cell (qwc w _ hx344_1)).trans hx344_1
                     replace hx344_2 := (HB.out.cell (qwc w _ hx344_2)).trans hx344_2
                     replace p344 := eq_true p344
                     replace q344 := eq_true q344
                     go_wp2_with (first | ((with_reducible refine qeb (N := 6) rfl ?_); (try (refine qkc (by rfl) ?_; dsimp only)); refine qjb ?hg (N := 6) ?hd (cs := #[.string (⟨#[]⟩ : ByteArray), .string (⟨#[]⟩ : ByteArray), .bool false]) (t := 61) ?hr ?_; (case hd => rfl); (case hg => rfl); (case hr => exact zz6); intro gb345 hg w62 hbox hb; have n0_ := qa.mk (qmb (g := gb342) (o := .cells #[.bool ((qg l0 x23_2).f0), .bool ((qg l0 x23_2).f1), .string ((qg l0 x23_2).f2), .string ((qg l0 x23_2).f3), .slice (some ad344) ((qg l0 x23_2).f4).length c341_4] 60 (0, 0)) zz51 hb); have n1_ := qa.mk (qp zz88 hb); have n2_ := qa.mk (hbox); have n3_ := qa.mk ((by rw [hg]; exact (qo zz88) : w.heap.size ≤ gb345)); have n4_ := qa.mk ((by rw [hg]; exact (qo zz88) : w.heap.size ≤ gb345)); have n5_ := qa.mk ((by rw [hg]; exact qyc (qbc (g := gb342) (o := .cells #[.bool ((qg l0 x23_2).f0), .bool ((qg l0 x23_2).f1), .string ((qg l0 x23_2).f2), .string ((qg l0 x23_2).f3), .slice (some ad344) ((qg l0 x23_2).f4).length c341_4] 60 (0, 0)) zz51) : gb342 ≠ gb345)); have n6_ := qa.mk ((by rw [hg]; exact Nat.ne_of_gt (qbc (g := gb342) (o := .cells #[.bool ((qg l0 x23_2).f0), .bool ((qg l0 x23_2).f1), .string ((qg l0 x23_2).f2), .string ((qg l0 x23_2).f3), .slice (some ad344) ((qg l0 x23_2).f4).length c341_4] 60 (0, 0)) zz51) : gb345 ≠ gb342)); clear BK342; clear HB; have BK342 := n0_; have HB := n1_; have BK345 := n2_; have GW345 := n3_; have GE345 := n4_; have NB342_345 := n5_; have NB345_342 := n6_; clear n0_ n1_ n2_ n3_ n4_ n5_ n6_; clear hb hbox hg; have hnb63 := NB345_342.out; have hnc63 := NB342_345.out; have hcz64_0 : w62.cell? ⟨gb345, 0, none⟩ = some (.string (⟨#[]⟩ : ByteArray)) := (qh BK345.out 0).trans rfl; have hcz64_1 : w62.cell? ⟨gb345, 1, none⟩ = some (.string (⟨#[]⟩ : ByteArray)) := (qh BK345.out 1).trans rfl; have hcz64_2 : w62.cell? ⟨gb345, 2, none⟩ = some (.bool false) := (qh BK345.out 2).trans rfl; have hfz64_0 := qf BK345.out 0; have hfz64_1 := qf BK345.out 1; have hfz64_2 := qf BK345.out 2) | ((with_reducible refine qy (f := 20) rfl ?_); refine qqb (some 83) rfl rfl Tryd.func20 (by kernel_rfl) rfl #[.string ((qgb ((qg l0 x23_2).f4) x73_4).f0), .bool true] rfl zz94 ?_; (with_reducible refine (qab.calls k4 ((qgb ((qg l0 x23_2).f4) x73_4).f0) true true _ A46.out).mono ?_); rintro e w' ⟨rfl, ⟨nd, rfl⟩⟩; refine ⟨_, rfl, ?_⟩))
                     go_ret
                     exact ⟨zz103, zz109⟩
                    ·rw [if_neg c60] at H
                     have c60b0 : decide (65536 < (((qgb ((qg l0 x23_2).f4) x73_4).f1).size : Int)) = false := decide_eq_false c60
                     have c60b1 : decide (65536 < ((qgb ((qg l0 x23_2).f4) x73_4).f1).size) = false := decide_eq_false (by omega)
                     clear c60
                     have H' := qa.mk H
                     clear H
                     have hcz65_0 : wr.cell? ⟨gb342, 0, none⟩ = some (.bool ((qg l0 x23_2).f0)) := (qh BK342.out 0).trans rfl
                     have hcz65_1 : wr.cell? ⟨gb342, 1, none⟩ = some (.bool ((qg l0 x23_2).f1)) := (qh BK342.out 1).trans rfl
                     have hcz65_2 : wr.cell? ⟨gb342, 2, none⟩ = some (.string ((qg l0 x23_2).f2)) := (qh BK342.out 2).trans rfl
                     have hcz65_3 : wr.cell? ⟨gb342, 3, none⟩ = some (.string ((qg l0 x23_2).f3)) := (qh BK342.out 3).trans rfl
                     have hcz65_4 : wr.cell? ⟨gb342, 4, none⟩ = some (.slice A341_4 ((qg l0 x23_2).f4).length c341_4) := (qh BK342.out 4).trans rfl
                     have hfz65_0 := qf BK342.out 0
                     have hfz65_1 := qf BK342.out 1
                     have hfz65_2 := qf BK342.out 2
                     have hfz65_3 := qf BK342.out 3
                     have hfz65_4 := qf BK342.out 4
                     have p344 : 0 ≤ (x73_4 : Int) := of_decide_eq_true zz12
                     have q344 : x73_4 < (((qg l0 x23_2).f4).length : Int) := of_decide_eq_true zz12
                     obtain ⟨ad344, e344, hx344_0, hx344_1, hx344_2⟩ := at_T61 HR341_4.out x73_4 p344 q344
                     (try rw [← Nbq48.out] at hx344_2)
                     cases e344
                     replace hx344_0 := (HB.out.cell (qwc w _ hx344_0)).trans hx344_0
                     replace hx344_1 := (HB.out.cell (qwc w _ hx344_1)).trans hx344_1
                     replace hx344_2 := (HB.out.cell (qwc w _ hx344_2)).trans hx344_2
                     replace p344 := eq_true p344
                     replace q344 := eq_true q344
                     go_wp2_with (first | ((with_reducible refine qeb (N := 6) rfl ?_); (try (refine qkc (by rfl) ?_; dsimp only)); refine qjb ?hg (N := 6) ?hd (cs := #[.string (⟨#[]⟩ : ByteArray), .string (⟨#[]⟩ : ByteArray), .bool false]) (t := 61) ?hr ?_; (case hd => rfl); (case hg => rfl); (case hr => exact zz6); intro gb345 hg w66 hbox hb; have n0_ := qa.mk (qmb (g := gb342) (o := .cells #[.bool ((qg l0 x23_2).f0), .bool ((qg l0 x23_2).f1), .string ((qg l0 x23_2).f2), .string ((qg l0 x23_2).f3), .slice (some ad344) ((qg l0 x23_2).f4).length c341_4] 60 (0, 0)) zz51 hb); have n1_ := qa.mk (qp zz88 hb); have n2_ := qa.mk (hbox); have n3_ := qa.mk ((by rw [hg]; exact (qo zz88) : w.heap.size ≤ gb345)); have n4_ := qa.mk ((by rw [hg]; exact (qo zz88) : w.heap.size ≤ gb345)); have n5_ := qa.mk ((by rw [hg]; exact qyc (qbc (g := gb342) (o := .cells #[.bool ((qg l0 x23_2).f0), .bool ((qg l0 x23_2).f1), .string ((qg l0 x23_2).f2), .string ((qg l0 x23_2).f3), .slice (some ad344) ((qg l0 x23_2).f4).length c341_4] 60 (0, 0)) zz51) : gb342 ≠ gb345)); have n6_ := qa.mk ((by rw [hg]; exact Nat.ne_of_gt (qbc (g := gb342) (o := .cells #[.bool ((qg l0 x23_2).f0), .bool ((qg l0 x23_2).f1), .string ((qg l0 x23_2).f2), .string ((qg l0 x23_2).f3), .slice (some ad344) ((qg l0 x23_2).f4).length c341_4] 60 (0, 0)) zz51) : gb345 ≠ gb342)); clear BK342; clear HB; have BK342 := n0_; have HB := n1_; have BK345 := n2_; have GW345 := n3_; have GE345 := n4_; have NB342_345 := n5_; have NB345_342 := n6_; clear n0_ n1_ n2_ n3_ n4_ n5_ n6_; clear hb hbox hg; have hnb67 := NB345_342.out; have hnc67 := NB342_345.out; have hcz68_0 : w66.cell? ⟨gb345, 0, none⟩ = some (.string (⟨#[]⟩ : ByteArray)) := (qh BK345.out 0).trans rfl; have hcz68_1 : w66.cell? ⟨gb345, 1, none⟩ = some (.string (⟨#[]⟩ : ByteArray)) := (qh BK345.out 1).trans rfl; have hcz68_2 : w66.cell? ⟨gb345, 2, none⟩ = some (.bool false) := (qh BK345.out 2).trans rfl; have hfz68_0 := qf BK345.out 0; have hfz68_1 := qf BK345.out 1; have hfz68_2 := qf BK345.out 2) | ((with_reducible refine qy (f := 20) rfl ?_); refine qqb (some 83) rfl rfl Tryd.func20 (by kernel_rfl) rfl #[.string ((qgb ((qg l0 x23_2).f4) x73_4).f0), .bool true] rfl zz94 ?_; (with_reducible refine (qab.calls k4 ((qgb ((qg l0 x23_2).f4) x73_4).f0) true true _ A46.out).mono ?_); rintro e w' ⟨rfl, ⟨nd, rfl⟩⟩; refine ⟨_, rfl, ?_⟩))
                     go_roundg k4
                     case measure => have := HJ1.out; have := HK2.out; have := HJ9.out; have := HK4.out; omega
                     case rel => (try rw [← Nbq48.out]); exact ⟨(wrap64 (x73_4 + 1)), zz7, H', ⟨zz39⟩, ⟨zz147⟩, ⟨zz109⟩⟩
                   ·rw [if_neg c59] at H
                    have c59b0 : (((qgb ((qg l0 x23_2).f4) x73_4).f1).toList == ([] : List UInt8)) = false := beq_eq_false_iff_ne.mpr c59
                    have c59b1 : (((qgb ((qg l0 x23_2).f4) x73_4).f1).toList != ([] : List UInt8)) = true := bne_iff_ne.mpr c59
                    (try (have c59b2 : List.isEmpty (((qgb ((qg l0 x23_2).f4) x73_4).f1).toList) = false := by simpa using c59))
                    obtain rfl := Option.some.inj H
                    have hcz69_0 : wr.cell? ⟨gb342, 0, none⟩ = some (.bool ((qg l0 x23_2).f0)) := (qh BK342.out 0).trans rfl
                    have hcz69_1 : wr.cell? ⟨gb342, 1, none⟩ = some (.bool ((qg l0 x23_2).f1)) := (qh BK342.out 1).trans rfl
                    have hcz69_2 : wr.cell? ⟨gb342, 2, none⟩ = some (.string ((qg l0 x23_2).f2)) := (qh BK342.out 2).trans rfl
                    have hcz69_3 : wr.cell? ⟨gb342, 3, none⟩ = some (.string ((qg l0 x23_2).f3)) := (qh BK342.out 3).trans rfl
                    have hcz69_4 : wr.cell? ⟨gb342, 4, none⟩ = some (.slice A341_4 ((qg l0 x23_2).f4).length c341_4) := (qh BK342.out 4).trans rfl
                    have hfz69_0 := qf BK342.out 0
                    have hfz69_1 := qf BK342.out 1
                    have hfz69_2 := qf BK342.out 2
                    have hfz69_3 := qf BK342.out 3
                    have hfz69_4 := qf BK342.out 4
                    have p344 : 0 ≤ (x73_4 : Int) := of_decide_eq_true zz12
                    have q344 : x73_4 < (((qg l0 x23_2).f4).length : Int) := of_decide_eq_true zz12
                    obtain ⟨ad344, e344, hx344_0, hx344_1, hx344_2⟩ := at_T61 HR341_4.out x73_4 p344 q344
                    (try rw [← Nbq48.out] at hx344_2)
                    cases e344
                    replace hx344_0 := (HB.out.cell (qwc w _ hx344_0)).trans hx344_0
                    replace hx344_1 := (HB.out.cell (qwc w _ hx344_1)).trans hx344_1
                    replace hx344_2 := (HB.out.cell (qwc w _ hx344_2)).trans hx344_2
                    replace p344 := eq_true p344
                    replace q344 := eq_true q344
                    go_wp2_with (first | ((with_reducible refine qeb (N := 6) rfl ?_); (try (refine qkc (by rfl) ?_; dsimp only)); refine qjb ?hg (N := 6) ?hd (cs := #[.string (⟨#[]⟩ : ByteArray), .string (⟨#[]⟩ : ByteArray), .bool false]) (t := 61) ?hr ?_; (case hd => rfl); (case hg => rfl); (case hr => exact zz6); intro gb345 hg w70 hbox hb; have n0_ := qa.mk (qmb (g := gb342) (o := .cells #[.bool ((qg l0 x23_2).f0), .bool ((qg l0 x23_2).f1), .string ((qg l0 x23_2).f2), .string ((qg l0 x23_2).f3), .slice (some ad344) ((qg l0 x23_2).f4).length c341_4] 60 (0, 0)) zz51 hb); have n1_ := qa.mk (qp zz88 hb); have n2_ := qa.mk (hbox); have n3_ := qa.mk ((by rw [hg]; exact (qo zz88) : w.heap.size ≤ gb345)); have n4_ := qa.mk ((by rw [hg]; exact (qo zz88) : w.heap.size ≤ gb345)); have n5_ := qa.mk ((by rw [hg]; exact qyc (qbc (g := gb342) (o := .cells #[.bool ((qg l0 x23_2).f0), .bool ((qg l0 x23_2).f1), .string ((qg l0 x23_2).f2), .string ((qg l0 x23_2).f3), .slice (some ad344) ((qg l0 x23_2).f4).length c341_4] 60 (0, 0)) zz51) : gb342 ≠ gb345)); have n6_ := qa.mk ((by rw [hg]; exact Nat.ne_of_gt (qbc (g := gb342) (o := .cells #[.bool ((qg l0 x23_2).f0), .bool ((qg l0 x23_2).f1), .string ((qg l0 x23_2).f2), .string ((qg l0 x23_2).f3), .slice (some ad344) ((qg l0 x23_2).f4).length c341_4] 60 (0, 0)) zz51) : gb345 ≠ gb342)); clear BK342; clear HB; have BK342 := n0_; have HB := n1_; have BK345 := n2_; have GW345 := n3_; have GE345 := n4_; have NB342_345 := n5_; have NB345_342 := n6_; clear n0_ n1_ n2_ n3_ n4_ n5_ n6_; clear hb hbox hg; have hnb71 := NB345_342.out; have hnc71 := NB342_345.out; have hcz72_0 : w70.cell? ⟨gb345, 0, none⟩ = some (.string (⟨#[]⟩ : ByteArray)) := (qh BK345.out 0).trans rfl; have hcz72_1 : w70.cell? ⟨gb345, 1, none⟩ = some (.string (⟨#[]⟩ : ByteArray)) := (qh BK345.out 1).trans rfl; have hcz72_2 : w70.cell? ⟨gb345, 2, none⟩ = some (.bool false) := (qh BK345.out 2).trans rfl; have hfz72_0 := qf BK345.out 0; have hfz72_1 := qf BK345.out 1; have hfz72_2 := qf BK345.out 2) | ((with_reducible refine qy (f := 20) rfl ?_); refine qqb (some 83) rfl rfl Tryd.func20 (by kernel_rfl) rfl #[.string ((qgb ((qg l0 x23_2).f4) x73_4).f0), .bool true] rfl zz94 ?_; (with_reducible refine (qab.calls k4 ((qgb ((qg l0 x23_2).f4) x73_4).f0) true true _ A46.out).mono ?_); rintro e w' ⟨rfl, ⟨nd, rfl⟩⟩; refine ⟨_, rfl, ?_⟩))
                    go_ret
                    exact ⟨zz103, zz109⟩
                 ·replace c47 := Bool.eq_false_iff.mpr c47
                  subst c47
                  have H1 : (some false) = some r := by rw [if_neg (show ¬ (false = true) by decide)] at H; exact H
                  clear H
                  have H := H1
                  clear H1
                  obtain rfl := Option.some.inj H
                  have hcz73_0 : wr.cell? ⟨gb342, 0, none⟩ = some (.bool ((qg l0 x23_2).f0)) := (qh BK342.out 0).trans rfl
                  have hcz73_1 : wr.cell? ⟨gb342, 1, none⟩ = some (.bool ((qg l0 x23_2).f1)) := (qh BK342.out 1).trans rfl
                  have hcz73_2 : wr.cell? ⟨gb342, 2, none⟩ = some (.string ((qg l0 x23_2).f2)) := (qh BK342.out 2).trans rfl
                  have hcz73_3 : wr.cell? ⟨gb342, 3, none⟩ = some (.string ((qg l0 x23_2).f3)) := (qh BK342.out 3).trans rfl
                  have hcz73_4 : wr.cell? ⟨gb342, 4, none⟩ = some (.slice A341_4 ((qg l0 x23_2).f4).length c341_4) := (qh BK342.out 4).trans rfl
                  have hfz73_0 := qf BK342.out 0
                  have hfz73_1 := qf BK342.out 1
                  have hfz73_2 := qf BK342.out 2
                  have hfz73_3 := qf BK342.out 3
                  have hfz73_4 := qf BK342.out 4
                  have p344 : 0 ≤ (x73_4 : Int) := of_decide_eq_true zz12
                  have q344 : x73_4 < (((qg l0 x23_2).f4).length : Int) := of_decide_eq_true zz12
                  obtain ⟨ad344, e344, hx344_0, hx344_1, hx344_2⟩ := at_T61 HR341_4.out x73_4 p344 q344
                  cases e344
                  replace hx344_0 := (HB.out.cell (qwc w _ hx344_0)).trans hx344_0
                  replace hx344_1 := (HB.out.cell (qwc w _ hx344_1)).trans hx344_1
                  replace hx344_2 := (HB.out.cell (qwc w _ hx344_2)).trans hx344_2
                  replace p344 := eq_true p344
                  replace q344 := eq_true q344
                  go_wp2_with (first | ((with_reducible refine qeb (N := 6) rfl ?_); (try (refine qkc (by rfl) ?_; dsimp only)); refine qjb ?hg (N := 6) ?hd (cs := #[.string (⟨#[]⟩ : ByteArray), .string (⟨#[]⟩ : ByteArray), .bool false]) (t := 61) ?hr ?_; (case hd => rfl); (case hg => rfl); (case hr => exact zz6); intro gb345 hg w74 hbox hb; have n0_ := qa.mk (qmb (g := gb342) (o := .cells #[.bool ((qg l0 x23_2).f0), .bool ((qg l0 x23_2).f1), .string ((qg l0 x23_2).f2), .string ((qg l0 x23_2).f3), .slice (some ad344) ((qg l0 x23_2).f4).length c341_4] 60 (0, 0)) zz51 hb); have n1_ := qa.mk (qp zz88 hb); have n2_ := qa.mk (hbox); have n3_ := qa.mk ((by rw [hg]; exact (qo zz88) : w.heap.size ≤ gb345)); have n4_ := qa.mk ((by rw [hg]; exact (qo zz88) : w.heap.size ≤ gb345)); have n5_ := qa.mk ((by rw [hg]; exact qyc (qbc (g := gb342) (o := .cells #[.bool ((qg l0 x23_2).f0), .bool ((qg l0 x23_2).f1), .string ((qg l0 x23_2).f2), .string ((qg l0 x23_2).f3), .slice (some ad344) ((qg l0 x23_2).f4).length c341_4] 60 (0, 0)) zz51) : gb342 ≠ gb345)); have n6_ := qa.mk ((by rw [hg]; exact Nat.ne_of_gt (qbc (g := gb342) (o := .cells #[.bool ((qg l0 x23_2).f0), .bool ((qg l0 x23_2).f1), .string ((qg l0 x23_2).f2), .string ((qg l0 x23_2).f3), .slice (some ad344) ((qg l0 x23_2).f4).length c341_4] 60 (0, 0)) zz51) : gb345 ≠ gb342)); clear BK342; clear HB; have BK342 := n0_; have HB := n1_; have BK345 := n2_; have GW345 := n3_; have GE345 := n4_; have NB342_345 := n5_; have NB345_342 := n6_; clear n0_ n1_ n2_ n3_ n4_ n5_ n6_; clear hb hbox hg; have hnb75 := NB345_342.out; have hnc75 := NB342_345.out; have hcz76_0 : w74.cell? ⟨gb345, 0, none⟩ = some (.string (⟨#[]⟩ : ByteArray)) := (qh BK345.out 0).trans rfl; have hcz76_1 : w74.cell? ⟨gb345, 1, none⟩ = some (.string (⟨#[]⟩ : ByteArray)) := (qh BK345.out 1).trans rfl; have hcz76_2 : w74.cell? ⟨gb345, 2, none⟩ = some (.bool false) := (qh BK345.out 2).trans rfl; have hfz76_0 := qf BK345.out 0; have hfz76_1 := qf BK345.out 1; have hfz76_2 := qf BK345.out 2) | ((with_reducible refine qy (f := 20) rfl ?_); refine qqb (some 83) rfl rfl Tryd.func20 (by kernel_rfl) rfl #[.string ((qgb ((qg l0 x23_2).f4) x73_4).f0), .bool true] rfl zz94 ?_; (with_reducible refine (qab.calls k4 ((qgb ((qg l0 x23_2).f4) x73_4).f0) true false _ A46.out).mono ?_); rintro e w' ⟨rfl, ⟨nd, rfl⟩⟩; refine ⟨_, rfl, ?_⟩))
                  go_ret
                  exact ⟨zz103, zz109⟩
                ·rw [if_neg c45] at H
                 exact absurd H (by simp)
               ·rw [if_neg c44] at H
                exact absurd H (by simp)
              ·rw [if_neg c43] at H
               have c43b0 : decide (x73_4 < (((qg l0 x23_2).f4).length : Int)) = false := decide_eq_false c43
               clear c43
               have H' := qa.mk H
               clear H
               go_wp2
               go_roundg k4
               case measure => have := HJ1.out; have := HK2.out; have := HJ9.out; have := HK4.out; omega
               case rel => exact ⟨(wrap64 (x23_2 + 1)), zz7, H', ⟨zz39⟩, ⟨zz88⟩⟩
        ·rw [if_neg c9] at H
         exact absurd H (by simp)
       ·rw [if_neg c8] at H
        exact absurd H (by simp)
      ·rw [if_neg c7] at H
       have c7b0 : decide (x23_2 < (l0.length : Int)) = false := decide_eq_false c7
       clear c7
       obtain rfl := Option.some.inj H
       go_wp2
       go_ret
       exact ⟨zz103, zz53⟩
end Go.Proofs.YtjbobecnlpiejaaDoor.Q
namespace Go.Proofs.YtjbobecnlpiejaaDoor.Q.P
open Go.Proofs.YtjbobecnlpiejaaDoorZ
open Go.RowKit Go.Proofs.YtjbobecnlpiejaaDoorW.PrintWords Go.Proofs.YtjbobecnlpiejaaDoorW.PrintLast Go.Proofs.YtjbobecnlpiejaaDoorW.PrintMore
theorem rdP (l : List S41) (i : Nat) (h : i < l.length) : qu l (i : Int) = l[i] := by
 unfold qu
 rw [Int.toNat_natCast, List.getD_eq_getElem?_getD, List.getElem?_eq_getElem h]
 rfl
theorem rdC (l : List S33) (i : Nat) (h : i < l.length) : rd_T33 l (i : Int) = l[i] := by
 unfold rd_T33
 rw [Int.toNat_natCast, List.getD_eq_getElem?_getD, List.getElem?_eq_getElem h]
 rfl
theorem rdQ (l : List S60) (i : Nat) (h : i < l.length) : qg l (i : Int) = l[i] := by
 unfold qg
 rw [Int.toNat_natCast, List.getD_eq_getElem?_getD, List.getElem?_eq_getElem h]
 rfl
theorem rdD (l : List S61) (i : Nat) (h : i < l.length) : qgb l (i : Int) = l[i] := by
 unfold qgb
 rw [Int.toNat_natCast, List.getD_eq_getElem?_getD, List.getElem?_eq_getElem h]
 rfl
def PB (p : S41) : Prop := p.f2.size ≤ 140737488351232 ∧ p.f3.size ≤ 140737488351232 ∧ p.f4.length * 40 ≤ 140737488351232 ∧ ∀ c ∈ p.f4, c.f0.size ≤ 140737488351232 ∧ c.f1.size ≤ 140737488351232
def psum : List S41 → Nat
 | [] => 0
 | p :: r => 1 + p.f4.length + psum r
theorem few_l1 (l : List S41) (hl : l.length * 64 ≤ 140737488351232) (n : Int) (i : Nat) (hi : i < l.length) (hp : PB l[i]) (b : Bool) (hb : Ev (fun k => qub.l0 k l n (l.length : Int) ((i + 1 : Nat) : Int)) b) (d : Nat) :
  ∀ j : Nat, j + d = l[i].f4.length → ∃ b', Ev (fun k => qub.l1 k l n (i : Int) (l.length : Int) (i : Int) (l[i].f4.length : Int) (j : Int)) b' ∧ (b' = true → b = true) := by
 have hw : wrap64 ((i : Int) + 1) = ((i + 1 : Nat) : Int) := by rw [w64 (by omega) (by omega)]; omega
 obtain ⟨_, _, hcl, hc⟩ := hp
 induction d with
 | zero =>
  intro j hj
  refine ⟨b, Ev.step (fun k => ?_) hb, id⟩
  rw [qub.l1, if_neg (by omega), hw]
 | succ d ih =>
  intro j hj
  have hjl : j < l[i].f4.length := by omega
  have hw2 : wrap64 ((j : Int) + 1) = ((j + 1 : Nat) : Int) := by rw [w64 (by omega) (by omega)]; omega
  obtain ⟨h1, h2⟩ := hc l[i].f4[j] (List.getElem_mem _)
  obtain ⟨b', hb', hbb⟩ := ih (j + 1) (by omega)
  by_cases hs : (wrap64 ((l[i].f4[j].f0.size : Int) + (l[i].f4[j].f1.size : Int))) > 200000
  ·refine ⟨false, Ev.step (fun k => ?_) (Ev.now false), fun h => by cases h⟩
   rw [qub.l1, if_pos (by omega), if_pos (by omega), if_pos (by omega), rdP l i hi, if_pos (by omega), if_pos (by omega), rdC _ j hjl, if_pos hs]
  ·refine ⟨b', Ev.step (fun k => ?_) hb', hbb⟩
   rw [qub.l1, if_pos (by omega), if_pos (by omega), if_pos (by omega), rdP l i hi, if_pos (by omega), if_pos (by omega), rdC _ j hjl, if_neg hs, hw2]
theorem few_l0 (l : List S41) (hl : l.length * 64 ≤ 140737488351232) (hB : ∀ p ∈ l, PB p) (d : Nat) :
  ∀ (i n : Nat), i + d = l.length → n ≤ 200 → ∃ b, Ev (fun k => qub.l0 k l (n : Int) (l.length : Int) (i : Int)) b ∧ (b = true → n + psum (l.drop i) ≤ 200) := by
 induction d with
 | zero =>
  intro i n hi hn
  refine ⟨true, Ev.step (fun k => ?_) (Ev.now true), fun _ => ?_⟩
  ·rw [qub.l0, if_neg (by omega)]
  ·rw [List.drop_eq_nil_of_le (by omega)]
   simpa [psum] using hn
 | succ d ih =>
  intro i n hi hn
  have hil : i < l.length := by omega
  have hp := hB l[i] (List.getElem_mem _)
  obtain ⟨h2, h3, h4, _⟩ := id hp
  have e1 : wrap64 ((n : Int) + 1) = ((n + 1 : Nat) : Int) := by rw [w64 (by omega) (by omega)]; omega
  have e2 : wrap64 (((n + 1 : Nat) : Int) + (l[i].f4.length : Int)) = ((n + 1 + l[i].f4.length : Nat) : Int) := by rw [w64 (by omega) (by omega)]; omega
  by_cases hs : n + 1 + l[i].f4.length > 200
  ·refine ⟨false, Ev.step (fun k => ?_) (Ev.step (f := fun _ => some false) (g := fun k => qub.j1 k l ((n + 1 + l[i].f4.length : Nat) : Int) (i : Int) (l.length : Int) (i : Int) true) (fun k => ?_) (Ev.now false)), fun h => by cases h⟩
   ·rw [qub.l0, if_pos (by omega), if_pos (by omega), if_pos (by omega), rdP l i hil, e1, e2, if_pos (by omega)]
   ·simp only [qub.j1, if_true]
  ·obtain ⟨b, hb, hbt⟩ := ih (i + 1) (n + 1 + l[i].f4.length) (by omega) (by omega)
   obtain ⟨b', hb', hbb⟩ := few_l1 l hl ((n + 1 + l[i].f4.length : Nat) : Int) i hil hp b hb l[i].f4.length 0 (by omega)
   by_cases hk : wrap64 ((l[i].f2.size : Int) + (l[i].f3.size : Int)) > 200000
   ·refine ⟨false, Ev.step (fun k => ?_) (Ev.step (f := fun _ => some false) (g := fun k => qub.j1 k l ((n + 1 + l[i].f4.length : Nat) : Int) (i : Int) (l.length : Int) (i : Int) true) (fun k => ?_) (Ev.now false)), fun h => by cases h⟩
    ·rw [qub.l0, if_pos (by omega), if_pos (by omega), if_pos (by omega), rdP l i hil, e1, e2, if_neg (by omega), decide_eq_true hk]
    ·simp only [qub.j1, if_true]
   ·refine ⟨b', Ev.step (fun k => ?_) (Ev.step (f := fun k => qub.l1 k l ((n + 1 + l[i].f4.length : Nat) : Int) (i : Int) (l.length : Int) (i : Int) (l[i].f4.length : Int) ((0 : Nat) : Int)) (g := fun k => qub.j1 k l ((n + 1 + l[i].f4.length : Nat) : Int) (i : Int) (l.length : Int) (i : Int) false) (fun k => ?_) hb'), fun h => ?_⟩
    ·rw [qub.l0, if_pos (by omega), if_pos (by omega), if_pos (by omega), rdP l i hil, e1, e2, if_neg (by omega), decide_eq_false hk]
    ·simp only [qub.j1, Bool.false_eq_true, if_false]
     rw [if_pos (by omega), if_pos (by omega), rdP l i hil]
     rfl
    ·have := hbt (hbb h)
     rw [List.drop_eq_getElem_cons hil]
     simp only [psum]
     omega
theorem few_spec (l : List S41) (hl : l.length * 64 ≤ 140737488351232) (hB : ∀ p ∈ l, PB p) : ∃ b, Ev (fun k => qub.f k l) b ∧ (b = true → psum l ≤ 200) := by
 obtain ⟨b, hb, h⟩ := few_l0 l hl hB l.length 0 0 (by omega) (by omega)
 refine ⟨b, hb, fun hh => ?_⟩
 have := h hh
 rw [List.drop_zero] at this
 omega
def toC (c : S33) : S61 := ⟨c.f0, c.f1, c.f2⟩
def toP (p : S41) : S60 := ⟨p.f0, p.f1, p.f2, p.f3, p.f4.map toC⟩
theorem own_l1 (l : List S41) (acc : List S60) (hl : l.length ≤ 1000) (hacc : acc.length ≤ 1000) (i : Nat) (hi : i < l.length) (hc : l[i].f4.length ≤ 1000) (b0 b1 : Bool) (s2 s3 : ByteArray) (r : List S60)
  (hr : Ev (fun k => qkb.l0 k l (acc ++ [⟨b0, b1, s2, s3, l[i].f4.map toC⟩]) (l.length : Int) ((i + 1 : Nat) : Int)) r) (d : Nat) :
  ∀ j : Nat, j + d = l[i].f4.length → Ev (fun k => qkb.l1 k l acc (i : Int) (l.length : Int) (i : Int) (l[i].f4.length : Int) (j : Int) b0 b1 s2 s3 ((l[i].f4.take j).map toC)) r := by
 have hw : wrap64 ((i : Int) + 1) = ((i + 1 : Nat) : Int) := by rw [w64 (by omega) (by omega)]; omega
 induction d with
 | zero =>
  intro j hj
  refine Ev.step (fun k => ?_) hr
  rw [qkb.l1, if_neg (by omega), if_pos (by omega), hw, List.take_of_length_le (by omega)]
 | succ d ih =>
  intro j hj
  have hjl : j < l[i].f4.length := by omega
  have hw2 : wrap64 ((j : Int) + 1) = ((j + 1 : Nat) : Int) := by rw [w64 (by omega) (by omega)]; omega
  refine Ev.step (fun k => ?_) (ih (j + 1) (by omega))
  rw [qkb.l1, if_pos (by omega), if_pos (by omega), if_pos (by omega), rdP l i hi, if_pos (by omega), if_pos (by omega), rdC _ j hjl, if_pos (by rw [List.length_map, List.length_take]; omega), hw2, List.take_succ_eq_append_getElem hjl, List.map_append]
  rfl
theorem own_l0 (l : List S41) (hl : l.length ≤ 1000) (hc : ∀ p ∈ l, p.f4.length ≤ 1000) (d : Nat) :
  ∀ i : Nat, i + d = l.length → Ev (fun k => qkb.l0 k l ((l.take i).map toP) (l.length : Int) (i : Int)) (l.map toP) := by
 induction d with
 | zero =>
  intro i hi
  refine Ev.step (fun k => ?_) (Ev.now _)
  rw [qkb.l0, if_neg (by omega), List.take_of_length_le (by omega)]
 | succ d ih =>
  intro i hi
  have hil : i < l.length := by omega
  have h1 := ih (i + 1) (by omega)
  rw [List.take_succ_eq_append_getElem hil, List.map_append] at h1
  have h2 := own_l1 l ((l.take i).map toP) hl (by rw [List.length_map, List.length_take]; omega) i hil (hc _ (List.getElem_mem _)) l[i].f0 l[i].f1 l[i].f2 l[i].f3 _ h1 l[i].f4.length 0 (by omega)
  refine Ev.step (fun k => ?_) h2
  rw [qkb.l0, if_pos (by omega), if_pos (by omega), if_pos (by omega), rdP l i hil]
  rfl
theorem own_spec (l : List S41) (hl : l.length ≤ 1000) (hc : ∀ p ∈ l, p.f4.length ≤ 1000) : Ev (fun k => qkb.f k l) (l.map toP) := own_l0 l hl hc l.length 0 (by omega)
def condOK (c : S33) : Bool := nm nameO c.f0.data.toList && decide (c.f1.size ≤ 65536) && (c.f2 || c.f1.data.toList.isEmpty)
def partOK (p : S41) : Bool := (p.f2.data.toList.isEmpty || nm tagO p.f2.data.toList) && (p.f1 == !p.f3.data.toList.isEmpty) && decide (p.f3.size ≤ 65536) && decide (p.f4.length ≤ 8) && p.f4.all condOK
def selOK (l : List S41) : Bool := !l.isEmpty && decide (l.length ≤ 8) && !(match l with | [] => false | p :: _ => p.f0) && l.all partOK
theorem toList_isEmpty (s : ByteArray) : (s.toList == ([] : List UInt8)) = s.data.toList.isEmpty := by
 rw [Lib.toList_data]
 cases s.data.toList <;> rfl
theorem right1_spec (c : S33) (k : Nat) (hk : 40 ≤ k) : query_Part_right_1.f k c.f0 c.f1 c.f2 = some (!condOK c) := by
 unfold query_Part_right_1.f qxb.f condOK
 rw [name_spec _ k hk]
 have e : (c.f1.toList != ([] : List UInt8)) = !c.f1.data.toList.isEmpty := by rw [bne, toList_isEmpty]
 rw [e]
 simp only [Option.bind_some]
 have e2 : decide ((c.f1.size : Int) ≤ 65536) = decide (c.f1.size ≤ 65536) := by rw [Bool.eq_iff_iff, decide_eq_true_iff, decide_eq_true_iff]; omega
 rw [e2]
 cases nm nameO c.f0.data.toList <;> cases decide (c.f1.size ≤ 65536) <;> cases c.f2 <;> cases c.f1.data.toList.isEmpty <;> rfl
theorem idx_spec : ∀ (l : List S33) (i : Int), 0 ≤ i → ∃ j, qrb.idx l i = some j ∧ (decide (0 ≤ j) = !(l.all condOK))
 | [], i, hi => ⟨-1, rfl, rfl⟩
 | c :: r, i, hi => by
  unfold qrb.idx
  rw [right1_spec c 64 (by decide)]
  simp only [Option.bind_some, List.all_cons]
  cases condOK c
  ·refine ⟨i, rfl, ?_⟩
   simp [hi]
  ·obtain ⟨j, hj, he⟩ := idx_spec r (i + 1) (by omega)
   exact ⟨j, by simpa using hj, by simpa using he⟩
theorem right_spec (p : S41) : qrb.f p.f0 p.f1 p.f2 p.f3 p.f4 = some (partOK p) := by
 obtain ⟨j, hj, he⟩ := idx_spec p.f4 0 (Int.le_refl _)
 unfold qrb.f partOK
 rw [tag_spec _ 64 (by decide), hj]
 simp only [Option.bind_some, he, toList_isEmpty]
 have e2 : decide ((p.f3.size : Int) ≤ 65536) = decide (p.f3.size ≤ 65536) := by rw [Bool.eq_iff_iff, decide_eq_true_iff, decide_eq_true_iff]; omega
 have e3 : (!decide (8 < (p.f4.length : Int))) = decide (p.f4.length ≤ 8) := by
  rw [Bool.eq_iff_iff]; simp; omega
 rw [e2, e3]
 congr 1
 cases (p.f2.data.toList.isEmpty || nm tagO p.f2.data.toList) <;> cases p.f1 <;> cases p.f3.data.toList.isEmpty <;> cases decide (p.f3.size ≤ 65536) <;> cases decide (p.f4.length ≤ 8) <;> cases p.f4.all condOK <;> rfl
theorem check_l0 (l : List S41) (hl : l.length ≤ 8) (d : Nat) : ∀ (k i : Nat), i + d = l.length → d < k → qx.l0 k l (l.length : Int) (i : Int) = some (if (l.drop i).all partOK = true then 0 else 2) := by
 induction d with
 | zero =>
  intro k i hi hk
  obtain ⟨k, rfl⟩ : ∃ m, k = m + 1 := ⟨k - 1, by omega⟩
  rw [qx.l0, if_neg (by omega), List.drop_eq_nil_of_le (by omega)]
  rfl
 | succ d ih =>
  intro k i hi hk
  obtain ⟨k, rfl⟩ : ∃ m, k = m + 1 := ⟨k - 1, by omega⟩
  have hil : i < l.length := by omega
  have hw : wrap64 ((i : Int) + 1) = ((i + 1 : Nat) : Int) := by rw [w64 (by omega) (by omega)]; omega
  rw [qx.l0, if_pos (by omega), if_pos (by omega), if_pos (by omega), rdP l i hil, right_spec, List.drop_eq_getElem_cons hil, List.all_cons]
  simp only [Option.bind_some, hw, ih k (i + 1) (by omega) (by omega)]
  cases partOK l[i] <;> simp
theorem check_spec (l : List S41) (k : Nat) (hk : 12 ≤ k) : qx.f k l = some (if selOK l = true then 0 else 2) := by
 obtain ⟨k, rfl⟩ : ∃ m, k = m + 1 := ⟨k - 1, by omega⟩
 unfold qx.f selOK
 cases l with
 | nil => simp [qx.j0]
 | cons p r =>
  rw [if_neg (by simp only [List.length_cons]; omega)]
  by_cases h8 : ((p :: r).length : Int) > 8
  ·rw [if_pos h8]
   simp only [qx.j0, if_true]
   have : decide ((p :: r).length ≤ 8) = false := decide_eq_false (by omega)
   rw [this]
   simp
  ·rw [if_neg h8, if_pos (show (0 : Int) < (((p :: r).length : Nat) : Int) by have : 0 < (p :: r).length := Nat.succ_pos _; omega)]
   have h0 := rdP (p :: r) 0 (by simp)
   simp only [Int.natCast_zero, List.getElem_cons_zero] at h0
   rw [h0]
   have h1 := check_l0 (p :: r) (by omega) (p :: r).length k 0 (by omega) (by omega)
   simp only [Int.natCast_zero, List.drop_zero] at h1
   simp only [qx.j0, h1]
   have : decide ((p :: r).length ≤ 8) = true := decide_eq_true (by omega)
   rw [this]
   obtain ⟨p0, p1, p2, p3, p4⟩ := p
   dsimp only
   cases p0 <;> cases (⟨_, p1, p2, p3, p4⟩ :: r : List S41).all partOK <;> rfl
def headOK (p : S41) : Bool := (p.f2.data.toList.isEmpty || nm tagO p.f2.data.toList) && (p.f1 == !p.f3.data.toList.isEmpty) && decide (p.f3.size ≤ 65536) && decide (p.f4.length ≤ 8)
theorem partOK_head (p : S41) : partOK p = (headOK p && p.f4.all condOK) := rfl
theorem rd_map (l : List S41) (i : Nat) (h : i < l.length) : qg (l.map toP) (i : Int) = toP l[i] := by
 rw [rdQ _ i (by rw [List.length_map]; exact h), List.getElem_map]
theorem rd_mapC (l : List S33) (i : Nat) (h : i < l.length) : qgb (l.map toC) (i : Int) = toC l[i] := by
 rw [rdD _ i (by rw [List.length_map]; exact h), List.getElem_map]
theorem toList_empty (s : ByteArray) : s.toList = ([] : List UInt8) ↔ s.data.toList.isEmpty = true := by rw [Lib.toList_data, List.isEmpty_iff]
theorem rc_head (l : List S41) (n : Int) (k i : Nat) (hk : 41 ≤ k) (hn : (i : Int) < n) (hi : i < l.length) :
  qn.l0 (k + 1) (l.map toP) n (i : Int) = qn.j2 k (l.map toP) n (i : Int) (!headOK l[i]) l[i].f0 l[i].f1 l[i].f2 l[i].f3 (l[i].f4.map toC) := by
 rw [qn.l0, if_pos hn, if_pos (by omega), if_pos (by rw [List.length_map]; omega), rd_map l i hi, Named_spec _ _ k (by omega)]
 generalize l[i] = p
 obtain ⟨p0, p1, p2, p3, p4⟩ := p
 unfold toP headOK
 simp only [Option.bind_some, Bool.false_eq_true, if_false, toList_empty, List.length_map]
 have e1 : decide ((p4.length : Int) > 8) = !decide (p4.length ≤ 8) := by rw [Bool.eq_iff_iff]; simp; omega
 rw [e1]
 have e2 : ((p3.size : Int) > 65536) ↔ decide (p3.size ≤ 65536) = false := by rw [decide_eq_false_iff_not]; omega
 simp only [e2]
 cases p2.data.toList.isEmpty <;> cases nm tagO p2.data.toList <;> cases p1 <;> cases p3.data.toList.isEmpty <;> cases decide (p3.size ≤ 65536) <;> cases decide (p4.length ≤ 8) <;> rfl
theorem rc_cond (l : List S41) (n m : Int) (cs : List S33) (k i j : Nat) (hk : 41 ≤ k) (hm : (j : Int) < m) (hj : j < cs.length) (b0 b1 : Bool) (s2 s3 : ByteArray) :
  qn.l1 (k + 1) (l.map toP) n (i : Int) m (j : Int) b0 b1 s2 s3 (cs.map toC) = if condOK cs[j] = true then qn.l1 k (l.map toP) n (i : Int) m (wrap64 ((j : Int) + 1)) b0 b1 s2 s3 (cs.map toC) else some false := by
 rw [qn.l1, if_pos hm, if_pos (by omega), if_pos (by rw [List.length_map]; omega), rd_mapC cs j hj, Named_spec _ _ k (by omega)]
 generalize cs[j] = c
 obtain ⟨c0, c1, c2⟩ := c
 unfold toC condOK
 simp only [Option.bind_some, if_true, toList_empty]
 have e2 : ((c1.size : Int) > 65536) ↔ decide (c1.size ≤ 65536) = false := by rw [decide_eq_false_iff_not]; omega
 simp only [e2]
 cases nm nameO c0.data.toList <;> cases decide (c1.size ≤ 65536) <;> cases c2 <;> cases c1.data.toList.isEmpty <;> rfl
theorem Ev.late {α : Type} {g f : Nat → Option α} {r : α} (K : Nat) (h : ∀ k, K ≤ k → g (k + 1) = f k) (k : Ev f r) : Ev g r := by
 obtain ⟨K1, h1⟩ := k
 refine ⟨K + K1 + 1, fun m hm => ?_⟩
 obtain ⟨m, rfl⟩ : ∃ q, m = q + 1 := ⟨m - 1, by omega⟩
 rw [h m (by omega)]
 exact h1 m (by omega)
theorem rc_l1 (l : List S41) (n : Int) (cs : List S33) (hc : cs.length ≤ 8) (i : Nat) (hi : i ≤ 100) (b0 b1 : Bool) (s2 s3 : ByteArray) (r : Bool) (hr : Ev (fun k => qn.l0 k (l.map toP) n ((i + 1 : Nat) : Int)) r) (d : Nat) :
  ∀ j : Nat, j + d = cs.length → Ev (fun k => qn.l1 k (l.map toP) n (i : Int) (cs.length : Int) (j : Int) b0 b1 s2 s3 (cs.map toC)) ((cs.drop j).all condOK && r) := by
 have hw : wrap64 ((i : Int) + 1) = ((i + 1 : Nat) : Int) := by rw [w64 (by omega) (by omega)]; omega
 induction d with
 | zero =>
  intro j hj
  rw [List.drop_eq_nil_of_le (by omega)]
  refine Ev.step (fun k => ?_) hr
  rw [qn.l1, if_neg (by omega), hw]
 | succ d ih =>
  intro j hj
  have hjl : j < cs.length := by omega
  have hw2 : wrap64 ((j : Int) + 1) = ((j + 1 : Nat) : Int) := by rw [w64 (by omega) (by omega)]; omega
  have h1 := ih (j + 1) (by omega)
  rw [List.drop_eq_getElem_cons hjl, List.all_cons]
  cases hb : condOK cs[j]
  ·refine Ev.late 41 (fun k hk => ?_) (Ev.now _)
   rw [rc_cond l n _ cs k i j hk (by omega) hjl, hb]
   rfl
  ·rw [Bool.true_and]
   refine Ev.late 41 (fun k hk => ?_) h1
   rw [rc_cond l n _ cs k i j hk (by omega) hjl, hb, hw2]
   rfl
theorem rc_l0 (l : List S41) (hl : l.length ≤ 8) (d : Nat) : ∀ i : Nat, i + d = l.length → Ev (fun k => qn.l0 k (l.map toP) (l.length : Int) (i : Int)) ((l.drop i).all partOK) := by
 induction d with
 | zero =>
  intro i hi
  rw [List.drop_eq_nil_of_le (by omega)]
  refine Ev.step (fun k => ?_) (Ev.now _)
  rw [qn.l0, if_neg (by omega)]
  rfl
 | succ d ih =>
  intro i hi
  have hil : i < l.length := by omega
  rw [List.drop_eq_getElem_cons hil, List.all_cons, partOK_head]
  refine Ev.late 41 (fun k hk => rc_head l _ k i hk (by omega) hil) ?_
  cases hh : headOK l[i]
  ·refine Ev.step (fun k => ?_) (Ev.now _)
   simp only [qn.j2, Bool.not_false, if_true]
   rfl
  ·have hc : l[i].f4.length ≤ 8 := by
    unfold headOK at hh
    simp only [Bool.and_eq_true, decide_eq_true_eq] at hh
    exact hh.2
   have h2 := rc_l1 l (l.length : Int) l[i].f4 hc i (by omega) l[i].f0 l[i].f1 l[i].f2 l[i].f3 _ (ih (i + 1) (by omega)) l[i].f4.length 0 (by omega)
   rw [List.drop_zero] at h2
   rw [Bool.true_and]
   refine Ev.step (fun k => ?_) h2
   simp only [qn.j2, Bool.not_true, Bool.false_eq_true, if_false, List.length_map]
   rfl
theorem rcheck_spec (l : List S41) : Ev (fun k => qn.f k (l.map toP)) (selOK l) := by
 cases l with
 | nil =>
  refine Ev.step (f := fun _ => some false) (fun k => ?_) (Ev.now _)
  simp [qn.f, qn.j0]
 | cons p r =>
  have hlen : (((p :: r).map toP).length : Int) = ((p :: r).length : Int) := by rw [List.length_map]
  have hpos : 0 < (p :: r).length := Nat.succ_pos _
  by_cases h8 : (p :: r).length ≤ 8
  ·have h0 := rd_map (p :: r) 0 (by simp)
   simp only [Int.natCast_zero, List.getElem_cons_zero] at h0
   have h1 := rc_l0 (p :: r) h8 (p :: r).length 0 (by omega)
   simp only [Int.natCast_zero, List.drop_zero] at h1
   have hd : decide ((p :: r).length ≤ 8) = true := decide_eq_true h8
   cases hp : p.f0
   ·have e : selOK (p :: r) = (p :: r).all partOK := by
     unfold selOK
     rw [hd]
     simp [hp]
    rw [e]
    refine Ev.step (fun k => ?_) h1
    unfold qn.f
    rw [hlen, if_neg (by omega), if_neg (by omega), if_pos (by omega), h0, show (toP p).f0 = p.f0 from rfl, hp]
    simp only [qn.j0, Bool.false_eq_true, if_false, hlen]
   ·have e : selOK (p :: r) = false := by
     unfold selOK
     simp [hp]
    rw [e]
    refine Ev.step (f := fun _ => some false) (fun k => ?_) (Ev.now _)
    unfold qn.f
    rw [hlen, if_neg (by omega), if_neg (by omega), if_pos (by omega), h0, show (toP p).f0 = p.f0 from rfl, hp]
    simp only [qn.j0, if_true]
  ·have e : selOK (p :: r) = false := by
    unfold selOK
    rw [decide_eq_false h8]
    simp
   rw [e]
   refine Ev.step (f := fun _ => some false) (fun k => ?_) (Ev.now _)
   unfold qn.f
   rw [hlen, if_neg (by omega), if_pos (by omega)]
   simp only [qn.j0, if_true]
end Go.Proofs.YtjbobecnlpiejaaDoor.Q.P
namespace Go.Proofs.YtjbobecnlpiejaaDoor.Q
open Go.Proofs.YtjbobecnlpiejaaDoorZ
open Go.RowKit Go.Proofs.YtjbobecnlpiejaaDoorW.PrintWords Go.Proofs.YtjbobecnlpiejaaDoorW.PrintLast Go.Proofs.YtjbobecnlpiejaaDoorW.PrintMore
attribute [local go_sem] qvb qwb qzb qyb
def qfb.l0 : Nat → Int → ByteArray → Bool → Option (ByteArray)
 | 0, _, _, _ => none
 | k + 1, x0, x3, x4 => if x0 = 0 then (if x4 = true then (if 1 + x3.size ≤ 9223372036854775807 then (some ((⟨#[45]⟩ : ByteArray) ++ x3)) else (none)) else (some x3)) else (if (Int.tmod x0 10) < 0 then ((some (([(wrap64 (48 + (wrap64 (-(Int.tmod x0 10))))) % 256] : List Int) : List Int)).bind fun y347 => (if (strOfNums y347).size + x3.size ≤ 9223372036854775807 then (qfb.l0 k (wrap64 (Int.tdiv x0 10)) ((strOfNums y347) ++ x3) x4) else (none))) else ((some (([(wrap64 (48 + (Int.tmod x0 10))) % 256] : List Int) : List Int)).bind fun y350 => (if (strOfNums y350).size + x3.size ≤ 9223372036854775807 then (qfb.l0 k (wrap64 (Int.tdiv x0 10)) ((strOfNums y350) ++ x3) x4) else (none))))
def qfb.f (k : Nat) (a0 : Int) : Option (ByteArray) := if a0 = 0 then (some (⟨#[48]⟩ : ByteArray)) else (qfb.l0 k a0 (⟨#[]⟩ : ByteArray) (decide (a0 < 0)))
theorem qfb.mono_l : ∀ k, (∀ y0 y1 y2, LeO (qfb.l0 k y0 y1 y2) (qfb.l0 (k + 1) y0 y1 y2))
 | 0 => fun _ _ _ r h => by simp [qfb.l0] at h
 | k + 1 => by
  have ih0 := qfb.mono_l k
  ·intro y0 y1 y2
   unfold qfb.l0
   repeat' first
   | (with_reducible exact ih0 _ _ _)
   | (with_reducible exact LeO.refl _)
   | (with_reducible exact LeO.none _)
   | (with_reducible refine LeO.ite ?_ ?_)
   | (with_reducible refine LeO.bind ?_ (fun _ => ?_))
   | exact ih0 _ _ _
   | exact LeO.none _
   | refine LeO.ite ?_ ?_
   | refine LeO.bind ?_ (fun _ => ?_)
theorem qfb.mono : ∀ a0 k, LeO (qfb.f k a0) (qfb.f (k + 1) a0) := by
 intro a0 k
 have ih0 := qfb.mono_l k
 unfold qfb.f
 repeat' first
   | (with_reducible exact ih0 _ _ _)
   | (with_reducible exact LeO.refl _)
   | (with_reducible exact LeO.none _)
   | (with_reducible refine LeO.ite ?_ ?_)
   | (with_reducible refine LeO.bind ?_ (fun _ => ?_))
   | exact ih0 _ _ _
   | exact LeO.none _
   | refine LeO.ite ?_ ?_
   | refine LeO.bind ?_ (fun _ => ?_)
set_option maxHeartbeats 8000000 in
set_option maxRecDepth 100000 in
theorem qfb.calls (k : Nat) (a0 : Int) (r : ByteArray) (w : World) (h : qfb.f k a0 = some r) :
  Calls Tryd.prog 63 #[.int .i64 a0] w fun e w' => e = .returned (.string r) ∧ Below w.heap.size w w' := by
 have HB := qa.mk (Below.refl w.heap.size w)
 have H : (if a0 = 0 then (some (⟨#[48]⟩ : ByteArray)) else (qfb.l0 k a0 (⟨#[]⟩ : ByteArray) (decide (a0 < 0)))) = some r := h
 clear h
 by_cases c2 : a0 = 0
 ·rw [if_pos c2] at H
  have c2b0 : (a0 == 0) = true := beq_iff_eq.mpr c2
  have c2b1 : (a0 != 0) = false := bne_eq_false_iff_eq.mpr c2
  clear c2
  obtain rfl := Option.some.inj H
  go_enter Tryd.func63, Tryd.ntmps63
  go_wp2
  go_ret
  exact ⟨zz103, zz53⟩
 ·rw [if_neg c2] at H
  have c2b0 : (a0 == 0) = false := beq_eq_false_iff_ne.mpr c2
  have c2b1 : (a0 != 0) = true := bne_iff_ne.mpr c2
  have H' := qa.mk H
  clear H
  go_enter Tryd.func63, Tryd.ntmps63
  go_wp2
  go_loopg [0, 3] k (fun kq v0 v3 w' => ∃ (x0_1 : Int) (x3_1 : ByteArray), v0 = .int .i64 x0_1 ∧ v3 = .string x3_1 ∧ qa (qfb.l0 kq x0_1 x3_1 (decide (a0 < 0)) = some r) ∧ qa (kq ≤ k) ∧ qa (Below w.heap.size w w'))
  case atStart => exact ⟨(a0), ((⟨#[]⟩ : ByteArray)), zz7, zz7, H', ⟨Nat.le_refl _⟩, ⟨zz53⟩⟩
  case round =>
   clear H'
   try clear c2
   try clear c2b0
   try clear c2b1
   try clear p2
   obtain ⟨x0_1, x3_1, rfl, rfl, HA, HK1, HB⟩ := hrel
   cases gk with
   | zero => exact absurd HA.out (by simp [qfb.l0])
   | succ k1 =>
    have H := HA.out
    clear HA
    simp only [qfb.l0] at H
    by_cases c3 : x0_1 = 0
    ·rw [if_pos c3] at H
     have c3b0 : (x0_1 == 0) = true := beq_iff_eq.mpr c3
     have c3b1 : (x0_1 != 0) = false := bne_eq_false_iff_eq.mpr c3
     clear c3
     by_cases c4 : (decide (a0 < 0)) = true
     ·rw [if_pos c4] at H
      (try have c4d := of_decide_eq_true c4)
      have c4b0 : (decide (a0 < 0)) = true := c4
      clear c4
      by_cases c5 : 1 + x3_1.size ≤ 9223372036854775807
      ·rw [if_pos c5] at H
       have c5b0 := eq_true c5
       have c5b1 : decide (1 + x3_1.size ≤ 9223372036854775807) = true := decide_eq_true c5
       try have c5b2 : (9223372036854775807 < 1 + x3_1.size) = False := eq_false (Nat.not_lt.2 c5)
       obtain rfl := Option.some.inj H
       go_wp2
       go_ret
       exact ⟨zz103, zz53⟩
      ·rw [if_neg c5] at H
       exact absurd H (by simp)
     ·rw [if_neg c4] at H
      (try have c4d := of_decide_eq_false (Bool.eq_false_iff.mpr c4))
      have c4b0 : (decide (a0 < 0)) = false := by simpa using c4
      clear c4
      obtain rfl := Option.some.inj H
      go_wp2
      go_ret
      exact ⟨zz103, zz53⟩
    ·rw [if_neg c3] at H
     have c3b0 : (x0_1 == 0) = false := beq_eq_false_iff_ne.mpr c3
     have c3b1 : (x0_1 != 0) = true := bne_iff_ne.mpr c3
     by_cases c6 : (Int.tmod x0_1 10) < 0
     ·rw [if_pos c6] at H
      have c6b0 : decide ((Int.tmod x0_1 10) < 0) = true := decide_eq_true c6
      clear c6
      obtain ⟨y347, hy347⟩ : ∃ y_ : List Int, y_ = (([(wrap64 (48 + (wrap64 (-(Int.tmod x0_1 10))))) % 256] : List Int)) := ⟨_, rfl⟩
      replace H : (if (strOfNums y347).size + x3_1.size ≤ 9223372036854775807 then (qfb.l0 k1 (wrap64 (Int.tdiv x0_1 10)) ((strOfNums y347) ++ x3_1) (decide (a0 < 0))) else (none)) = some r := by first | (rw [hy347]; with_reducible exact H) | (have H2_ := (Option.bind_some _ _).symm.trans H; rw [hy347]; with_reducible exact H2_) | (have H2_ := (Option.bind_some _ _).symm.trans H; with_reducible exact H2_) | with_reducible exact H | (rw [hy347]; exact H) | exact H
      have Ny347 := qa.mk hy347
      clear hy347
      by_cases c7 : (strOfNums y347).size + x3_1.size ≤ 9223372036854775807
      ·rw [if_pos c7] at H
       have c7b0 := eq_true c7
       have c7b1 : decide ((strOfNums y347).size + x3_1.size ≤ 9223372036854775807) = true := decide_eq_true c7
       try have c7b2 : (9223372036854775807 < (strOfNums y347).size + x3_1.size) = False := eq_false (Nat.not_lt.2 c7)
       have H' := qa.mk H
       clear H
       go_wp2_with (first | ((with_reducible refine qeb (N := 21) rfl ?_); refine Kd.R_lit (Kd.int .u8) _ 5 ?hg (N := 21) ?hd (xs := ([(wrap64 (48 + (wrap64 (-(Int.tmod x0_1 10))))) % 256] : List Int)) (inner := [.int .u8 ((wrap64 (48 + (wrap64 (-(Int.tmod x0_1 10))))) % 256)]) (ok := fun _ => True) (okp := fun _ => True) ?hr ?hp (fun _ hk => hk) trivial (Below.refl _ _) (Nat.le_refl _) (by simp) ?_; (case hd => rfl); (case hg => rfl); (case hr => exact zz6); (case hp => exact (Reps.one (show Kd.M (Kd.int .u8) _ _ _ ((wrap64 (48 + (wrap64 (-(Int.tmod x0_1 10))))) % 256) [.int .u8 ((wrap64 (48 + (wrap64 (-(Int.tmod x0_1 10))))) % 256)] from rfl) (Reps.none _ _))); intro v348 w8 ho9 hb hg_ hnew_; clear hg_ hnew_; (first | rw [← Ny347.out] at ho9 | (simp only [Int.reduceToNat] at ho9; rw [← Ny347.out] at ho9)); have n0_ := qa.mk (Kd.R_lower ho9 (qo zz53)); have n1_ := qa.mk (qp zz53 hb); clear HB; have HO349 := n0_; have HB := n1_; clear n0_ n1_; clear hb ho9; have hcv10 := own_string (P := Tryd.prog) Tryd.underlying69 Tryd.underlying5 Tryd.underlying9 (Kd.own_of_R HO349.out)))
       go_roundg k1
       case measure => have := HK1.out; omega
       case rel => exact ⟨(wrap64 (Int.tdiv x0_1 10)), ((strOfNums y347) ++ x3_1), zz7, zz7, H', ⟨zz2⟩, ⟨zz53⟩⟩
      ·rw [if_neg c7] at H
       exact absurd H (by simp)
     ·rw [if_neg c6] at H
      have c6b0 : decide ((Int.tmod x0_1 10) < 0) = false := decide_eq_false c6
      clear c6
      obtain ⟨y350, hy350⟩ : ∃ y_ : List Int, y_ = (([(wrap64 (48 + (Int.tmod x0_1 10))) % 256] : List Int)) := ⟨_, rfl⟩
      replace H : (if (strOfNums y350).size + x3_1.size ≤ 9223372036854775807 then (qfb.l0 k1 (wrap64 (Int.tdiv x0_1 10)) ((strOfNums y350) ++ x3_1) (decide (a0 < 0))) else (none)) = some r := by first | (rw [hy350]; with_reducible exact H) | (have H2_ := (Option.bind_some _ _).symm.trans H; rw [hy350]; with_reducible exact H2_) | (have H2_ := (Option.bind_some _ _).symm.trans H; with_reducible exact H2_) | with_reducible exact H | (rw [hy350]; exact H) | exact H
      have Ny350 := qa.mk hy350
      clear hy350
      by_cases c11 : (strOfNums y350).size + x3_1.size ≤ 9223372036854775807
      ·rw [if_pos c11] at H
       have c11b0 := eq_true c11
       have c11b1 : decide ((strOfNums y350).size + x3_1.size ≤ 9223372036854775807) = true := decide_eq_true c11
       try have c11b2 : (9223372036854775807 < (strOfNums y350).size + x3_1.size) = False := eq_false (Nat.not_lt.2 c11)
       have H' := qa.mk H
       clear H
       go_wp2_with (first | ((with_reducible refine qeb (N := 21) rfl ?_); refine Kd.R_lit (Kd.int .u8) _ 5 ?hg (N := 21) ?hd (xs := ([(wrap64 (48 + (Int.tmod x0_1 10))) % 256] : List Int)) (inner := [.int .u8 ((wrap64 (48 + (Int.tmod x0_1 10))) % 256)]) (ok := fun _ => True) (okp := fun _ => True) ?hr ?hp (fun _ hk => hk) trivial (Below.refl _ _) (Nat.le_refl _) (by simp) ?_; (case hd => rfl); (case hg => rfl); (case hr => exact zz6); (case hp => exact (Reps.one (show Kd.M (Kd.int .u8) _ _ _ ((wrap64 (48 + (Int.tmod x0_1 10))) % 256) [.int .u8 ((wrap64 (48 + (Int.tmod x0_1 10))) % 256)] from rfl) (Reps.none _ _))); intro v351 w12 ho13 hb hg_ hnew_; clear hg_ hnew_; (first | rw [← Ny350.out] at ho13 | (simp only [Int.reduceToNat] at ho13; rw [← Ny350.out] at ho13)); have n0_ := qa.mk (Kd.R_lower ho13 (qo zz53)); have n1_ := qa.mk (qp zz53 hb); clear HB; have HO352 := n0_; have HB := n1_; clear n0_ n1_; clear hb ho13; have hcv14 := own_string (P := Tryd.prog) Tryd.underlying69 Tryd.underlying5 Tryd.underlying9 (Kd.own_of_R HO352.out)))
       go_roundg k1
       case measure => have := HK1.out; omega
       case rel => exact ⟨(wrap64 (Int.tdiv x0_1 10)), ((strOfNums y350) ++ x3_1), zz7, zz7, H', ⟨zz2⟩, ⟨zz53⟩⟩
      ·rw [if_neg c11] at H
       exact absurd H (by simp)
def qtc.f (k : Nat) (a0 : Int) : Option (ByteArray) := if a0 = 38 then (some (⟨#[38, 97, 109, 112, 59]⟩ : ByteArray)) else (if a0 = 60 then (some (⟨#[38, 108, 116, 59]⟩ : ByteArray)) else (if a0 = 62 then (some (⟨#[38, 103, 116, 59]⟩ : ByteArray)) else (if a0 = 34 then (some (⟨#[38, 113, 117, 111, 116, 59]⟩ : ByteArray)) else (if a0 < 32 then ((qfb.f k (wrap64 (a0))).bind fun t353 => (if 2 + t353.size ≤ 9223372036854775807 then (if (2 + t353.size) + 1 ≤ 9223372036854775807 then (some (((⟨#[38, 35]⟩ : ByteArray) ++ t353) ++ (⟨#[59]⟩ : ByteArray))) else (none)) else (none))) else (if a0 = 127 then ((qfb.f k (wrap64 (a0))).bind fun t354 => (if 2 + t354.size ≤ 9223372036854775807 then (if (2 + t354.size) + 1 ≤ 9223372036854775807 then (some (((⟨#[38, 35]⟩ : ByteArray) ++ t354) ++ (⟨#[59]⟩ : ByteArray))) else (none)) else (none))) else (some (strOfNums (([a0] : List Int)))))))))
theorem qtc.mono : ∀ a0 k, LeO (qtc.f k a0) (qtc.f (k + 1) a0) := by
 intro a0 k
 unfold qtc.f
 repeat' first
   | (with_reducible exact qfb.mono _ _)
   | (with_reducible exact LeO.refl _)
   | (with_reducible exact LeO.none _)
   | (with_reducible refine LeO.ite ?_ ?_)
   | (with_reducible refine LeO.bind ?_ (fun _ => ?_))
   | exact qfb.mono _ _
   | exact LeO.none _
   | refine LeO.ite ?_ ?_
   | refine LeO.bind ?_ (fun _ => ?_)
set_option maxHeartbeats 8000000 in
set_option maxRecDepth 100000 in
theorem qtc.calls (k : Nat) (a0 : Int) (r : ByteArray) (w : World) (h : qtc.f k a0 = some r) :
  Calls Tryd.prog 48 #[.int .u8 a0] w fun e w' => e = .returned (.string r) ∧ Below w.heap.size w w' := by
 have HB := qa.mk (Below.refl w.heap.size w)
 have H : (if a0 = 38 then (some (⟨#[38, 97, 109, 112, 59]⟩ : ByteArray)) else (if a0 = 60 then (some (⟨#[38, 108, 116, 59]⟩ : ByteArray)) else (if a0 = 62 then (some (⟨#[38, 103, 116, 59]⟩ : ByteArray)) else (if a0 = 34 then (some (⟨#[38, 113, 117, 111, 116, 59]⟩ : ByteArray)) else (if a0 < 32 then ((qfb.f k (wrap64 (a0))).bind fun t353 => (if 2 + t353.size ≤ 9223372036854775807 then (if (2 + t353.size) + 1 ≤ 9223372036854775807 then (some (((⟨#[38, 35]⟩ : ByteArray) ++ t353) ++ (⟨#[59]⟩ : ByteArray))) else (none)) else (none))) else (if a0 = 127 then ((qfb.f k (wrap64 (a0))).bind fun t354 => (if 2 + t354.size ≤ 9223372036854775807 then (if (2 + t354.size) + 1 ≤ 9223372036854775807 then (some (((⟨#[38, 35]⟩ : ByteArray) ++ t354) ++ (⟨#[59]⟩ : ByteArray))) else (none)) else (none))) else (some (strOfNums (([a0] : List Int)))))))))) = some r := h
 clear h
 by_cases c2 : a0 = 38
 ·rw [if_pos c2] at H
  have c2b0 : (a0 == 38) = true := beq_iff_eq.mpr c2
  have c2b1 : (a0 != 38) = false := bne_eq_false_iff_eq.mpr c2
  clear c2
  obtain rfl := Option.some.inj H
  go_enter Tryd.func48, Tryd.ntmps48
  go_wp2
  go_ret
  exact ⟨zz103, zz53⟩
 ·rw [if_neg c2] at H
  have c2b0 : (a0 == 38) = false := beq_eq_false_iff_ne.mpr c2
  have c2b1 : (a0 != 38) = true := bne_iff_ne.mpr c2
  by_cases c3 : a0 = 60
  ·rw [if_pos c3] at H
   have c3b0 : (a0 == 60) = true := beq_iff_eq.mpr c3
   have c3b1 : (a0 != 60) = false := bne_eq_false_iff_eq.mpr c3
   clear c3
   obtain rfl := Option.some.inj H
   go_enter Tryd.func48, Tryd.ntmps48
   go_wp2
   go_ret
   exact ⟨zz103, zz53⟩
  ·rw [if_neg c3] at H
   have c3b0 : (a0 == 60) = false := beq_eq_false_iff_ne.mpr c3
   have c3b1 : (a0 != 60) = true := bne_iff_ne.mpr c3
   by_cases c4 : a0 = 62
   ·rw [if_pos c4] at H
    have c4b0 : (a0 == 62) = true := beq_iff_eq.mpr c4
    have c4b1 : (a0 != 62) = false := bne_eq_false_iff_eq.mpr c4
    clear c4
    obtain rfl := Option.some.inj H
    go_enter Tryd.func48, Tryd.ntmps48
    go_wp2
    go_ret
    exact ⟨zz103, zz53⟩
   ·rw [if_neg c4] at H
    have c4b0 : (a0 == 62) = false := beq_eq_false_iff_ne.mpr c4
    have c4b1 : (a0 != 62) = true := bne_iff_ne.mpr c4
    by_cases c5 : a0 = 34
    ·rw [if_pos c5] at H
     have c5b0 : (a0 == 34) = true := beq_iff_eq.mpr c5
     have c5b1 : (a0 != 34) = false := bne_eq_false_iff_eq.mpr c5
     clear c5
     obtain rfl := Option.some.inj H
     go_enter Tryd.func48, Tryd.ntmps48
     go_wp2
     go_ret
     exact ⟨zz103, zz53⟩
    ·rw [if_neg c5] at H
     have c5b0 : (a0 == 34) = false := beq_eq_false_iff_ne.mpr c5
     have c5b1 : (a0 != 34) = true := bne_iff_ne.mpr c5
     by_cases c6 : a0 < 32
     ·rw [if_pos c6] at H
      have c6b0 : decide (a0 < 32) = true := decide_eq_true c6
      clear c6
      replace H := Option.bind_eq_some_iff.mp H
      obtain ⟨t353, A70, H⟩ := H
      replace H : (if 2 + t353.size ≤ 9223372036854775807 then (if (2 + t353.size) + 1 ≤ 9223372036854775807 then (some (((⟨#[38, 35]⟩ : ByteArray) ++ t353) ++ (⟨#[59]⟩ : ByteArray))) else (none)) else (none)) = some r := H
      have A7 := qa.mk A70
      clear A70
      by_cases c8 : 2 + t353.size ≤ 9223372036854775807
      ·rw [if_pos c8] at H
       have c8b0 := eq_true c8
       have c8b1 : decide (2 + t353.size ≤ 9223372036854775807) = true := decide_eq_true c8
       try have c8b2 : (9223372036854775807 < 2 + t353.size) = False := eq_false (Nat.not_lt.2 c8)
       by_cases c9 : (2 + t353.size) + 1 ≤ 9223372036854775807
       ·rw [if_pos c9] at H
        have c9b0 := eq_true c9
        have c9b1 : decide ((2 + t353.size) + 1 ≤ 9223372036854775807) = true := decide_eq_true c9
        try have c9b2 : (9223372036854775807 < (2 + t353.size) + 1) = False := eq_false (Nat.not_lt.2 c9)
        obtain rfl := Option.some.inj H
        go_enter Tryd.func48, Tryd.ntmps48
        go_wp2_with (first | ((with_reducible refine qy (f := 63) rfl ?_); refine qqb (some 19) rfl rfl Tryd.func63 (by kernel_rfl) rfl #[.int .i64 (wrap64 (a0))] rfl zz94 ?_; (with_reducible refine (qfb.calls k (wrap64 (a0)) t353 _ A7.out).mono ?_); rintro e w10 ⟨rfl, hb⟩; refine ⟨_, rfl, ?_⟩; have n0_ := qa.mk (qp zz53 hb); clear HB; have HB := n0_; clear n0_; (try clear hb); (try clear hb2); (try clear hk); (try clear hi)))
        go_ret
        exact ⟨zz103, zz53⟩
       ·rw [if_neg c9] at H
        exact absurd H (by simp)
      ·rw [if_neg c8] at H
       exact absurd H (by simp)
     ·rw [if_neg c6] at H
      have c6b0 : decide (a0 < 32) = false := decide_eq_false c6
      clear c6
      by_cases c11 : a0 = 127
      ·rw [if_pos c11] at H
       have c11b0 : (a0 == 127) = true := beq_iff_eq.mpr c11
       have c11b1 : (a0 != 127) = false := bne_eq_false_iff_eq.mpr c11
       clear c11
       replace H := Option.bind_eq_some_iff.mp H
       obtain ⟨t354, A120, H⟩ := H
       replace H : (if 2 + t354.size ≤ 9223372036854775807 then (if (2 + t354.size) + 1 ≤ 9223372036854775807 then (some (((⟨#[38, 35]⟩ : ByteArray) ++ t354) ++ (⟨#[59]⟩ : ByteArray))) else (none)) else (none)) = some r := H
       have A12 := qa.mk A120
       clear A120
       by_cases c13 : 2 + t354.size ≤ 9223372036854775807
       ·rw [if_pos c13] at H
        have c13b0 := eq_true c13
        have c13b1 : decide (2 + t354.size ≤ 9223372036854775807) = true := decide_eq_true c13
        try have c13b2 : (9223372036854775807 < 2 + t354.size) = False := eq_false (Nat.not_lt.2 c13)
        by_cases c14 : (2 + t354.size) + 1 ≤ 9223372036854775807
        ·rw [if_pos c14] at H
         have c14b0 := eq_true c14
         have c14b1 : decide ((2 + t354.size) + 1 ≤ 9223372036854775807) = true := decide_eq_true c14
         try have c14b2 : (9223372036854775807 < (2 + t354.size) + 1) = False := eq_false (Nat.not_lt.2 c14)
         obtain rfl := Option.some.inj H
         go_enter Tryd.func48, Tryd.ntmps48
         go_wp2_with (first | ((with_reducible refine qy (f := 63) rfl ?_); refine qqb (some 19) rfl rfl Tryd.func63 (by kernel_rfl) rfl #[.int .i64 (wrap64 (a0))] rfl zz94 ?_; (with_reducible refine (qfb.calls k (wrap64 (a0)) t354 _ A12.out).mono ?_); rintro e w15 ⟨rfl, hb⟩; refine ⟨_, rfl, ?_⟩; have n0_ := qa.mk (qp zz53 hb); clear HB; have HB := n0_; clear n0_; (try clear hb); (try clear hb2); (try clear hk); (try clear hi)))
         go_ret
         exact ⟨zz103, zz53⟩
        ·rw [if_neg c14] at H
         exact absurd H (by simp)
       ·rw [if_neg c13] at H
        exact absurd H (by simp)
      ·rw [if_neg c11] at H
       have c11b0 : (a0 == 127) = false := beq_eq_false_iff_ne.mpr c11
       have c11b1 : (a0 != 127) = true := bne_iff_ne.mpr c11
       obtain ⟨y355, hy355⟩ : ∃ y_ : List Int, y_ = (([a0] : List Int)) := ⟨_, rfl⟩
       replace H : (some (strOfNums y355)) = some r := by first | (rw [hy355]; with_reducible exact H) | (have H2_ := (Option.bind_some _ _).symm.trans H; rw [hy355]; with_reducible exact H2_) | (have H2_ := (Option.bind_some _ _).symm.trans H; with_reducible exact H2_) | with_reducible exact H | (rw [hy355]; exact H) | exact H
       have Ny355 := qa.mk hy355
       clear hy355
       obtain rfl := Option.some.inj H
       go_enter Tryd.func48, Tryd.ntmps48
       go_wp2_with (first | ((with_reducible refine qeb (N := 23) rfl ?_); refine Kd.R_lit (Kd.int .u8) _ 5 ?hg (N := 23) ?hd (xs := ([a0] : List Int)) (inner := [.int .u8 a0]) (ok := fun _ => True) (okp := fun _ => True) ?hr ?hp (fun _ hk => hk) trivial (Below.refl _ _) (Nat.le_refl _) (by simp) ?_; (case hd => rfl); (case hg => rfl); (case hr => exact zz6); (case hp => exact (Reps.one (show Kd.M (Kd.int .u8) _ _ _ a0 [.int .u8 a0] from rfl) (Reps.none _ _))); intro v356 w16 ho17 hb hg_ hnew_; clear hg_ hnew_; (first | rw [← Ny355.out] at ho17 | (simp only [Int.reduceToNat] at ho17; rw [← Ny355.out] at ho17)); have n0_ := qa.mk (Kd.R_lower ho17 (qo zz53)); have n1_ := qa.mk (qp zz53 hb); clear HB; have HO357 := n0_; have HB := n1_; clear n0_ n1_; clear hb ho17; have hcv18 := own_string (P := Tryd.prog) Tryd.underlying69 Tryd.underlying5 Tryd.underlying9 (Kd.own_of_R HO357.out)))
       go_ret
       exact ⟨zz103, zz53⟩
def qcc.l0 : Nat → ByteArray → ByteArray → Int → Int → Option (ByteArray)
 | 0, _, _, _, _ => none
 | k + 1, x0, x3, x6, x7 => if x7 < x6 then (if 0 ≤ x7 then (if x7 < (x0.size : Int) then ((qtc.f k (bt x0 x7)).bind fun t358 => (if x3.size + t358.size ≤ 9223372036854775807 then (qcc.l0 k x0 (x3 ++ t358) x6 (wrap64 (x7 + 1))) else (none))) else (none)) else (none)) else (some x3)
def qcc.f (k : Nat) (a0 : ByteArray) : Option (ByteArray) := qcc.l0 k a0 (⟨#[]⟩ : ByteArray) (a0.size : Int) 0
set_option maxHeartbeats 8000000 in
set_option maxRecDepth 100000 in
theorem qcc.calls (k : Nat) (a0 : ByteArray) (r : ByteArray) (w : World) (h : qcc.f k a0 = some r) :
  Calls Tryd.prog 34 #[.string a0] w fun e w' => e = .returned (.string r) ∧ Below w.heap.size w w' := by
 have HB := qa.mk (Below.refl w.heap.size w)
 have H : (qcc.l0 k a0 (⟨#[]⟩ : ByteArray) (a0.size : Int) 0) = some r := h
 clear h
 have H' := qa.mk H
 clear H
 go_enter Tryd.func34, Tryd.ntmps34
 go_wp2
 go_loopg [3, 7] k (fun kq v3 v7 w' => ∃ (x3_1 : ByteArray) (x7_1 : Int), v3 = .string x3_1 ∧ v7 = .int .i64 x7_1 ∧ qa (qcc.l0 kq a0 x3_1 (a0.size : Int) x7_1 = some r) ∧ qa (kq ≤ k) ∧ qa (Below w.heap.size w w'))
 case atStart => exact ⟨((⟨#[]⟩ : ByteArray)), (0), zz7, zz7, H', ⟨Nat.le_refl _⟩, ⟨zz53⟩⟩
 case round =>
  clear H'
  obtain ⟨x3_1, x7_1, rfl, rfl, HA, HK1, HB⟩ := hrel
  cases gk with
  | zero => exact absurd HA.out (by simp [qcc.l0])
  | succ k1 =>
   have H := HA.out
   clear HA
   simp only [qcc.l0] at H
   by_cases c2 : x7_1 < (a0.size : Int)
   ·rw [if_pos c2] at H
    have c2b0 : decide (x7_1 < (a0.size : Int)) = true := decide_eq_true c2
    clear c2
    by_cases c3 : 0 ≤ x7_1
    ·rw [if_pos c3] at H
     have c3b0 : decide (0 ≤ x7_1) = true := decide_eq_true c3
     clear c3
     by_cases c4 : x7_1 < (a0.size : Int)
     ·rw [if_pos c4] at H
      have c4b0 : decide (x7_1 < (a0.size : Int)) = true := decide_eq_true c4
      clear c4
      replace H := Option.bind_eq_some_iff.mp H
      obtain ⟨t358, A60, H⟩ := H
      replace H : (if x3_1.size + t358.size ≤ 9223372036854775807 then (qcc.l0 k1 a0 (x3_1 ++ t358) (a0.size : Int) (wrap64 (x7_1 + 1))) else (none)) = some r := H
      have A6 := qa.mk A60
      clear A60
      by_cases c7 : x3_1.size + t358.size ≤ 9223372036854775807
      ·rw [if_pos c7] at H
       have c7b0 := eq_true c7
       have c7b1 : decide (x3_1.size + t358.size ≤ 9223372036854775807) = true := decide_eq_true c7
       try have c7b2 : (9223372036854775807 < x3_1.size + t358.size) = False := eq_false (Nat.not_lt.2 c7)
       have H' := qa.mk H
       clear H
       have p5 : 0 ≤ (x7_1 : Int) := of_decide_eq_true zz12
       have q5 : x7_1 < (a0.size : Int) := of_decide_eq_true zz12
       have hx5 := bt_at a0 x7_1
       replace p5 := eq_true p5
       replace q5 := eq_true q5
       go_wp2_with (first | ((with_reducible refine qy (f := 48) rfl ?_); refine qqb (some 14) rfl rfl Tryd.func48 (by kernel_rfl) rfl #[.int .u8 (bt a0 x7_1)] rfl zz94 ?_; (with_reducible refine (qtc.calls k1 (bt a0 x7_1) t358 _ A6.out).mono ?_); rintro e w8 ⟨rfl, hb⟩; refine ⟨_, rfl, ?_⟩; have n0_ := qa.mk (qp zz53 hb); clear HB; have HB := n0_; clear n0_; (try clear hb); (try clear hb2); (try clear hk); (try clear hi)))
       go_roundg k1
       case measure => have := HK1.out; omega
       case rel => exact ⟨(x3_1 ++ t358), (wrap64 (x7_1 + 1)), zz7, zz7, H', ⟨zz2⟩, ⟨zz53⟩⟩
      ·rw [if_neg c7] at H
       exact absurd H (by simp)
     ·rw [if_neg c4] at H
      exact absurd H (by simp)
    ·rw [if_neg c3] at H
     exact absurd H (by simp)
   ·rw [if_neg c2] at H
    have c2b0 : decide (x7_1 < (a0.size : Int)) = false := decide_eq_false c2
    clear c2
    obtain rfl := Option.some.inj H
    go_wp2
    go_ret
    exact ⟨zz103, zz53⟩
def quc.f (k : Nat) (a0 : ByteArray) : Option (ByteArray) := (qcc.f k a0).bind fun t359 => (if 1 + t359.size ≤ 9223372036854775807 then (if (1 + t359.size) + 1 ≤ 9223372036854775807 then (some (((⟨#[34]⟩ : ByteArray) ++ t359) ++ (⟨#[34]⟩ : ByteArray))) else (none)) else (none))
set_option maxHeartbeats 8000000 in
set_option maxRecDepth 100000 in
theorem quc.calls (k : Nat) (a0 : ByteArray) (r : ByteArray) (w : World) (h : quc.f k a0 = some r) :
  Calls Tryd.prog 21 #[.string a0] w fun e w' => e = .returned (.string r) ∧ Below w.heap.size w w' := by
 have HB := qa.mk (Below.refl w.heap.size w)
 have H : ((qcc.f k a0).bind fun t359 => (if 1 + t359.size ≤ 9223372036854775807 then (if (1 + t359.size) + 1 ≤ 9223372036854775807 then (some (((⟨#[34]⟩ : ByteArray) ++ t359) ++ (⟨#[34]⟩ : ByteArray))) else (none)) else (none))) = some r := h
 clear h
 replace H := Option.bind_eq_some_iff.mp H
 obtain ⟨t359, A20, H⟩ := H
 replace H : (if 1 + t359.size ≤ 9223372036854775807 then (if (1 + t359.size) + 1 ≤ 9223372036854775807 then (some (((⟨#[34]⟩ : ByteArray) ++ t359) ++ (⟨#[34]⟩ : ByteArray))) else (none)) else (none)) = some r := H
 have A2 := qa.mk A20
 clear A20
 by_cases c3 : 1 + t359.size ≤ 9223372036854775807
 ·rw [if_pos c3] at H
  have c3b0 := eq_true c3
  have c3b1 : decide (1 + t359.size ≤ 9223372036854775807) = true := decide_eq_true c3
  try have c3b2 : (9223372036854775807 < 1 + t359.size) = False := eq_false (Nat.not_lt.2 c3)
  by_cases c4 : (1 + t359.size) + 1 ≤ 9223372036854775807
  ·rw [if_pos c4] at H
   have c4b0 := eq_true c4
   have c4b1 : decide ((1 + t359.size) + 1 ≤ 9223372036854775807) = true := decide_eq_true c4
   try have c4b2 : (9223372036854775807 < (1 + t359.size) + 1) = False := eq_false (Nat.not_lt.2 c4)
   obtain rfl := Option.some.inj H
   go_enter Tryd.func21, Tryd.ntmps21
   go_wp2_with (first | ((with_reducible refine qy (f := 34) rfl ?_); refine qqb (some 4) rfl rfl Tryd.func34 (by kernel_rfl) rfl #[.string a0] rfl zz94 ?_; (with_reducible refine (qcc.calls k a0 t359 _ A2.out).mono ?_); rintro e w5 ⟨rfl, hb⟩; refine ⟨_, rfl, ?_⟩; have n0_ := qa.mk (qp zz53 hb); clear HB; have HB := n0_; clear n0_; (try clear hb); (try clear hb2); (try clear hk); (try clear hi)))
   go_ret
   exact ⟨zz103, zz53⟩
  ·rw [if_neg c4] at H
   exact absurd H (by simp)
 ·rw [if_neg c3] at H
  exact absurd H (by simp)
mutual
def qw.l0 : Nat → List (S60) → ByteArray → Int → Int → Option (ByteArray)
 | 0, _, _, _, _ => none
 | k + 1, x0, x3, x8, x9 => if x9 < x8 then (if 0 ≤ x9 then (if x9 < (x0.length : Int) then (if (qg x0 x9).f0 = true then (if x3.size + 1 ≤ 9223372036854775807 then (qw.j1 k x0 (x3 ++ (⟨#[62]⟩ : ByteArray)) x8 x9 ((qg x0 x9).f0) ((qg x0 x9).f1) ((qg x0 x9).f2) ((qg x0 x9).f3) ((qg x0 x9).f4)) else (none)) else (if x9 > 0 then (if x3.size + 1 ≤ 9223372036854775807 then (qw.j1 k x0 (x3 ++ (⟨#[32]⟩ : ByteArray)) x8 x9 ((qg x0 x9).f0) ((qg x0 x9).f1) ((qg x0 x9).f2) ((qg x0 x9).f3) ((qg x0 x9).f4)) else (none)) else (qw.j1 k x0 x3 x8 x9 ((qg x0 x9).f0) ((qg x0 x9).f1) ((qg x0 x9).f2) ((qg x0 x9).f3) ((qg x0 x9).f4)))) else (none)) else (none)) else (some x3)
def qw.j1 : Nat → List (S60) → ByteArray → Int → Int → Bool → Bool → ByteArray → ByteArray → List (S61) → Option (ByteArray)
 | 0, _, _, _, _, _, _, _, _, _ => none
 | k + 1, x0, x3, x8, x9, x362000, x362001, x362002, x362003, x362004 => if x362002.toList = ([] : List UInt8) then (if x3.size + 1 ≤ 9223372036854775807 then (qw.j2 k x0 (x3 ++ (⟨#[42]⟩ : ByteArray)) x8 x9 x362000 x362001 x362002 x362003 x362004) else (none)) else (qw.j2 k x0 x3 x8 x9 x362000 x362001 x362002 x362003 x362004)
def qw.j2 : Nat → List (S60) → ByteArray → Int → Int → Bool → Bool → ByteArray → ByteArray → List (S61) → Option (ByteArray)
 | 0, _, _, _, _, _, _, _, _, _ => none
 | k + 1, x0, x3, x8, x9, x362000, x362001, x362002, x362003, x362004 => if x3.size + x362002.size ≤ 9223372036854775807 then (if x362001 = true then (if (x3.size + x362002.size) + 1 ≤ 9223372036854775807 then ((quc.f k x362003).bind fun t362 => (if ((x3.size + x362002.size) + 1) + t362.size ≤ 9223372036854775807 then (qw.j3 k x0 (((x3 ++ x362002) ++ (⟨#[35]⟩ : ByteArray)) ++ t362) x8 x9 x362000 x362001 x362002 x362003 x362004) else (none))) else (none)) else (qw.j3 k x0 (x3 ++ x362002) x8 x9 x362000 x362001 x362002 x362003 x362004)) else (none)
def qw.j3 : Nat → List (S60) → ByteArray → Int → Int → Bool → Bool → ByteArray → ByteArray → List (S61) → Option (ByteArray)
 | 0, _, _, _, _, _, _, _, _, _ => none
 | k + 1, x0, x3, x8, x9, x362000, x362001, x362002, x362003, x362004 => qw.l1 k x0 x3 x8 x9 (x362004.length : Int) 0 x362000 x362001 x362002 x362003 x362004
def qw.l1 : Nat → List (S60) → ByteArray → Int → Int → Int → Int → Bool → Bool → ByteArray → ByteArray → List (S61) → Option (ByteArray)
 | 0, _, _, _, _, _, _, _, _, _, _, _ => none
 | k + 1, x0, x3, x8, x9, x43, x44, x362000, x362001, x362002, x362003, x362004 => if x44 < x43 then (if x3.size + 1 ≤ 9223372036854775807 then (if 0 ≤ x44 then (if x44 < (x362004.length : Int) then (if (x3.size + 1) + ((qgb x362004 x44).f0).size ≤ 9223372036854775807 then (if (qgb x362004 x44).f2 = true then (if ((x3.size + 1) + ((qgb x362004 x44).f0).size) + 1 ≤ 9223372036854775807 then ((quc.f k ((qgb x362004 x44).f1)).bind fun t366 => (if (((x3.size + 1) + ((qgb x362004 x44).f0).size) + 1) + t366.size ≤ 9223372036854775807 then (if ((((x3.size + 1) + ((qgb x362004 x44).f0).size) + 1) + t366.size) + 1 ≤ 9223372036854775807 then (qw.l1 k x0 (((((x3 ++ (⟨#[91]⟩ : ByteArray)) ++ ((qgb x362004 x44).f0)) ++ (⟨#[61]⟩ : ByteArray)) ++ t366) ++ (⟨#[93]⟩ : ByteArray)) x8 x9 x43 (wrap64 (x44 + 1)) x362000 x362001 x362002 x362003 x362004) else (none)) else (none))) else (none)) else (if ((x3.size + 1) + ((qgb x362004 x44).f0).size) + 1 ≤ 9223372036854775807 then (qw.l1 k x0 (((x3 ++ (⟨#[91]⟩ : ByteArray)) ++ ((qgb x362004 x44).f0)) ++ (⟨#[93]⟩ : ByteArray)) x8 x9 x43 (wrap64 (x44 + 1)) x362000 x362001 x362002 x362003 x362004) else (none))) else (none)) else (none)) else (none)) else (none)) else (qw.l0 k x0 x3 x8 (wrap64 (x9 + 1)))
end
def qw.f (k : Nat) (l0 : List (S60)) : Option (ByteArray) := qw.l0 k l0 (⟨#[]⟩ : ByteArray) (l0.length : Int) 0
set_option maxHeartbeats 8000000 in
set_option maxRecDepth 100000 in
theorem qw.calls (k : Nat) (A0 : Option Addr) (c0 : Nat) (l0 : List (S60)) (r : ByteArray) (w : World) (hr0 : Kd.C k60 w A0 l0.length l0) (hc0 : l0.length ≤ c0) (h : qw.f k l0 = some r) :
  Calls Tryd.prog 9 #[.slice A0 l0.length c0] w fun e w' => e = .returned (.string r) ∧ Below w.heap.size w w' := by
 have hu60 := Tryd.underlying60
 have HR0 := qa.mk hr0
 have HC0 := qa.mk hc0
 clear hr0 hc0
 have HB := qa.mk (Below.refl w.heap.size w)
 have H : (qw.l0 k l0 (⟨#[]⟩ : ByteArray) (l0.length : Int) 0) = some r := h
 clear h
 have H' := qa.mk H
 clear H
 go_enter Tryd.func9, Tryd.ntmps9
 go_wp2
 go_loopg [3, 9] k (fun kq v3 v9 w' => ∃ (x3_1 : ByteArray) (x9_1 : Int), v3 = .string x3_1 ∧ v9 = .int .i64 x9_1 ∧ qa (qw.l0 kq l0 x3_1 (l0.length : Int) x9_1 = some r) ∧ qa (kq ≤ k) ∧ qa (Below w.heap.size w w'))
 case atStart => exact ⟨((⟨#[]⟩ : ByteArray)), (0), zz7, zz7, H', ⟨Nat.le_refl _⟩, ⟨zz53⟩⟩
 case round =>
  clear H'
  obtain ⟨x3_1, x9_1, rfl, rfl, HA, HK1, HB⟩ := hrel
  cases gk with
  | zero => exact absurd HA.out (by simp [qw.l0])
  | succ k1 =>
   have H := HA.out
   clear HA
   simp only [qw.l0] at H
   by_cases c2 : x9_1 < (l0.length : Int)
   ·rw [if_pos c2] at H
    have c2b0 : decide (x9_1 < (l0.length : Int)) = true := decide_eq_true c2
    clear c2
    by_cases c3 : 0 ≤ x9_1
    ·rw [if_pos c3] at H
     have c3b0 : decide (0 ≤ x9_1) = true := decide_eq_true c3
     clear c3
     by_cases c4 : x9_1 < (l0.length : Int)
     ·rw [if_pos c4] at H
      have c4b0 : decide (x9_1 < (l0.length : Int)) = true := decide_eq_true c4
      clear c4
      have HC5 := qa.mk H
      clear H
      have p360 : 0 ≤ (x9_1 : Int) := of_decide_eq_true zz12
      have q360 : x9_1 < (l0.length : Int) := of_decide_eq_true zz12
      obtain ⟨ad360, A360_4, c360_4, e360, hx360_0, hx360_1, hx360_2, hx360_3, hx360_4, hl360_4, hi360_4⟩ := at_T60 HR0.out x9_1 p360 q360
      cases e360
      replace hx360_0 := (HB.out.cell (qwc w _ hx360_0)).trans hx360_0
      replace hx360_1 := (HB.out.cell (qwc w _ hx360_1)).trans hx360_1
      replace hx360_2 := (HB.out.cell (qwc w _ hx360_2)).trans hx360_2
      replace hx360_3 := (HB.out.cell (qwc w _ hx360_3)).trans hx360_3
      replace hx360_4 := (HB.out.cell (qwc w _ hx360_4)).trans hx360_4
      have HR360_4 := qa.mk hi360_4
      have HC360_4 := qa.mk hl360_4
      clear hi360_4 hl360_4
      replace p360 := eq_true p360
      replace q360 := eq_true q360
      go_upto_if 17 with (first | ((with_reducible refine qeb (N := 5) rfl ?_); refine qjb ?hg (N := 5) ?hd (cs := #[.bool false, .bool false, .string (⟨#[]⟩ : ByteArray), .string (⟨#[]⟩ : ByteArray), .slice none 0 0]) (t := 60) ?hr ?_; (case hd => rfl); (case hg => rfl); (case hr => exact zz6); intro gb361 hg w6 hbox hb; have n0_ := qa.mk (qp zz53 hb); have n1_ := qa.mk (hbox); have n2_ := qa.mk ((by rw [hg]; exact (qo zz53) : w.heap.size ≤ gb361)); have n3_ := qa.mk ((by rw [hg]; exact (qo zz53) : w.heap.size ≤ gb361)); clear HB; have HB := n0_; have BK361 := n1_; have GW361 := n2_; have GE361 := n3_; clear n0_ n1_ n2_ n3_; clear hb hbox hg; have hcz7_0 : w6.cell? ⟨gb361, 0, none⟩ = some (.bool false) := (qh BK361.out 0).trans rfl; have hcz7_1 : w6.cell? ⟨gb361, 1, none⟩ = some (.bool false) := (qh BK361.out 1).trans rfl; have hcz7_2 : w6.cell? ⟨gb361, 2, none⟩ = some (.string (⟨#[]⟩ : ByteArray)) := (qh BK361.out 2).trans rfl; have hcz7_3 : w6.cell? ⟨gb361, 3, none⟩ = some (.string (⟨#[]⟩ : ByteArray)) := (qh BK361.out 3).trans rfl; have hcz7_4 : w6.cell? ⟨gb361, 4, none⟩ = some (.slice none 0 0) := (qh BK361.out 4).trans rfl; have hfz7_0 := qf BK361.out 0; have hfz7_1 := qf BK361.out 1; have hfz7_2 := qf BK361.out 2; have hfz7_3 := qf BK361.out 3; have hfz7_4 := qf BK361.out 4))
      (try simp only [Act.put, List.setIfInBounds_toArray, List.set_cons_zero, List.set_cons_succ])
      go_cut [3] (fun v3 wc => ∃ (kq : Nat) (x3_4 : ByteArray), v3 = .string x3_4 ∧ qa (qw.j1 kq l0 x3_4 (l0.length : Int) x9_1 ((qg l0 x9_1).f0) ((qg l0 x9_1).f1) ((qg l0 x9_1).f2) ((qg l0 x9_1).f3) ((qg l0 x9_1).f4) = some r) ∧ qa (kq ≤ k1) ∧ qa (wc.heap[gb361]? = some (.cells #[.bool ((qg l0 x9_1).f0), .bool ((qg l0 x9_1).f1), .string ((qg l0 x9_1).f2), .string ((qg l0 x9_1).f3), (.slice A360_4 ((qg l0 x9_1).f4).length c360_4)] 60 (0, 0))) ∧ qa (Below w.heap.size w wc))
      case first =>
       have H := HC5.out
       clear HC5
       obtain ⟨bq8, hbq8⟩ : ∃ b_ : Bool, b_ = ((qg l0 x9_1).f0) := ⟨_, rfl⟩
       replace H : (if bq8 = true then (if x3_1.size + 1 ≤ 9223372036854775807 then (qw.j1 k1 l0 (x3_1 ++ (⟨#[62]⟩ : ByteArray)) (l0.length : Int) x9_1 bq8 ((qg l0 x9_1).f1) ((qg l0 x9_1).f2) ((qg l0 x9_1).f3) ((qg l0 x9_1).f4)) else (none)) else (if x9_1 > 0 then (if x3_1.size + 1 ≤ 9223372036854775807 then (qw.j1 k1 l0 (x3_1 ++ (⟨#[32]⟩ : ByteArray)) (l0.length : Int) x9_1 bq8 ((qg l0 x9_1).f1) ((qg l0 x9_1).f2) ((qg l0 x9_1).f3) ((qg l0 x9_1).f4)) else (none)) else (qw.j1 k1 l0 x3_1 (l0.length : Int) x9_1 bq8 ((qg l0 x9_1).f1) ((qg l0 x9_1).f2) ((qg l0 x9_1).f3) ((qg l0 x9_1).f4)))) = some r := by rw [← hbq8] at H; exact H
       have Nbq8 := qa.mk hbq8
       clear hbq8
       (try rw [← Nbq8.out])
       by_cases c9 : bq8 = true
       ·subst c9
        have H1 : (if x3_1.size + 1 ≤ 9223372036854775807 then (qw.j1 k1 l0 (x3_1 ++ (⟨#[62]⟩ : ByteArray)) (l0.length : Int) x9_1 true ((qg l0 x9_1).f1) ((qg l0 x9_1).f2) ((qg l0 x9_1).f3) ((qg l0 x9_1).f4)) else (none)) = some r := by rw [if_pos rfl] at H; exact H
        clear H
        have H := H1
        clear H1
        by_cases c10 : x3_1.size + 1 ≤ 9223372036854775807
        ·rw [if_pos c10] at H
         have c10b0 := eq_true c10
         have c10b1 : decide (x3_1.size + 1 ≤ 9223372036854775807) = true := decide_eq_true c10
         try have c10b2 : (9223372036854775807 < x3_1.size + 1) = False := eq_false (Nat.not_lt.2 c10)
         have H' := qa.mk H
         clear H
         go_wp2
         go_meet
         case rel => (try rw [← Nbq8.out]); exact ⟨_, (x3_1 ++ (⟨#[62]⟩ : ByteArray)), zz7, H', ⟨zz13⟩, ⟨by (with_reducible repeat (first | refine qk ?_ _ | refine ql ?_ | refine qj ?_ _)); refine qq (cs := #[.bool (true), .bool ((qg l0 x9_1).f1), .string ((qg l0 x9_1).f2), .string ((qg l0 x9_1).f3), .slice none 0 0]) ?_ 4 _ rfl; (with_reducible repeat (first | refine qk ?_ _ | refine ql ?_ | refine qj ?_ _)); refine qq (cs := #[.bool (true), .bool ((qg l0 x9_1).f1), .string ((qg l0 x9_1).f2), .string (⟨#[]⟩ : ByteArray), .slice none 0 0]) ?_ 3 _ rfl; (with_reducible repeat (first | refine qk ?_ _ | refine ql ?_ | refine qj ?_ _)); refine qq (cs := #[.bool (true), .bool ((qg l0 x9_1).f1), .string (⟨#[]⟩ : ByteArray), .string (⟨#[]⟩ : ByteArray), .slice none 0 0]) ?_ 2 _ rfl; (with_reducible repeat (first | refine qk ?_ _ | refine ql ?_ | refine qj ?_ _)); refine qq (cs := #[.bool (true), .bool false, .string (⟨#[]⟩ : ByteArray), .string (⟨#[]⟩ : ByteArray), .slice none 0 0]) ?_ 1 _ rfl; (with_reducible repeat (first | refine qk ?_ _ | refine ql ?_ | refine qj ?_ _)); refine qq (cs := #[.bool false, .bool false, .string (⟨#[]⟩ : ByteArray), .string (⟨#[]⟩ : ByteArray), .slice none 0 0]) ?_ 0 _ rfl; (with_reducible repeat (first | refine qk ?_ _ | refine ql ?_ | refine qj ?_ _)); exact BK361.out⟩, ⟨zz89⟩⟩
        ·rw [if_neg c10] at H
         exact absurd H (by simp)
       ·replace c9 := Bool.eq_false_iff.mpr c9
        subst c9
        have H1 : (if x9_1 > 0 then (if x3_1.size + 1 ≤ 9223372036854775807 then (qw.j1 k1 l0 (x3_1 ++ (⟨#[32]⟩ : ByteArray)) (l0.length : Int) x9_1 false ((qg l0 x9_1).f1) ((qg l0 x9_1).f2) ((qg l0 x9_1).f3) ((qg l0 x9_1).f4)) else (none)) else (qw.j1 k1 l0 x3_1 (l0.length : Int) x9_1 false ((qg l0 x9_1).f1) ((qg l0 x9_1).f2) ((qg l0 x9_1).f3) ((qg l0 x9_1).f4))) = some r := by rw [if_neg (show ¬ (false = true) by decide)] at H; exact H
        clear H
        have H := H1
        clear H1
        by_cases c11 : x9_1 > 0
        ·rw [if_pos c11] at H
         have c11b0 : decide (0 < x9_1) = true := decide_eq_true c11
         clear c11
         by_cases c12 : x3_1.size + 1 ≤ 9223372036854775807
         ·rw [if_pos c12] at H
          have c12b0 := eq_true c12
          have c12b1 : decide (x3_1.size + 1 ≤ 9223372036854775807) = true := decide_eq_true c12
          try have c12b2 : (9223372036854775807 < x3_1.size + 1) = False := eq_false (Nat.not_lt.2 c12)
          have H' := qa.mk H
          clear H
          go_wp2
          go_meet
          case rel => (try rw [← Nbq8.out]); exact ⟨_, (x3_1 ++ (⟨#[32]⟩ : ByteArray)), zz7, H', ⟨zz13⟩, ⟨zz184⟩, ⟨zz89⟩⟩
         ·rw [if_neg c12] at H
          exact absurd H (by simp)
        ·rw [if_neg c11] at H
         have c11b0 : decide (0 < x9_1) = false := decide_eq_false c11
         clear c11
         have H' := qa.mk H
         clear H
         go_wp2
         go_meet
         case rel => (try rw [← Nbq8.out]); exact ⟨_, (x3_1), zz7, H', ⟨zz13⟩, ⟨zz184⟩, ⟨zz89⟩⟩
      case rest =>
       clear HC5
       try clear c1
       try clear c2
       try clear c2b0
       try clear p2
       try clear c3
       try clear c3b0
       try clear p3
       try clear q3
       try clear hx3
       try clear c4
       try clear c4b0
       try clear q8
       try clear c9
       try clear c10
       try clear c10b0
       try clear c10b1
       try clear c10b2
       try clear c11
       try clear c11b0
       try clear c12
       try clear c12b0
       try clear c12b1
       try clear c12b2
       try clear hcz7_0
       try clear hcz7_1
       try clear hcz7_2
       try clear hcz7_3
       try clear hcz7_4
       try clear hfz7_0
       try clear hfz7_1
       try clear hfz7_2
       try clear hfz7_3
       try clear hfz7_4
       try clear hx360_0
       try clear hx360_1
       try clear hx360_2
       try clear hx360_3
       try clear hx360_4
       try clear p360
       try clear q360
       obtain ⟨kq, x3_4, rfl, HA, HJ4, BK361, HB⟩ := hcut
       cases kq with
       | zero => exact absurd HA.out (by simp [qw.j1])
       | succ kj4 =>
        have H := HA.out
        clear HA
        simp only [qw.j1] at H
        have HC13 := qa.mk H
        clear H
        have hcz14_0 : wc.cell? ⟨gb361, 0, none⟩ = some (.bool ((qg l0 x9_1).f0)) := (qh BK361.out 0).trans rfl
        have hcz14_1 : wc.cell? ⟨gb361, 1, none⟩ = some (.bool ((qg l0 x9_1).f1)) := (qh BK361.out 1).trans rfl
        have hcz14_2 : wc.cell? ⟨gb361, 2, none⟩ = some (.string ((qg l0 x9_1).f2)) := (qh BK361.out 2).trans rfl
        have hcz14_3 : wc.cell? ⟨gb361, 3, none⟩ = some (.string ((qg l0 x9_1).f3)) := (qh BK361.out 3).trans rfl
        have hcz14_4 : wc.cell? ⟨gb361, 4, none⟩ = some (.slice A360_4 ((qg l0 x9_1).f4).length c360_4) := (qh BK361.out 4).trans rfl
        have hfz14_0 := qf BK361.out 0
        have hfz14_1 := qf BK361.out 1
        have hfz14_2 := qf BK361.out 2
        have hfz14_3 := qf BK361.out 3
        have hfz14_4 := qf BK361.out 4
        go_upto_if 26 with (fail)
        go_cut [3] (fun v3 wc => ∃ (kq : Nat) (x3_12 : ByteArray), v3 = .string x3_12 ∧ qa (qw.j2 kq l0 x3_12 (l0.length : Int) x9_1 ((qg l0 x9_1).f0) ((qg l0 x9_1).f1) ((qg l0 x9_1).f2) ((qg l0 x9_1).f3) ((qg l0 x9_1).f4) = some r) ∧ qa (kq ≤ kj4) ∧ qa (wc.heap[gb361]? = some (.cells #[.bool ((qg l0 x9_1).f0), .bool ((qg l0 x9_1).f1), .string ((qg l0 x9_1).f2), .string ((qg l0 x9_1).f3), (.slice A360_4 ((qg l0 x9_1).f4).length c360_4)] 60 (0, 0))) ∧ qa (Below w.heap.size w wc))
        case first =>
         have H := HC13.out
         clear HC13
         by_cases c15 : ((qg l0 x9_1).f2).toList = ([] : List UInt8)
         ·rw [if_pos c15] at H
          have c15b0 : (((qg l0 x9_1).f2).toList == ([] : List UInt8)) = true := beq_iff_eq.mpr c15
          have c15b1 : (((qg l0 x9_1).f2).toList != ([] : List UInt8)) = false := bne_eq_false_iff_eq.mpr c15
          (try (have c15b2 : List.isEmpty (((qg l0 x9_1).f2).toList) = true := by simpa using c15))
          clear c15
          (first | rw [c15b0] | (simp only [i64_w, i32_w]; rw [c15b0]) | rw [c15b2] | skip)
          by_cases c16 : x3_4.size + 1 ≤ 9223372036854775807
          ·rw [if_pos c16] at H
           have c16b0 := eq_true c16
           have c16b1 : decide (x3_4.size + 1 ≤ 9223372036854775807) = true := decide_eq_true c16
           try have c16b2 : (9223372036854775807 < x3_4.size + 1) = False := eq_false (Nat.not_lt.2 c16)
           have H' := qa.mk H
           clear H
           go_wp2
           go_meet
           case rel => exact ⟨_, (x3_4 ++ (⟨#[42]⟩ : ByteArray)), zz7, H', ⟨by have := HK1.out; have := HJ4.out; first | omega | exact Nat.le_refl _⟩, ⟨zz52⟩, ⟨zz89⟩⟩
          ·rw [if_neg c16] at H
           exact absurd H (by simp)
         ·rw [if_neg c15] at H
          have c15b0 : (((qg l0 x9_1).f2).toList == ([] : List UInt8)) = false := beq_eq_false_iff_ne.mpr c15
          have c15b1 : (((qg l0 x9_1).f2).toList != ([] : List UInt8)) = true := bne_iff_ne.mpr c15
          (try (have c15b2 : List.isEmpty (((qg l0 x9_1).f2).toList) = false := by simpa using c15))
          (first | rw [c15b0] | (simp only [i64_w, i32_w]; rw [c15b0]) | rw [c15b2] | skip)
          have H' := qa.mk H
          clear H
          go_wp2
          go_meet
          case rel => exact ⟨_, (x3_4), zz7, H', ⟨by have := HK1.out; have := HJ4.out; first | omega | exact Nat.le_refl _⟩, ⟨zz52⟩, ⟨zz89⟩⟩
        case rest =>
         clear HC13
         try clear c1
         try clear c2
         try clear c2b0
         try clear p2
         try clear c3
         try clear c3b0
         try clear p3
         try clear q3
         try clear hx3
         try clear c4
         try clear c4b0
         try clear q8
         try clear c9
         try clear c10
         try clear c10b0
         try clear c10b1
         try clear c10b2
         try clear c11
         try clear c11b0
         try clear c12
         try clear c12b0
         try clear c12b1
         try clear c12b2
         try clear c15
         try clear c15b0
         try clear c15b1
         try clear c15b2
         try clear c16
         try clear c16b0
         try clear c16b1
         try clear c16b2
         try clear hcz14_0
         try clear hcz14_1
         try clear hcz14_2
         try clear hcz14_3
         try clear hcz14_4
         try clear hcz7_0
         try clear hcz7_1
         try clear hcz7_2
         try clear hcz7_3
         try clear hcz7_4
         try clear hfz14_0
         try clear hfz14_1
         try clear hfz14_2
         try clear hfz14_3
         try clear hfz14_4
         try clear hfz7_0
         try clear hfz7_1
         try clear hfz7_2
         try clear hfz7_3
         try clear hfz7_4
         try clear hx360_0
         try clear hx360_1
         try clear hx360_2
         try clear hx360_3
         try clear hx360_4
         try clear p2
         try clear p3
         try clear p360
         try clear q3
         try clear q360
         try clear q8
         obtain ⟨kq, x3_12, rfl, HA, HJ12, BK361, HB⟩ := hcut
         cases kq with
         | zero => exact absurd HA.out (by simp [qw.j2])
         | succ kj12 =>
          have H := HA.out
          clear HA
          simp only [qw.j2] at H
          by_cases c17 : x3_12.size + ((qg l0 x9_1).f2).size ≤ 9223372036854775807
          ·rw [if_pos c17] at H
           have c17b0 := eq_true c17
           have c17b1 : decide (x3_12.size + ((qg l0 x9_1).f2).size ≤ 9223372036854775807) = true := decide_eq_true c17
           try have c17b2 : (9223372036854775807 < x3_12.size + ((qg l0 x9_1).f2).size) = False := eq_false (Nat.not_lt.2 c17)
           have HC18 := qa.mk H
           clear H
           have hcz19_0 : wc.cell? ⟨gb361, 0, none⟩ = some (.bool ((qg l0 x9_1).f0)) := (qh BK361.out 0).trans rfl
           have hcz19_1 : wc.cell? ⟨gb361, 1, none⟩ = some (.bool ((qg l0 x9_1).f1)) := (qh BK361.out 1).trans rfl
           have hcz19_2 : wc.cell? ⟨gb361, 2, none⟩ = some (.string ((qg l0 x9_1).f2)) := (qh BK361.out 2).trans rfl
           have hcz19_3 : wc.cell? ⟨gb361, 3, none⟩ = some (.string ((qg l0 x9_1).f3)) := (qh BK361.out 3).trans rfl
           have hcz19_4 : wc.cell? ⟨gb361, 4, none⟩ = some (.slice A360_4 ((qg l0 x9_1).f4).length c360_4) := (qh BK361.out 4).trans rfl
           have hfz19_0 := qf BK361.out 0
           have hfz19_1 := qf BK361.out 1
           have hfz19_2 := qf BK361.out 2
           have hfz19_3 := qf BK361.out 3
           have hfz19_4 := qf BK361.out 4
           go_upto_if 34 with (fail)
           go_cut [3] (fun v3 wc => ∃ (kq : Nat) (x3_17 : ByteArray), v3 = .string x3_17 ∧ qa (qw.j3 kq l0 x3_17 (l0.length : Int) x9_1 ((qg l0 x9_1).f0) ((qg l0 x9_1).f1) ((qg l0 x9_1).f2) ((qg l0 x9_1).f3) ((qg l0 x9_1).f4) = some r) ∧ qa (kq ≤ kj12) ∧ qa (wc.heap[gb361]? = some (.cells #[.bool ((qg l0 x9_1).f0), .bool ((qg l0 x9_1).f1), .string ((qg l0 x9_1).f2), .string ((qg l0 x9_1).f3), (.slice A360_4 ((qg l0 x9_1).f4).length c360_4)] 60 (0, 0))) ∧ qa (Below w.heap.size w wc))
           case first =>
            have H := HC18.out
            clear HC18
            by_cases c20 : ((qg l0 x9_1).f1) = true
            ·rw [if_pos c20] at H
             have c20b0 : ((qg l0 x9_1).f1) = true := c20
             clear c20
             (first | rw [c20b0] | (simp only [i64_w, i32_w]; rw [c20b0]) | rw [c20b2] | skip)
             by_cases c21 : (x3_12.size + ((qg l0 x9_1).f2).size) + 1 ≤ 9223372036854775807
             ·rw [if_pos c21] at H
              have c21b0 := eq_true c21
              have c21b1 : decide ((x3_12.size + ((qg l0 x9_1).f2).size) + 1 ≤ 9223372036854775807) = true := decide_eq_true c21
              try have c21b2 : (9223372036854775807 < (x3_12.size + ((qg l0 x9_1).f2).size) + 1) = False := eq_false (Nat.not_lt.2 c21)
              replace H := Option.bind_eq_some_iff.mp H
              obtain ⟨t362, A220, H⟩ := H
              replace H : (if ((x3_12.size + ((qg l0 x9_1).f2).size) + 1) + t362.size ≤ 9223372036854775807 then (qw.j3 kj12 l0 (((x3_12 ++ ((qg l0 x9_1).f2)) ++ (⟨#[35]⟩ : ByteArray)) ++ t362) (l0.length : Int) x9_1 ((qg l0 x9_1).f0) ((qg l0 x9_1).f1) ((qg l0 x9_1).f2) ((qg l0 x9_1).f3) ((qg l0 x9_1).f4)) else (none)) = some r := H
              have A22 := qa.mk A220
              clear A220
              by_cases c23 : ((x3_12.size + ((qg l0 x9_1).f2).size) + 1) + t362.size ≤ 9223372036854775807
              ·rw [if_pos c23] at H
               have c23b0 := eq_true c23
               have c23b1 : decide (((x3_12.size + ((qg l0 x9_1).f2).size) + 1) + t362.size ≤ 9223372036854775807) = true := decide_eq_true c23
               try have c23b2 : (9223372036854775807 < ((x3_12.size + ((qg l0 x9_1).f2).size) + 1) + t362.size) = False := eq_false (Nat.not_lt.2 c23)
               have H' := qa.mk H
               clear H
               have hcz24_0 : wc.cell? ⟨gb361, 0, none⟩ = some (.bool ((qg l0 x9_1).f0)) := (qh BK361.out 0).trans rfl
               have hcz24_1 : wc.cell? ⟨gb361, 1, none⟩ = some (.bool ((qg l0 x9_1).f1)) := (qh BK361.out 1).trans rfl
               have hcz24_2 : wc.cell? ⟨gb361, 2, none⟩ = some (.string ((qg l0 x9_1).f2)) := (qh BK361.out 2).trans rfl
               have hcz24_3 : wc.cell? ⟨gb361, 3, none⟩ = some (.string ((qg l0 x9_1).f3)) := (qh BK361.out 3).trans rfl
               have hcz24_4 : wc.cell? ⟨gb361, 4, none⟩ = some (.slice A360_4 ((qg l0 x9_1).f4).length c360_4) := (qh BK361.out 4).trans rfl
               have hfz24_0 := qf BK361.out 0
               have hfz24_1 := qf BK361.out 1
               have hfz24_2 := qf BK361.out 2
               have hfz24_3 := qf BK361.out 3
               have hfz24_4 := qf BK361.out 4
               go_wp2_with (first | ((with_reducible refine qy (f := 21) rfl ?_); refine qqb (some 39) rfl rfl Tryd.func21 (by kernel_rfl) rfl #[.string ((qg l0 x9_1).f3)] rfl zz94 ?_; (with_reducible refine (quc.calls kj12 ((qg l0 x9_1).f3) t362 _ A22.out).mono ?_); rintro e w25 ⟨rfl, hb⟩; refine ⟨_, rfl, ?_⟩; have n0_ := qa.mk (qmb (g := gb361) (o := .cells #[.bool ((qg l0 x9_1).f0), .bool ((qg l0 x9_1).f1), .string ((qg l0 x9_1).f2), .string ((qg l0 x9_1).f3), .slice A360_4 ((qg l0 x9_1).f4).length c360_4] 60 (0, 0)) zz52 hb); have n1_ := qa.mk (qp zz89 hb); clear BK361; clear HB; have BK361 := n0_; have HB := n1_; clear n0_ n1_; (try clear hb); (try clear hb2); (try clear hk); (try clear hi)))
               go_meet
               case rel => exact ⟨_, (((x3_12 ++ ((qg l0 x9_1).f2)) ++ (⟨#[35]⟩ : ByteArray)) ++ t362), zz7, H', ⟨by have := HK1.out; have := HJ4.out; have := HJ12.out; first | omega | exact Nat.le_refl _⟩, ⟨zz52⟩, ⟨zz89⟩⟩
              ·rw [if_neg c23] at H
               exact absurd H (by simp)
             ·rw [if_neg c21] at H
              exact absurd H (by simp)
            ·rw [if_neg c20] at H
             have c20b0 : ((qg l0 x9_1).f1) = false := by simpa using c20
             clear c20
             (first | rw [c20b0] | (simp only [i64_w, i32_w]; rw [c20b0]) | rw [c20b2] | skip)
             have H' := qa.mk H
             clear H
             go_wp2
             go_meet
             case rel => exact ⟨_, (x3_12 ++ ((qg l0 x9_1).f2)), zz7, H', ⟨by have := HK1.out; have := HJ4.out; have := HJ12.out; first | omega | exact Nat.le_refl _⟩, ⟨zz52⟩, ⟨zz89⟩⟩
           case rest =>
            clear HC18
            try clear c1
            try clear c2
            try clear c2b0
            try clear p2
            try clear c3
            try clear c3b0
            try clear p3
            try clear q3
            try clear hx3
            try clear c4
            try clear c4b0
            try clear q8
            try clear c9
            try clear c10
            try clear c10b0
            try clear c10b1
            try clear c10b2
            try clear c11
            try clear c11b0
            try clear c12
            try clear c12b0
            try clear c12b1
            try clear c12b2
            try clear c15
            try clear c15b0
            try clear c15b1
            try clear c15b2
            try clear c16
            try clear c16b0
            try clear c16b1
            try clear c16b2
            try clear c17
            try clear c17b0
            try clear c17b1
            try clear c17b2
            try clear c20
            try clear c20b0
            try clear c20b2
            try clear c21
            try clear c21b0
            try clear c21b1
            try clear c21b2
            try clear c23
            try clear c23b0
            try clear c23b1
            try clear c23b2
            try clear hcz14_0
            try clear hcz14_1
            try clear hcz14_2
            try clear hcz14_3
            try clear hcz14_4
            try clear hcz19_0
            try clear hcz19_1
            try clear hcz19_2
            try clear hcz19_3
            try clear hcz19_4
            try clear hcz24_0
            try clear hcz24_1
            try clear hcz24_2
            try clear hcz24_3
            try clear hcz24_4
            try clear hcz7_0
            try clear hcz7_1
            try clear hcz7_2
            try clear hcz7_3
            try clear hcz7_4
            try clear hfz14_0
            try clear hfz14_1
            try clear hfz14_2
            try clear hfz14_3
            try clear hfz14_4
            try clear hfz19_0
            try clear hfz19_1
            try clear hfz19_2
            try clear hfz19_3
            try clear hfz19_4
            try clear hfz24_0
            try clear hfz24_1
            try clear hfz24_2
            try clear hfz24_3
            try clear hfz24_4
            try clear hfz7_0
            try clear hfz7_1
            try clear hfz7_2
            try clear hfz7_3
            try clear hfz7_4
            try clear hx360_0
            try clear hx360_1
            try clear hx360_2
            try clear hx360_3
            try clear hx360_4
            try clear p2
            try clear p3
            try clear p360
            try clear q3
            try clear q360
            try clear q8
            obtain ⟨kq, x3_17, rfl, HA, HJ17, BK361, HB⟩ := hcut
            cases kq with
            | zero => exact absurd HA.out (by simp [qw.j3])
            | succ kj17 =>
             have H := HA.out
             clear HA
             simp only [qw.j3] at H
             have H' := qa.mk H
             clear H
             have hcz26_0 : wc.cell? ⟨gb361, 0, none⟩ = some (.bool ((qg l0 x9_1).f0)) := (qh BK361.out 0).trans rfl
             have hcz26_1 : wc.cell? ⟨gb361, 1, none⟩ = some (.bool ((qg l0 x9_1).f1)) := (qh BK361.out 1).trans rfl
             have hcz26_2 : wc.cell? ⟨gb361, 2, none⟩ = some (.string ((qg l0 x9_1).f2)) := (qh BK361.out 2).trans rfl
             have hcz26_3 : wc.cell? ⟨gb361, 3, none⟩ = some (.string ((qg l0 x9_1).f3)) := (qh BK361.out 3).trans rfl
             have hcz26_4 : wc.cell? ⟨gb361, 4, none⟩ = some (.slice A360_4 ((qg l0 x9_1).f4).length c360_4) := (qh BK361.out 4).trans rfl
             have hfz26_0 := qf BK361.out 0
             have hfz26_1 := qf BK361.out 1
             have hfz26_2 := qf BK361.out 2
             have hfz26_3 := qf BK361.out 3
             have hfz26_4 := qf BK361.out 4
             go_wp2
             go_loopg [3, 44] kj17 (fun kq v3 v44 w' => ∃ (x3_5 : ByteArray) (x44_5 : Int), v3 = .string x3_5 ∧ v44 = .int .i64 x44_5 ∧ qa (qw.l1 kq l0 x3_5 (l0.length : Int) x9_1 (((qg l0 x9_1).f4).length : Int) x44_5 ((qg l0 x9_1).f0) ((qg l0 x9_1).f1) ((qg l0 x9_1).f2) ((qg l0 x9_1).f3) ((qg l0 x9_1).f4) = some r) ∧ qa (kq ≤ kj17) ∧ qa (w'.heap[gb361]? = some (.cells #[.bool ((qg l0 x9_1).f0), .bool ((qg l0 x9_1).f1), .string ((qg l0 x9_1).f2), .string ((qg l0 x9_1).f3), (.slice A360_4 ((qg l0 x9_1).f4).length c360_4)] 60 (0, 0))) ∧ qa (Below w.heap.size w w'))
             case atStart => exact ⟨(x3_17), (0), zz7, zz7, H', ⟨Nat.le_refl _⟩, ⟨zz52⟩, ⟨zz89⟩⟩
             case round =>
              clear H'
              try clear c1
              try clear c2
              try clear c2b0
              try clear p2
              try clear c3
              try clear c3b0
              try clear p3
              try clear q3
              try clear hx3
              try clear c4
              try clear c4b0
              try clear q8
              try clear c9
              try clear c10
              try clear c10b0
              try clear c10b1
              try clear c10b2
              try clear c11
              try clear c11b0
              try clear c12
              try clear c12b0
              try clear c12b1
              try clear c12b2
              try clear c15
              try clear c15b0
              try clear c15b1
              try clear c15b2
              try clear c16
              try clear c16b0
              try clear c16b1
              try clear c16b2
              try clear c17
              try clear c17b0
              try clear c17b1
              try clear c17b2
              try clear c20
              try clear c20b0
              try clear c20b2
              try clear c21
              try clear c21b0
              try clear c21b1
              try clear c21b2
              try clear c23
              try clear c23b0
              try clear c23b1
              try clear c23b2
              try clear hcz14_0
              try clear hcz14_1
              try clear hcz14_2
              try clear hcz14_3
              try clear hcz14_4
              try clear hcz19_0
              try clear hcz19_1
              try clear hcz19_2
              try clear hcz19_3
              try clear hcz19_4
              try clear hcz24_0
              try clear hcz24_1
              try clear hcz24_2
              try clear hcz24_3
              try clear hcz24_4
              try clear hcz26_0
              try clear hcz26_1
              try clear hcz26_2
              try clear hcz26_3
              try clear hcz26_4
              try clear hcz7_0
              try clear hcz7_1
              try clear hcz7_2
              try clear hcz7_3
              try clear hcz7_4
              try clear hfz14_0
              try clear hfz14_1
              try clear hfz14_2
              try clear hfz14_3
              try clear hfz14_4
              try clear hfz19_0
              try clear hfz19_1
              try clear hfz19_2
              try clear hfz19_3
              try clear hfz19_4
              try clear hfz24_0
              try clear hfz24_1
              try clear hfz24_2
              try clear hfz24_3
              try clear hfz24_4
              try clear hfz26_0
              try clear hfz26_1
              try clear hfz26_2
              try clear hfz26_3
              try clear hfz26_4
              try clear hfz7_0
              try clear hfz7_1
              try clear hfz7_2
              try clear hfz7_3
              try clear hfz7_4
              try clear hx360_0
              try clear hx360_1
              try clear hx360_2
              try clear hx360_3
              try clear hx360_4
              try clear p2
              try clear p3
              try clear p360
              try clear q3
              try clear q360
              try clear q8
              obtain ⟨x3_5, x44_5, rfl, rfl, HA, HK5, BK361, HB⟩ := hrel
              cases gk with
              | zero => exact absurd HA.out (by simp [qw.l1])
              | succ k5 =>
               have H := HA.out
               clear HA
               simp only [qw.l1] at H
               by_cases c27 : x44_5 < (((qg l0 x9_1).f4).length : Int)
               ·rw [if_pos c27] at H
                have c27b0 : decide (x44_5 < (((qg l0 x9_1).f4).length : Int)) = true := decide_eq_true c27
                clear c27
                by_cases c28 : x3_5.size + 1 ≤ 9223372036854775807
                ·rw [if_pos c28] at H
                 have c28b0 := eq_true c28
                 have c28b1 : decide (x3_5.size + 1 ≤ 9223372036854775807) = true := decide_eq_true c28
                 try have c28b2 : (9223372036854775807 < x3_5.size + 1) = False := eq_false (Nat.not_lt.2 c28)
                 by_cases c29 : 0 ≤ x44_5
                 ·rw [if_pos c29] at H
                  have c29b0 : decide (0 ≤ x44_5) = true := decide_eq_true c29
                  clear c29
                  by_cases c30 : x44_5 < (((qg l0 x9_1).f4).length : Int)
                  ·rw [if_pos c30] at H
                   have c30b0 : decide (x44_5 < (((qg l0 x9_1).f4).length : Int)) = true := decide_eq_true c30
                   clear c30
                   by_cases c31 : (x3_5.size + 1) + ((qgb ((qg l0 x9_1).f4) x44_5).f0).size ≤ 9223372036854775807
                   ·rw [if_pos c31] at H
                    have c31b0 := eq_true c31
                    have c31b1 : decide ((x3_5.size + 1) + ((qgb ((qg l0 x9_1).f4) x44_5).f0).size ≤ 9223372036854775807) = true := decide_eq_true c31
                    try have c31b2 : (9223372036854775807 < (x3_5.size + 1) + ((qgb ((qg l0 x9_1).f4) x44_5).f0).size) = False := eq_false (Nat.not_lt.2 c31)
                    obtain ⟨bq32, hbq32⟩ : ∃ b_ : Bool, b_ = ((qgb ((qg l0 x9_1).f4) x44_5).f2) := ⟨_, rfl⟩
                    replace H : (if bq32 = true then (if ((x3_5.size + 1) + ((qgb ((qg l0 x9_1).f4) x44_5).f0).size) + 1 ≤ 9223372036854775807 then ((quc.f k5 ((qgb ((qg l0 x9_1).f4) x44_5).f1)).bind fun t366 => (if (((x3_5.size + 1) + ((qgb ((qg l0 x9_1).f4) x44_5).f0).size) + 1) + t366.size ≤ 9223372036854775807 then (if ((((x3_5.size + 1) + ((qgb ((qg l0 x9_1).f4) x44_5).f0).size) + 1) + t366.size) + 1 ≤ 9223372036854775807 then (qw.l1 k5 l0 (((((x3_5 ++ (⟨#[91]⟩ : ByteArray)) ++ ((qgb ((qg l0 x9_1).f4) x44_5).f0)) ++ (⟨#[61]⟩ : ByteArray)) ++ t366) ++ (⟨#[93]⟩ : ByteArray)) (l0.length : Int) x9_1 (((qg l0 x9_1).f4).length : Int) (wrap64 (x44_5 + 1)) ((qg l0 x9_1).f0) ((qg l0 x9_1).f1) ((qg l0 x9_1).f2) ((qg l0 x9_1).f3) ((qg l0 x9_1).f4)) else (none)) else (none))) else (none)) else (if ((x3_5.size + 1) + ((qgb ((qg l0 x9_1).f4) x44_5).f0).size) + 1 ≤ 9223372036854775807 then (qw.l1 k5 l0 (((x3_5 ++ (⟨#[91]⟩ : ByteArray)) ++ ((qgb ((qg l0 x9_1).f4) x44_5).f0)) ++ (⟨#[93]⟩ : ByteArray)) (l0.length : Int) x9_1 (((qg l0 x9_1).f4).length : Int) (wrap64 (x44_5 + 1)) ((qg l0 x9_1).f0) ((qg l0 x9_1).f1) ((qg l0 x9_1).f2) ((qg l0 x9_1).f3) ((qg l0 x9_1).f4)) else (none))) = some r := by rw [← hbq32] at H; exact H
                    have Nbq32 := qa.mk hbq32
                    clear hbq32
                    (try rw [← Nbq32.out])
                    by_cases c33 : bq32 = true
                    ·subst c33
                     have H1 : (if ((x3_5.size + 1) + ((qgb ((qg l0 x9_1).f4) x44_5).f0).size) + 1 ≤ 9223372036854775807 then ((quc.f k5 ((qgb ((qg l0 x9_1).f4) x44_5).f1)).bind fun t366 => (if (((x3_5.size + 1) + ((qgb ((qg l0 x9_1).f4) x44_5).f0).size) + 1) + t366.size ≤ 9223372036854775807 then (if ((((x3_5.size + 1) + ((qgb ((qg l0 x9_1).f4) x44_5).f0).size) + 1) + t366.size) + 1 ≤ 9223372036854775807 then (qw.l1 k5 l0 (((((x3_5 ++ (⟨#[91]⟩ : ByteArray)) ++ ((qgb ((qg l0 x9_1).f4) x44_5).f0)) ++ (⟨#[61]⟩ : ByteArray)) ++ t366) ++ (⟨#[93]⟩ : ByteArray)) (l0.length : Int) x9_1 (((qg l0 x9_1).f4).length : Int) (wrap64 (x44_5 + 1)) ((qg l0 x9_1).f0) ((qg l0 x9_1).f1) ((qg l0 x9_1).f2) ((qg l0 x9_1).f3) ((qg l0 x9_1).f4)) else (none)) else (none))) else (none)) = some r := by rw [if_pos rfl] at H; exact H
                     clear H
                     have H := H1
                     clear H1
                     by_cases c34 : ((x3_5.size + 1) + ((qgb ((qg l0 x9_1).f4) x44_5).f0).size) + 1 ≤ 9223372036854775807
                     ·rw [if_pos c34] at H
                      have c34b0 := eq_true c34
                      have c34b1 : decide (((x3_5.size + 1) + ((qgb ((qg l0 x9_1).f4) x44_5).f0).size) + 1 ≤ 9223372036854775807) = true := decide_eq_true c34
                      try have c34b2 : (9223372036854775807 < ((x3_5.size + 1) + ((qgb ((qg l0 x9_1).f4) x44_5).f0).size) + 1) = False := eq_false (Nat.not_lt.2 c34)
                      replace H := Option.bind_eq_some_iff.mp H
                      obtain ⟨t366, A350, H⟩ := H
                      replace H : (if (((x3_5.size + 1) + ((qgb ((qg l0 x9_1).f4) x44_5).f0).size) + 1) + t366.size ≤ 9223372036854775807 then (if ((((x3_5.size + 1) + ((qgb ((qg l0 x9_1).f4) x44_5).f0).size) + 1) + t366.size) + 1 ≤ 9223372036854775807 then (qw.l1 k5 l0 (((((x3_5 ++ (⟨#[91]⟩ : ByteArray)) ++ ((qgb ((qg l0 x9_1).f4) x44_5).f0)) ++ (⟨#[61]⟩ : ByteArray)) ++ t366) ++ (⟨#[93]⟩ : ByteArray)) (l0.length : Int) x9_1 (((qg l0 x9_1).f4).length : Int) (wrap64 (x44_5 + 1)) ((qg l0 x9_1).f0) ((qg l0 x9_1).f1) ((qg l0 x9_1).f2) ((qg l0 x9_1).f3) ((qg l0 x9_1).f4)) else (none)) else (none)) = some r := H
                      have A35 := qa.mk A350
                      clear A350
                      by_cases c36 : (((x3_5.size + 1) + ((qgb ((qg l0 x9_1).f4) x44_5).f0).size) + 1) + t366.size ≤ 9223372036854775807
                      ·rw [if_pos c36] at H
                       have c36b0 := eq_true c36
                       have c36b1 : decide ((((x3_5.size + 1) + ((qgb ((qg l0 x9_1).f4) x44_5).f0).size) + 1) + t366.size ≤ 9223372036854775807) = true := decide_eq_true c36
                       try have c36b2 : (9223372036854775807 < (((x3_5.size + 1) + ((qgb ((qg l0 x9_1).f4) x44_5).f0).size) + 1) + t366.size) = False := eq_false (Nat.not_lt.2 c36)
                       by_cases c37 : ((((x3_5.size + 1) + ((qgb ((qg l0 x9_1).f4) x44_5).f0).size) + 1) + t366.size) + 1 ≤ 9223372036854775807
                       ·rw [if_pos c37] at H
                        have c37b0 := eq_true c37
                        have c37b1 : decide (((((x3_5.size + 1) + ((qgb ((qg l0 x9_1).f4) x44_5).f0).size) + 1) + t366.size) + 1 ≤ 9223372036854775807) = true := decide_eq_true c37
                        try have c37b2 : (9223372036854775807 < ((((x3_5.size + 1) + ((qgb ((qg l0 x9_1).f4) x44_5).f0).size) + 1) + t366.size) + 1) = False := eq_false (Nat.not_lt.2 c37)
                        have H' := qa.mk H
                        clear H
                        have hcz38_0 : wr.cell? ⟨gb361, 0, none⟩ = some (.bool ((qg l0 x9_1).f0)) := (qh BK361.out 0).trans rfl
                        have hcz38_1 : wr.cell? ⟨gb361, 1, none⟩ = some (.bool ((qg l0 x9_1).f1)) := (qh BK361.out 1).trans rfl
                        have hcz38_2 : wr.cell? ⟨gb361, 2, none⟩ = some (.string ((qg l0 x9_1).f2)) := (qh BK361.out 2).trans rfl
                        have hcz38_3 : wr.cell? ⟨gb361, 3, none⟩ = some (.string ((qg l0 x9_1).f3)) := (qh BK361.out 3).trans rfl
                        have hcz38_4 : wr.cell? ⟨gb361, 4, none⟩ = some (.slice A360_4 ((qg l0 x9_1).f4).length c360_4) := (qh BK361.out 4).trans rfl
                        have hfz38_0 := qf BK361.out 0
                        have hfz38_1 := qf BK361.out 1
                        have hfz38_2 := qf BK361.out 2
                        have hfz38_3 := qf BK361.out 3
                        have hfz38_4 := qf BK361.out 4
                        have p363 : 0 ≤ (x44_5 : Int) := of_decide_eq_true zz12
                        have q363 : x44_5 < (((qg l0 x9_1).f4).length : Int) := of_decide_eq_true zz12
                        obtain ⟨ad363, e363, hx363_0, hx363_1, hx363_2⟩ := at_T61 HR360_4.out x44_5 p363 q363
                        (try rw [← Nbq32.out] at hx363_2)
                        cases e363
                        replace hx363_0 := (HB.out.cell (qwc w _ hx363_0)).trans hx363_0
                        replace hx363_1 := (HB.out.cell (qwc w _ hx363_1)).trans hx363_1
                        replace hx363_2 := (HB.out.cell (qwc w _ hx363_2)).trans hx363_2
                        replace p363 := eq_true p363
                        replace q363 := eq_true q363
                        have p364 : 0 ≤ (x44_5 : Int) := of_decide_eq_true zz12
                        have q364 : x44_5 < (((qg l0 x9_1).f4).length : Int) := of_decide_eq_true zz12
                        obtain ⟨ad364, e364, hx364_0, hx364_1, hx364_2⟩ := at_T61 HR360_4.out x44_5 p364 q364
                        (try rw [← Nbq32.out] at hx364_2)
                        obtain rfl : ad363 = ad364 := (by injection e364)
                        replace hx364_0 := (HB.out.cell (qwc w _ hx364_0)).trans hx364_0
                        replace hx364_1 := (HB.out.cell (qwc w _ hx364_1)).trans hx364_1
                        replace hx364_2 := (HB.out.cell (qwc w _ hx364_2)).trans hx364_2
                        replace p364 := eq_true p364
                        replace q364 := eq_true q364
                        have p365 : 0 ≤ (x44_5 : Int) := of_decide_eq_true zz12
                        have q365 : x44_5 < (((qg l0 x9_1).f4).length : Int) := of_decide_eq_true zz12
                        obtain ⟨ad365, e365, hx365_0, hx365_1, hx365_2⟩ := at_T61 HR360_4.out x44_5 p365 q365
                        (try rw [← Nbq32.out] at hx365_2)
                        obtain rfl : ad363 = ad365 := (by injection e365)
                        replace hx365_0 := (HB.out.cell (qwc w _ hx365_0)).trans hx365_0
                        replace hx365_1 := (HB.out.cell (qwc w _ hx365_1)).trans hx365_1
                        replace hx365_2 := (HB.out.cell (qwc w _ hx365_2)).trans hx365_2
                        replace p365 := eq_true p365
                        replace q365 := eq_true q365
                        go_wp2_with (first | ((with_reducible refine qy (f := 21) rfl ?_); refine qqb (some 70) rfl rfl Tryd.func21 (by kernel_rfl) rfl #[.string ((qgb ((qg l0 x9_1).f4) x44_5).f1)] rfl zz94 ?_; (with_reducible refine (quc.calls k5 ((qgb ((qg l0 x9_1).f4) x44_5).f1) t366 _ A35.out).mono ?_); rintro e w39 ⟨rfl, hb⟩; refine ⟨_, rfl, ?_⟩; have n0_ := qa.mk (qmb (g := gb361) (o := .cells #[.bool ((qg l0 x9_1).f0), .bool ((qg l0 x9_1).f1), .string ((qg l0 x9_1).f2), .string ((qg l0 x9_1).f3), .slice (some ad363) ((qg l0 x9_1).f4).length c360_4] 60 (0, 0)) zz52 hb); have n1_ := qa.mk (qp zz89 hb); clear BK361; clear HB; have BK361 := n0_; have HB := n1_; clear n0_ n1_; (try clear hb); (try clear hb2); (try clear hk); (try clear hi)))
                        go_roundg k5
                        case measure => have := HK1.out; have := HJ4.out; have := HJ12.out; have := HJ17.out; have := HK5.out; omega
                        case rel => (try rw [← Nbq32.out]); exact ⟨(((((x3_5 ++ (⟨#[91]⟩ : ByteArray)) ++ ((qgb ((qg l0 x9_1).f4) x44_5).f0)) ++ (⟨#[61]⟩ : ByteArray)) ++ t366) ++ (⟨#[93]⟩ : ByteArray)), (wrap64 (x44_5 + 1)), zz7, zz7, H', ⟨zz42⟩, ⟨zz52⟩, ⟨zz89⟩⟩
                       ·rw [if_neg c37] at H
                        exact absurd H (by simp)
                      ·rw [if_neg c36] at H
                       exact absurd H (by simp)
                     ·rw [if_neg c34] at H
                      exact absurd H (by simp)
                    ·replace c33 := Bool.eq_false_iff.mpr c33
                     subst c33
                     have H1 : (if ((x3_5.size + 1) + ((qgb ((qg l0 x9_1).f4) x44_5).f0).size) + 1 ≤ 9223372036854775807 then (qw.l1 k5 l0 (((x3_5 ++ (⟨#[91]⟩ : ByteArray)) ++ ((qgb ((qg l0 x9_1).f4) x44_5).f0)) ++ (⟨#[93]⟩ : ByteArray)) (l0.length : Int) x9_1 (((qg l0 x9_1).f4).length : Int) (wrap64 (x44_5 + 1)) ((qg l0 x9_1).f0) ((qg l0 x9_1).f1) ((qg l0 x9_1).f2) ((qg l0 x9_1).f3) ((qg l0 x9_1).f4)) else (none)) = some r := by rw [if_neg (show ¬ (false = true) by decide)] at H; exact H
                     clear H
                     have H := H1
                     clear H1
                     by_cases c40 : ((x3_5.size + 1) + ((qgb ((qg l0 x9_1).f4) x44_5).f0).size) + 1 ≤ 9223372036854775807
                     ·rw [if_pos c40] at H
                      have c40b0 := eq_true c40
                      have c40b1 : decide (((x3_5.size + 1) + ((qgb ((qg l0 x9_1).f4) x44_5).f0).size) + 1 ≤ 9223372036854775807) = true := decide_eq_true c40
                      try have c40b2 : (9223372036854775807 < ((x3_5.size + 1) + ((qgb ((qg l0 x9_1).f4) x44_5).f0).size) + 1) = False := eq_false (Nat.not_lt.2 c40)
                      have H' := qa.mk H
                      clear H
                      have hcz41_0 : wr.cell? ⟨gb361, 0, none⟩ = some (.bool ((qg l0 x9_1).f0)) := (qh BK361.out 0).trans rfl
                      have hcz41_1 : wr.cell? ⟨gb361, 1, none⟩ = some (.bool ((qg l0 x9_1).f1)) := (qh BK361.out 1).trans rfl
                      have hcz41_2 : wr.cell? ⟨gb361, 2, none⟩ = some (.string ((qg l0 x9_1).f2)) := (qh BK361.out 2).trans rfl
                      have hcz41_3 : wr.cell? ⟨gb361, 3, none⟩ = some (.string ((qg l0 x9_1).f3)) := (qh BK361.out 3).trans rfl
                      have hcz41_4 : wr.cell? ⟨gb361, 4, none⟩ = some (.slice A360_4 ((qg l0 x9_1).f4).length c360_4) := (qh BK361.out 4).trans rfl
                      have hfz41_0 := qf BK361.out 0
                      have hfz41_1 := qf BK361.out 1
                      have hfz41_2 := qf BK361.out 2
                      have hfz41_3 := qf BK361.out 3
                      have hfz41_4 := qf BK361.out 4
                      have p363 : 0 ≤ (x44_5 : Int) := of_decide_eq_true zz12
                      have q363 : x44_5 < (((qg l0 x9_1).f4).length : Int) := of_decide_eq_true zz12
                      obtain ⟨ad363, e363, hx363_0, hx363_1, hx363_2⟩ := at_T61 HR360_4.out x44_5 p363 q363
                      (try rw [← Nbq32.out] at hx363_2)
                      cases e363
                      replace hx363_0 := (HB.out.cell (qwc w _ hx363_0)).trans hx363_0
                      replace hx363_1 := (HB.out.cell (qwc w _ hx363_1)).trans hx363_1
                      replace hx363_2 := (HB.out.cell (qwc w _ hx363_2)).trans hx363_2
                      replace p363 := eq_true p363
                      replace q363 := eq_true q363
                      have p364 : 0 ≤ (x44_5 : Int) := of_decide_eq_true zz12
                      have q364 : x44_5 < (((qg l0 x9_1).f4).length : Int) := of_decide_eq_true zz12
                      obtain ⟨ad364, e364, hx364_0, hx364_1, hx364_2⟩ := at_T61 HR360_4.out x44_5 p364 q364
                      (try rw [← Nbq32.out] at hx364_2)
                      obtain rfl : ad363 = ad364 := (by injection e364)
                      replace hx364_0 := (HB.out.cell (qwc w _ hx364_0)).trans hx364_0
                      replace hx364_1 := (HB.out.cell (qwc w _ hx364_1)).trans hx364_1
                      replace hx364_2 := (HB.out.cell (qwc w _ hx364_2)).trans hx364_2
                      replace p364 := eq_true p364
                      replace q364 := eq_true q364
                      go_wp2
                      go_roundg k5
                      case measure => have := HK1.out; have := HJ4.out; have := HJ12.out; have := HJ17.out; have := HK5.out; omega
                      case rel => (try rw [← Nbq32.out]); exact ⟨(((x3_5 ++ (⟨#[91]⟩ : ByteArray)) ++ ((qgb ((qg l0 x9_1).f4) x44_5).f0)) ++ (⟨#[93]⟩ : ByteArray)), (wrap64 (x44_5 + 1)), zz7, zz7, H', ⟨zz42⟩, ⟨zz52⟩, ⟨zz89⟩⟩
                     ·rw [if_neg c40] at H
                      exact absurd H (by simp)
                   ·rw [if_neg c31] at H
                    exact absurd H (by simp)
                  ·rw [if_neg c30] at H
                   exact absurd H (by simp)
                 ·rw [if_neg c29] at H
                  exact absurd H (by simp)
                ·rw [if_neg c28] at H
                 exact absurd H (by simp)
               ·rw [if_neg c27] at H
                have c27b0 : decide (x44_5 < (((qg l0 x9_1).f4).length : Int)) = false := decide_eq_false c27
                clear c27
                have H' := qa.mk H
                clear H
                go_wp2
                go_roundg k5
                case measure => have := HK1.out; have := HJ4.out; have := HJ12.out; have := HJ17.out; have := HK5.out; omega
                case rel => exact ⟨(x3_5), (wrap64 (x9_1 + 1)), zz7, zz7, H', ⟨zz42⟩, ⟨zz89⟩⟩
          ·rw [if_neg c17] at H
           exact absurd H (by simp)
     ·rw [if_neg c4] at H
      exact absurd H (by simp)
    ·rw [if_neg c3] at H
     exact absurd H (by simp)
   ·rw [if_neg c2] at H
    have c2b0 : decide (x9_1 < (l0.length : Int)) = false := decide_eq_false c2
    clear c2
    obtain rfl := Option.some.inj H
    go_wp2
    go_ret
    exact ⟨zz103, zz53⟩
def formL (c : Int) : List UInt8 :=
 if c = 38 then [38, 97, 109, 112, 59] else if c = 60 then [38, 108, 116, 59] else if c = 62 then [38, 103, 116, 59] else if c = 34 then [38, 113, 117, 111, 116, 59]
 else if c = 127 ∨ c < 32 then [38, 35] ++ Lib.itoa c ++ [59] else []
def escape_form.f (a0 : Int) : Option ByteArray := if 0 ≤ a0 ∧ a0 ≤ 255 then some ⟨(formL a0).toArray⟩ else none
theorem itoa_short (c : Nat) (h : c < 256) : (Lib.itoa (c : Int)).length ≤ 3 := by
 have : ∀ c : Fin 256, (Lib.itoa (c.val : Int)).length ≤ 3 := by decide +kernel
 exact this ⟨c, h⟩
set_option maxHeartbeats 4000000 in
set_option maxRecDepth 100000 in
theorem escape_form.number (b : Nat) (a0 : Int) (w : World) (hG : Glob w) (h0 : 0 ≤ a0) (h1 : a0 ≤ 255) (hc : w.cell? ⟨b, 0, none⟩ = some (.int .u8 a0)) :
  Calls Tryd.prog 57 #[.pointer (some ⟨b, 0, none⟩)] w fun e w' => e = .returned (.string ⟨([38, 35] ++ Lib.itoa a0 ++ [59]).toArray⟩) ∧ Below w.heap.size w w' := by
 have HG := qa.mk hG
 have hl : (Lib.itoa a0).length ≤ 3 := by
  obtain ⟨n, rfl⟩ := Int.eq_ofNat_of_zero_le h0
  exact itoa_short n (by omega)
 have HF := qa.mk (show ∀ l : List UInt8, (⟨#[38, 35]⟩ : ByteArray) ++ ⟨l.toArray⟩ ++ ⟨#[59]⟩ = ⟨([38, 35] ++ l ++ [59]).toArray⟩ from fun l => by
  apply ByteArray.ext; simp)
 clear hG
 go_enter Tryd.func57, Tryd.ntmps57
 go_wp2_with (go_at_call 58; refine (Tryd.strconv_Itoa a0 (by omega) (by omega) _ HG.out.1).mono ?_; rintro e w2 ⟨rfl, k, os, hw⟩; have HB := qa.mk (show Below w.heap.size w w2 from by rw [hw]; exact Lib.below_grow _ _ (Nat.le_refl _) _ _); clear hw)
 go_ret
 exact ⟨by rw [HF.out]; simp, HB.out⟩
set_option maxHeartbeats 4000000 in
set_option maxRecDepth 100000 in
theorem escape_form.calls (a0 : Int) (r : ByteArray) (w : World) (hG : Glob w) (h : escape_form.f a0 = some r) :
  Calls Tryd.prog 39 #[.int .u8 a0] w fun e w' => e = .returned (.string r) ∧ Below w.heap.size w w' := by
 unfold escape_form.f at h
 by_cases hb : 0 ≤ a0 ∧ a0 ≤ 255
 rotate_left
 ·rw [if_neg hb] at h
  cases h
 rw [if_pos hb] at h
 obtain rfl := Option.some.inj h
 obtain ⟨h0, h1⟩ := hb
 clear h
 have HG := qa.mk hG
 clear hG
 have HX : ∀ x, formL a0 = x → qa (formL a0 = x) := fun _ h => ⟨h⟩
 by_cases c1 : a0 = 38
 ·have c1b : (a0 == 38) = true := by simp [c1]
  have H := HX _ (by unfold formL; rw [if_pos c1])
  clear c1 HX
  go_enter Tryd.func39, Tryd.ntmps39
  go_wp2
  go_ret
  exact ⟨by rw [H.out]; rfl, (Below.refl _ _).alloc (Nat.le_refl _) _⟩
 have c1b : (a0 == 38) = false := by simp [c1]
 by_cases c2 : a0 = 60
 ·have c2b : (a0 == 60) = true := by simp [c2]
  have H := HX _ (by unfold formL; rw [if_neg c1, if_pos c2])
  clear c1 c2 HX
  go_enter Tryd.func39, Tryd.ntmps39
  go_wp2
  go_ret
  exact ⟨by rw [H.out]; rfl, (Below.refl _ _).alloc (Nat.le_refl _) _⟩
 have c2b : (a0 == 60) = false := by simp [c2]
 by_cases c3 : a0 = 62
 ·have c3b : (a0 == 62) = true := by simp [c3]
  have H := HX _ (by unfold formL; rw [if_neg c1, if_neg c2, if_pos c3])
  clear c1 c2 c3 HX
  go_enter Tryd.func39, Tryd.ntmps39
  go_wp2
  go_ret
  exact ⟨by rw [H.out]; rfl, (Below.refl _ _).alloc (Nat.le_refl _) _⟩
 have c3b : (a0 == 62) = false := by simp [c3]
 by_cases c4 : a0 = 34
 ·have c4b : (a0 == 34) = true := by simp [c4]
  have H := HX _ (by unfold formL; rw [if_neg c1, if_neg c2, if_neg c3, if_pos c4])
  clear c1 c2 c3 c4 HX
  go_enter Tryd.func39, Tryd.ntmps39
  go_wp2
  go_ret
  exact ⟨by rw [H.out]; rfl, (Below.refl _ _).alloc (Nat.le_refl _) _⟩
 have c4b : (a0 == 34) = false := by simp [c4]
 by_cases c5 : a0 = 127
 ·have c5b : (a0 == 127) = true := by simp [c5]
  have H := HX _ (by unfold formL; rw [if_neg c1, if_neg c2, if_neg c3, if_neg c4, if_pos (.inl c5)])
  clear c1 c2 c3 c4 c5 HX
  go_enter Tryd.func39, Tryd.ntmps39
  go_wp2_with (go_at_call 57; refine (escape_form.number _ a0 _ (Glob.below HG.out (qc (Below.refl _ _) _)) h0 h1 ?hc).mono ?_; (case hc => simp); rintro e w2 ⟨rfl, hb⟩; have HB := qa.mk (qp (w := w) (qc (Below.refl _ _) _) hb); clear hb)
  go_ret
  exact ⟨by rw [H.out]; rfl, HB.out⟩
 have c5b : (a0 == 127) = false := by simp [c5]
 by_cases c6 : a0 < 32
 ·have H := HX _ (by unfold formL; rw [if_neg c1, if_neg c2, if_neg c3, if_neg c4, if_pos (.inr c6)])
  clear c1 c2 c3 c4 c5 HX
  go_enter Tryd.func39, Tryd.ntmps39
  go_wp2_with (go_at_call 57; refine (escape_form.number _ a0 _ (Glob.below HG.out (qc (Below.refl _ _) _)) h0 h1 ?hc).mono ?_; (case hc => simp); rintro e w2 ⟨rfl, hb⟩; have HB := qa.mk (qp (w := w) (qc (Below.refl _ _) _) hb); clear hb)
  go_ret
  exact ⟨by rw [H.out]; rfl, HB.out⟩
 have H := HX _ (by unfold formL; rw [if_neg c1, if_neg c2, if_neg c3, if_neg c4, if_neg (by omega)])
 clear c1 c2 c3 c4 c5 HX
 go_enter Tryd.func39, Tryd.ntmps39
 go_wp2
 go_ret
 exact ⟨by rw [H.out]; rfl, (Below.refl _ _).alloc (Nat.le_refl _) _⟩
def putL (c : UInt8) : List UInt8 := if formL c.toNat = [] then [c] else formL c.toNat
def escL (l : List UInt8) : List UInt8 := l.flatMap putL
def escape_Escape.f (a0 : ByteArray) : Option ByteArray := if a0.size ≤ 16777216000000 then some ⟨(escL a0.data.toList).toArray⟩ else none
theorem putL_len (c : UInt8) : (putL c).length ≤ 6 ∧ 1 ≤ (putL c).length := by
 have : ∀ c : Fin 256, (putL (UInt8.ofNat c.val)).length ≤ 6 ∧ 1 ≤ (putL (UInt8.ofNat c.val)).length := by decide +kernel
 have h := this ⟨c.toNat, c.toNat_lt⟩
 simpa using h
theorem escL_len (l : List UInt8) : (escL l).length ≤ 6 * l.length := by
 induction l with
 | nil => simp [escL]
 | cons c l ih =>
  have h1 := putL_len c
  simp only [escL, List.flatMap_cons, List.length_append, List.length_cons] at ih ⊢
  omega
theorem escL_take (s : ByteArray) (k : Nat) (h : k < s.size) : escL (s.data.toList.take (k + 1)) = escL (s.data.toList.take k) ++ putL s[k] := by
 rw [List.take_succ_eq_append_getElem (by simpa using h)]
 simp [escL]
 rfl
theorem bt_nat (s : ByteArray) (k : Nat) (h : k < s.size) : bt s (k : Int) = (s[k].toNat : Int) := by
 have := bt_at s (k : Int) (by simpa using h)
 simpa using this.symm
set_option maxHeartbeats 8000000 in
set_option maxRecDepth 100000 in
theorem escape_Escape.calls (a0 : ByteArray) (r : ByteArray) (w : World) (hG : Glob w) (h : escape_Escape.f a0 = some r) :
  Calls Tryd.prog 26 #[.string a0] w fun e w' => e = .returned (.string r) ∧ Below w.heap.size w w' := by
 unfold escape_Escape.f at h
 by_cases hl : a0.size ≤ 16777216000000
 rotate_left
 ·rw [if_neg hl] at h
  cases h
 rw [if_pos hl] at h
 obtain rfl := Option.some.inj h
 have HG := qa.mk hG
 clear hG h
 go_enter Tryd.func26, Tryd.ntmps26
 go_wp2
 go_loopg [8] (a0.size + 1) (fun kq v8 w' => ∃ (j : Nat), v8 = .int .i64 (j : Int) ∧ qa (j ≤ a0.size ∧ kq = a0.size + 1 - j) ∧ qa (Bld w.heap.size (escL (a0.data.toList.take j)) w') ∧ qa (Below w.heap.size w w'))
 case atStart => exact ⟨0, rfl, ⟨Nat.zero_le _, rfl⟩, ⟨by simpa [escL] using Bld.fresh w⟩, ⟨qc (Below.refl _ _) _⟩⟩
 case round =>
  obtain ⟨j, rfl, HJ, HI, HB⟩ := hrel
  obtain ⟨hj, hk⟩ := HJ.out
  clear HJ
  subst hk
  have hsz : w.heap.size ≤ wr.heap.size := HB.out.size
  have hacc := escL_len (a0.data.toList.take j)
  have hta : (a0.data.toList.take j).length ≤ j := List.length_take_le _ _
  by_cases hlt : j < a0.size
  ·have HT := qa.mk (escL_take a0 j hlt)
   have hpl := putL_len a0[j]
   have HP := qa.mk (show putL a0[j] = if formL (a0[j].toNat : Int) = [] then [a0[j]] else formL (a0[j].toNat : Int) from rfl)
   have hb255 : (a0[j].toNat : Int) ≤ 255 := by have := a0[j].toNat_lt; omega
   have HF := qa.mk (show escape_form.f (a0[j].toNat : Int) = some ⟨(formL (a0[j].toNat : Int)).toArray⟩ from if_pos ⟨by omega, hb255⟩)
   clear HT HP
   have HN := qa.mk (escL_take a0 j hlt)
   by_cases hf : formL (a0[j].toNat : Int) = []
   ·have HE := qa.mk hf
    have HN2 := qa.mk (show putL a0[j] = [a0[j]] from if_pos hf)
    clear hf
    go_wp2_with (first | (go_at_call 39; refine (escape_form.calls _ _ _ (Glob.below HG.out HB.out) HF.out).mono ?_; rintro e w2 ⟨rfl, hb⟩; have HB2 := qa.mk (qp HB.out hb); have HI2 := qa.mk (HI.out.below hb); have hs2 := HB2.out.size; clear hb; rw [HE.out]) | (go_at_call 24; refine (Bld.byte w.heap.size _ (a0[j].toNat : Int) _ HI2.out (by omega) hb255 (by omega) hs2).mono ?_; rintro e w3 ⟨rfl, h3, hb3, _⟩; have HB3 := qa.mk (HB2.out.trans hb3); have HI3 := qa.mk h3; clear h3 hb3))
    go_roundg (a0.size + 1 - (j + 1))
    case measure => omega
    case rel =>
     refine ⟨j + 1, by go_num, ⟨by omega, rfl⟩, ⟨?_⟩, HB3⟩
     rw [HN.out, HN2.out]
     simpa using HI3.out
   ·have HE := qa.mk hf
    have HN2 := qa.mk (show putL a0[j] = formL (a0[j].toNat : Int) from if_neg hf)
    have hz : (formL (a0[j].toNat : Int)).length ≤ 6 := by have := hpl.1; rw [HN2.out] at this; exact this
    have c1 : (formL (a0[j].toNat : Int)).isEmpty = false := by simpa using hf
    have HS := qa.mk (show (escL (a0.data.toList.take j)).length + (⟨(formL (a0[j].toNat : Int)).toArray⟩ : ByteArray).size ≤ 140737488355328 from by
     have e : (⟨(formL (a0[j].toNat : Int)).toArray⟩ : ByteArray).size = (formL (a0[j].toNat : Int)).length := by show (formL (a0[j].toNat : Int)).toArray.size = _; rw [List.size_toArray]
     omega)
    clear hf
    go_wp2_with (first | (go_at_call 39; refine (escape_form.calls _ _ _ (Glob.below HG.out HB.out) HF.out).mono ?_; rintro e w2 ⟨rfl, hb⟩; have HB2 := qa.mk (qp HB.out hb); have HI2 := qa.mk (HI.out.below hb); have hs2 := HB2.out.size; clear hb) | (go_at_call 25; refine (Bld.str w.heap.size _ _ _ HI2.out HS.out hs2).mono ?_; rintro e w3 ⟨rfl, h3, hb3, _⟩; have HB3 := qa.mk (HB2.out.trans hb3); have HI3 := qa.mk h3; clear h3 hb3))
    go_roundg (a0.size + 1 - (j + 1))
    case measure => omega
    case rel =>
     refine ⟨j + 1, by go_num, ⟨by omega, rfl⟩, ⟨?_⟩, HB3⟩
     rw [HN.out, HN2.out]
     simpa using HI3.out
  ·have HN := qa.mk (show a0.data.toList.take j = a0.data.toList from List.take_of_length_le (by simp; exact Nat.le_of_not_lt hlt))
   go_wp2_with (go_at_call 27; refine (Bld.out w.heap.size _ _ HI.out hsz).mono ?_; rintro e w2 ⟨rfl, hb⟩; have HB2 := qa.mk (HB.out.trans hb); clear hb)
   go_ret
   exact ⟨by rw [HN.out]; rfl, HB2.out⟩
def condL (c : S33) : List UInt8 := [91] ++ c.f0.data.toList ++ (if c.f2 = true then [61, 34] ++ escL c.f1.data.toList ++ [34] else []) ++ [93]
def headL (first : Bool) (p : S41) : List UInt8 := if p.f0 = true then [62] else if first = true then [] else [32]
def tagL (p : S41) : List UInt8 := (if p.f2.toList = [] then [42] else []) ++ p.f2.data.toList
def keyL (p : S41) : List UInt8 := if p.f1 = true then [35, 34] ++ escL p.f3.data.toList ++ [34] else []
def partL (first : Bool) (p : S41) : List UInt8 := headL first p ++ tagL p ++ keyL p ++ p.f4.flatMap condL
def selL : List S41 → List UInt8
 | [] => []
 | p :: r => partL true p ++ r.flatMap (partL false)
def query_Print.f (l0 : List S41) : Option (ByteArray × Int) :=
 (qx.f 64 l0).bind fun e => if e = 0 then (if (selL l0).length ≤ 1000000000000 then some (⟨(selL l0).toArray⟩, 0) else none) else some ((⟨#[]⟩ : ByteArray), e)
theorem selL_take (l : List S41) (j : Nat) (h : j < l.length) : selL (l.take (j + 1)) = selL (l.take j) ++ partL (decide (j = 0)) l[j] := by
 cases j with
 | zero =>
  cases l with
  | nil => simp at h
  | cons p r => simp [selL]
 | succ j =>
  cases l with
  | nil => simp at h
  | cons p r =>
   have h2 : j < r.length := by simpa using h
   simp only [selL, List.take_succ_cons, List.getElem_cons_succ]
   rw [List.take_succ_eq_append_getElem h2, List.flatMap_append]
   simp
theorem selL_split (l : List S41) (j : Nat) (h : j < l.length) : ∃ z, selL l = selL (l.take (j + 1)) ++ z := by
 cases l with
 | nil => simp at h
 | cons p r => exact ⟨(r.drop j).flatMap (partL false), by simp only [List.take_succ_cons, selL, List.append_assoc]; rw [← List.flatMap_append, List.take_append_drop]⟩
theorem rd48 (l : List S41) (j : Nat) (h : j < l.length) : l[j] = qu l (j : Int) := by
 unfold qu
 rw [Int.toNat_natCast, List.getD_eq_getElem?_getD, List.getElem?_eq_getElem h]
 rfl
theorem rd50 (l : List S33) (j : Nat) (h : j < l.length) : l[j] = rd_T33 l (j : Int) := by
 unfold rd_T33
 rw [Int.toNat_natCast, List.getD_eq_getElem?_getD, List.getElem?_eq_getElem h]
 rfl
def PBox (g : Nat) (p0 p1 : Bool) (p2 p3 : ByteArray) (n : Nat) (A : Option Addr) (c : Nat) (W : World) : Prop := W.heap[g]? = some (.cells #[.bool p0, .bool p1, .string p2, .string p3, .slice A n c] 41 (0, 0))
theorem PBox.others {g B : Nat} {p0 p1 : Bool} {p2 p3 : ByteArray} {n : Nat} {A : Option Addr} {c : Nat} {W W1 : World} (h : PBox g p0 p1 p2 p3 n A c W) (ho : Lib.OthersKept 5 (some B) W W1) (hne : g ≠ B) : PBox g p0 p1 p2 p3 n A c W1 :=
 ho _ _ h (fun e => hne (Option.some.inj e)) (fun _ _ e => by injection e with _ e; cases e)
theorem PBox.below {g : Nat} {p0 p1 : Bool} {p2 p3 : ByteArray} {n : Nat} {A : Option Addr} {c : Nat} {W W1 : World} (h : PBox g p0 p1 p2 p3 n A c W) (hb : Below W.heap.size W W1) : PBox g p0 p1 p2 p3 n A c W1 := (hb.block g (Array.getElem?_eq_some_iff.1 h).1).trans h
theorem PBox.cells {g : Nat} {p0 p1 : Bool} {p2 p3 : ByteArray} {n : Nat} {A : Option Addr} {c : Nat} {W : World} (h : PBox g p0 p1 p2 p3 n A c W) : W.cell? ⟨g, 0, none⟩ = some (.bool p0) ∧ W.cell? ⟨g, 1, none⟩ = some (.bool p1) ∧ W.cell? ⟨g, 2, none⟩ = some (.string p2) ∧ W.cell? ⟨g, 3, none⟩ = some (.string p3) ∧ W.cell? ⟨g, 4, none⟩ = some (.slice A n c) :=
 ⟨(qh h 0).trans rfl, (qh h 1).trans rfl, (qh h 2).trans rfl, (qh h 3).trans rfl, (qh h 4).trans rfl⟩
def CBox (g : Nat) (q0 q1 : ByteArray) (q2 : Bool) (W : World) : Prop := W.heap[g]? = some (.cells #[.string q0, .string q1, .bool q2] 33 (0, 0))
theorem CBox.others {g B : Nat} {q0 q1 : ByteArray} {q2 : Bool} {W W1 : World} (h : CBox g q0 q1 q2 W) (ho : Lib.OthersKept 5 (some B) W W1) (hne : g ≠ B) : CBox g q0 q1 q2 W1 :=
 ho _ _ h (fun e => hne (Option.some.inj e)) (fun _ _ e => by injection e with _ e; cases e)
theorem CBox.below {g : Nat} {q0 q1 : ByteArray} {q2 : Bool} {W W1 : World} (h : CBox g q0 q1 q2 W) (hb : Below W.heap.size W W1) : CBox g q0 q1 q2 W1 := (hb.block g (Array.getElem?_eq_some_iff.1 h).1).trans h
theorem CBox.cells {g : Nat} {q0 q1 : ByteArray} {q2 : Bool} {W : World} (h : CBox g q0 q1 q2 W) : W.cell? ⟨g, 0, none⟩ = some (.string q0) ∧ W.cell? ⟨g, 1, none⟩ = some (.string q1) ∧ W.cell? ⟨g, 2, none⟩ = some (.bool q2) :=
 ⟨(qh h 0).trans rfl, (qh h 1).trans rfl, (qh h 2).trans rfl⟩
theorem CBox.lt {g : Nat} {q0 q1 : ByteArray} {q2 : Bool} {W : World} (h : CBox g q0 q1 q2 W) : g < W.heap.size := (Array.getElem?_eq_some_iff.1 h).1
theorem PBox.lt {g : Nat} {p0 p1 : Bool} {p2 p3 : ByteArray} {n : Nat} {A : Option Addr} {c : Nat} {W : World} (h : PBox g p0 p1 p2 p3 n A c W) : g < W.heap.size := (Array.getElem?_eq_some_iff.1 h).1
theorem cond_take (l : List S33) (i : Nat) (h : i < l.length) : (l.take (i + 1)).flatMap condL = (l.take i).flatMap condL ++ condL (rd_T33 l (i : Int)) := by
 rw [List.take_succ_eq_append_getElem h, List.flatMap_append, ← rd50 l i h]
 simp
theorem cond_le (l : List S33) (i : Nat) (h : i < l.length) : ((l.take i).flatMap condL).length + (condL (rd_T33 l (i : Int))).length ≤ (l.flatMap condL).length := by
 have h1 : l.flatMap condL = (l.take (i + 1)).flatMap condL ++ (l.drop (i + 1)).flatMap condL := by rw [← List.flatMap_append, List.take_append_drop]
 rw [h1, cond_take l i h]
 simp only [List.length_append]
 omega
theorem escL_ge (l : List UInt8) : l.length ≤ (escL l).length := by
 induction l with
 | nil => simp [escL]
 | cons c l ih =>
  have h1 := putL_len c
  simp only [escL, List.flatMap_cons, List.length_append, List.length_cons] at ih ⊢
  omega
theorem cat3_size (a b c : List UInt8) : ((⟨a.toArray⟩ : ByteArray) ++ ⟨b.toArray⟩ ++ ⟨c.toArray⟩).size = a.length + b.length + c.length := by
 rw [ByteArray.size_append, ByteArray.size_append]
 rfl
theorem cat3_list (a b c : List UInt8) : ((⟨a.toArray⟩ : ByteArray) ++ ⟨b.toArray⟩ ++ ⟨c.toArray⟩).data.toList = a ++ b ++ c := by
 rw [ByteArray.data_append, ByteArray.data_append]
 simp
set_option maxHeartbeats 8000000 in
set_option maxRecDepth 100000 in
theorem query_Print.calls (A0 : Option Addr) (c0 : Nat) (l0 : List S41) (r1 : ByteArray) (r2 : Int) (w : World) (hG : Glob w) (hr0 : Kd.C k41 w A0 l0.length l0) (hc0 : l0.length ≤ c0) (h : query_Print.f l0 = some (r1, r2)) :
  Calls Tryd.prog 14 #[.slice A0 l0.length c0] w fun e w' => e = .returned (.tuple #[.string r1, .int .i64 r2]) ∧ Below w.heap.size w w' := by
 obtain ⟨ec, hec, h⟩ := Option.bind_eq_some_iff.1 h
 have HE := qa.mk hec
 have HG := qa.mk hG
 have HR := qa.mk hr0
 have HC := qa.mk hc0
 have hm := hr0.2.1
 clear hG hr0 hc0 hec
 have hu1 := Tryd.underlying41
 have hu2 := Tryd.underlying33
 by_cases he : ec = 0
 rotate_left
 ·rw [if_neg he] at h
  simp only [Option.some.injEq, Prod.mk.injEq] at h
  obtain ⟨rfl, rfl⟩ := h
  have he1 : (ec == 0) = false := by simpa using he
  have he2 : (ec != 0) = true := by simpa using he
  clear he
  go_enter Tryd.func14, Tryd.ntmps14
  go_wp2_with (go_at_call 19; refine (qx.calls 64 _ _ _ _ _ HR.out HC.out HE.out).mono ?_; rintro e w2 ⟨rfl, hb⟩; have HB := qa.mk hb; clear hb)
  go_ret2
  exact ⟨rfl, HB.out⟩
 subst he
 rw [if_pos rfl] at h
 by_cases hlen : (selL l0).length ≤ 1000000000000
 rotate_left
 ·rw [if_neg hlen] at h
  cases h
 rw [if_pos hlen] at h
 simp only [Option.some.injEq, Prod.mk.injEq] at h
 obtain ⟨rfl, rfl⟩ := h
 have HL := qa.mk hlen
 clear hlen
 go_enter Tryd.func14, Tryd.ntmps14
 go_wp2_with (go_at_call 19; refine (qx.calls 64 _ _ _ _ _ HR.out HC.out HE.out).mono ?_; rintro e w2 ⟨rfl, hb⟩; have HB := qa.mk hb; have hs := hb.size; clear hb)
 go_loopg [17] (l0.length + 1) (fun kq v17 w' => ∃ (j : Nat), v17 = .int .i64 (j : Int) ∧ qa (j ≤ l0.length ∧ kq = l0.length + 1 - j) ∧ qa (Bld w2.heap.size (selL (l0.take j)) w') ∧ qa (Below w.heap.size w w') ∧ qa (w2.heap.size ≤ w'.heap.size))
 case atStart => exact ⟨0, rfl, ⟨Nat.zero_le _, rfl⟩, ⟨Bld.fresh w2⟩, ⟨qc HB.out _⟩, ⟨by simp⟩⟩
 case round =>
  obtain ⟨j, rfl, HJ, HI, HB, HS⟩ := hrel
  obtain ⟨hj, hk⟩ := HJ.out
  clear HJ
  subst hk
  have hs2 := HS.out
  by_cases hlt : j < l0.length
  ·obtain ⟨ad, A4, c4, e, hx0, hx1, hx2, hx3, hx4, hl4, hr4⟩ := at_T41 HR.out (j : Int) (by omega) (by omega)
   cases e
   replace hx0 := (HB.out.cell (qwc w _ hx0)).trans hx0
   replace hx1 := (HB.out.cell (qwc w _ hx1)).trans hx1
   replace hx2 := (HB.out.cell (qwc w _ hx2)).trans hx2
   replace hx3 := (HB.out.cell (qwc w _ hx3)).trans hx3
   replace hx4 := (HB.out.cell (qwc w _ hx4)).trans hx4
   rw [Int.toNat_natCast] at hx0 hx1 hx2 hx3 hx4
   have HT := qa.mk (selL_take l0 j hlt)
   rw [rd48 l0 j hlt] at HT
   have HR4 := qa.mk hr4
   have HL4 := qa.mk hl4
   clear hr4 hl4
   generalize qu l0 (j : Int) = p at *
   have HPL := qa.mk (show (selL (l0.take j)).length + (partL (decide (j = 0)) p).length ≤ 1000000000000 from by
    obtain ⟨z, hz⟩ := selL_split l0 j hlt
    have h := HL.out
    rw [hz, HT.out] at h
    simp only [List.length_append] at h
    omega)
   obtain ⟨p0, p1, p2, p3, p4⟩ := p
   dsimp only at *
   have hl1 : (selL (l0.take j)).length + (headL (decide (j = 0)) ⟨p0, p1, p2, p3, p4⟩).length + (tagL ⟨p0, p1, p2, p3, p4⟩).length + (keyL ⟨p0, p1, p2, p3, p4⟩).length + (p4.flatMap condL).length ≤ 1000000000000 := by
    have := HPL.out
    unfold partL at this
    simp only [List.length_append] at this
    omega
   clear HPL h
   have hne : wr.heap.size ≠ w2.heap.size := by
    rcases HI.out with ⟨_, v, hv, _⟩ | ⟨_, v, hv, _⟩ <;> (have := (Array.getElem?_eq_some_iff.1 hv).1; omega)
   have hgt : w2.heap.size < wr.heap.size := by omega
   go_upto_block 2 with fail
   go_cut [] (fun wc => qa (Bld w2.heap.size (selL (l0.take j) ++ headL (decide (j = 0)) ⟨p0, p1, p2, p3, p4⟩) wc) ∧ qa (PBox wr.heap.size p0 p1 p2 p3 p4.length A4 c4 wc) ∧ qa (Below w.heap.size w wc))
   case first =>
    have hx : (wr.alloc (.cells #[.bool p0, .bool p1, .string p2, .string p3, .slice A4 p4.length c4] 41)).cell? ⟨wr.heap.size, 0, none⟩ = some (.bool p0) := by simp
    have HI2 := qa.mk (HI.out.below (qc (Below.refl _ _) (.cells #[.bool p0, .bool p1, .string p2, .string p3, .slice A4 p4.length c4] 41)))
    have HP2 := qa.mk (show PBox wr.heap.size p0 p1 p2 p3 p4.length A4 c4 (wr.alloc (.cells #[.bool p0, .bool p1, .string p2, .string p3, .slice A4 p4.length c4] 41)) from heap_alloc_new wr _)
    have HB2 := qa.mk (qc HB.out (.cells #[.bool p0, .bool p1, .string p2, .string p3, .slice A4 p4.length c4] 41))
    clear hx0 hx1 hx2 hx3 hx4 HI HB HT
    cases p0
    ·by_cases hj0 : j = 0
     ·have HN := qa.mk (show headL (decide (j = 0)) ⟨false, p1, p2, p3, p4⟩ = [] from by simp [headL, hj0])
      have hj1 : decide (0 < j) = false := by simp [hj0]
      clear hj0
      go_wp2_with fail
      go_meet
      exact ⟨⟨by rw [HN.out, List.append_nil]; exact HI2.out⟩, HP2, HB2⟩
     ·have HN := qa.mk (show headL (decide (j = 0)) ⟨false, p1, p2, p3, p4⟩ = [32] from by simp [headL, hj0])
      have hj1 : decide (0 < j) = true := by simp; omega
      clear hj0
      go_wp2_with (go_at_call 24; go_loud (refine (Bld.byte w2.heap.size _ 32 _ HI2.out (by omega) (by omega) (by omega) (by simp; omega)).mono ?_); rintro e w3 ⟨rfl, h3, hb3, ho3⟩; have HI3 := qa.mk h3; have HP3 := qa.mk (HP2.out.others ho3 (by omega)); have HB3 := qa.mk (HB2.out.trans (hb3.mono hs)); have hs3 := HP3.out; clear h3 hb3 ho3)
      go_meet
      exact ⟨⟨by rw [HN.out]; exact HI3.out⟩, HP3, HB3⟩
    ·have HN := qa.mk (show headL (decide (j = 0)) ⟨true, p1, p2, p3, p4⟩ = [62] from by simp [headL])
     go_wp2_with (go_at_call 24; refine (Bld.byte w2.heap.size _ 62 _ HI2.out (by omega) (by omega) (by omega) (by simp; omega)).mono ?_; rintro e w3 ⟨rfl, h3, hb3, ho3⟩; have HI3 := qa.mk h3; have HP3 := qa.mk (HP2.out.others ho3 (by omega)); have HB3 := qa.mk (HB2.out.trans (hb3.mono hs)); have hs3 := HP3.out; clear h3 hb3 ho3)
     go_meet
     exact ⟨⟨by rw [HN.out]; exact HI3.out⟩, HP3, HB3⟩
   case rest =>
    clear hx0 hx1 hx2 hx3 hx4 HI HB
    obtain ⟨HI, HP, HB⟩ := hcut
    obtain ⟨hy0, hy1, hy2, hy3, hy4⟩ := HP.out.cells
    generalize hacc : selL (l0.take j) ++ headL (decide (j = 0)) ⟨p0, p1, p2, p3, p4⟩ = acc at *
    have hla : acc.length + (tagL ⟨p0, p1, p2, p3, p4⟩).length + (keyL ⟨p0, p1, p2, p3, p4⟩).length + (p4.flatMap condL).length ≤ 1000000000000 := by
     rw [← hacc, List.length_append]
     omega
    have HACC := qa.mk hacc
    clear hl1 hacc
    go_upto_if 32 with fail
    go_cut [] (fun wd => qa (Bld w2.heap.size (acc ++ (if p2.toList = [] then [42] else [])) wd) ∧ qa (PBox wr.heap.size p0 p1 p2 p3 p4.length A4 c4 wd) ∧ qa (Below w.heap.size w wd))
    case first =>
     by_cases ct : p2.toList = []
     ·have ct0 : (p2.toList == ([] : List UInt8)) = true := beq_iff_eq.mpr ct
      have ct1 : p2.toList.isEmpty = true := by rw [ct]; rfl
      have HN := qa.mk (show (if p2.toList = [] then [42] else []) = ([42] : List UInt8) from if_pos ct)
      have HLN := qa.mk (show acc.length + 1 ≤ 140737488355328 from by omega)
      clear ct hla ct0
      rw [ct1]
      clear ct1
      go_wp2_with (go_at_call 24; refine (Bld.byte w2.heap.size _ 42 _ HI.out (by omega) (by omega) HLN.out (Nat.le_of_lt (Nat.lt_trans hgt HP.out.lt))).mono ?_; rintro e w3 ⟨rfl, h3, hb3, ho3⟩; have HI3 := qa.mk h3; have HP3 := qa.mk (HP.out.others ho3 hne); have HB3 := qa.mk (HB.out.trans (hb3.mono hs)); clear h3 hb3 ho3)
      go_meet
      exact ⟨⟨by rw [HN.out]; exact HI3.out⟩, HP3, HB3⟩
     ·have ct0 : (p2.toList == ([] : List UInt8)) = false := beq_eq_false_iff_ne.mpr ct
      have ct1 : p2.toList.isEmpty = false := by cases hq : p2.toList with | nil => exact absurd hq ct | cons a b => rfl
      have HN := qa.mk (show (if p2.toList = [] then [42] else []) = ([] : List UInt8) from if_neg ct)
      clear ct hla ct0
      rw [ct1]
      clear ct1
      go_wp2_with fail
      go_meet
      exact ⟨⟨by rw [HN.out, List.append_nil]; exact HI.out⟩, HP, HB⟩
    case rest =>
     clear hy0 hy1 hy2 hy3 hy4 HI HP HB
     obtain ⟨HI, HP, HB⟩ := hcut
     obtain ⟨hy0, hy1, hy2, hy3, hy4⟩ := HP.out.cells
     generalize hac2 : acc ++ (if p2.toList = [] then [42] else []) = ac2 at *
     have hla2 : ac2.length + p2.size + (keyL ⟨p0, p1, p2, p3, p4⟩).length + (p4.flatMap condL).length ≤ 1000000000000 := by
      rw [← hac2, List.length_append]
      simp only [tagL, List.length_append] at hla
      have hsz : p2.data.toList.length = p2.size := rfl
      omega
     have HACC2 := qa.mk hac2
     clear hla hac2
     have HLN := qa.mk (show ac2.length + p2.size ≤ 140737488355328 from by omega)
     go_upto_if 38 with (go_at_call 25; refine (Bld.str w2.heap.size _ p2 _ HI.out HLN.out (Nat.le_of_lt (Nat.lt_trans hgt HP.out.lt))).mono ?_; rintro e w3 ⟨rfl, h3, hb3, ho3⟩; have HI3 := qa.mk h3; have HP3 := qa.mk (HP.out.others ho3 hne); have HB3 := qa.mk (HB.out.trans (hb3.mono hs)); have hs5 := HB3.out.size; obtain ⟨hz0, hz1, hz2, hz3, hz4⟩ := HP3.out.cells; have hs3 := HP3.out.lt; clear h3 hb3 ho3)
     clear HI HP HB HLN hy0 hy1 hy2 hy3 hy4
     have hla3 : (ac2 ++ p2.data.toList).length + (keyL ⟨p0, p1, p2, p3, p4⟩).length + (p4.flatMap condL).length ≤ 1000000000000 := by
      rw [List.length_append]
      have hsz : p2.data.toList.length = p2.size := rfl
      omega
     generalize hac3 : ac2 ++ p2.data.toList = ac3 at *
     have HACC3 := qa.mk hac3
     clear hla2 hac3
     go_cut [] (fun wd => qa (Bld w2.heap.size (ac3 ++ keyL ⟨p0, p1, p2, p3, p4⟩) wd) ∧ qa (PBox wr.heap.size p0 p1 p2 p3 p4.length A4 c4 wd) ∧ qa (Below w.heap.size w wd))
     case first =>
      cases p1
      ·have HN := qa.mk (show keyL ⟨p0, false, p2, p3, p4⟩ = ([] : List UInt8) from rfl)
       clear hla3
       go_wp2_with fail
       go_meet
       exact ⟨⟨by rw [HN.out, List.append_nil]; exact HI3.out⟩, HP3, HB3⟩
      ·have HN := qa.mk (show keyL ⟨p0, true, p2, p3, p4⟩ = [35, 34] ++ escL p3.data.toList ++ [34] from rfl)
       have hel : ac3.length + (escL p3.data.toList).length + 3 ≤ 1000000000000 := by
        have := HN.out
        rw [this] at hla3
        simp only [List.length_append, List.length_cons, List.length_nil] at hla3
        omega
       have HEL := qa.mk hel
       clear hla3 hel
       have HE2 := qa.mk (show escape_Escape.f p3 = some ⟨(escL p3.data.toList).toArray⟩ from by
        unfold escape_Escape.f
        refine if_pos ?_
        have h1 := escL_ge p3.data.toList
        have h2 := HEL.out
        have hsz : p3.data.toList.length = p3.size := rfl
        omega)
       have hes : (⟨(escL p3.data.toList).toArray⟩ : ByteArray).size = (escL p3.data.toList).length := by simp [ByteArray.size]
       have hel := HEL.out
       have hl3 := HEL.out
       go_wp2_with (first | (go_at_call 26; refine (escape_Escape.calls p3 _ _ (HG.out.below HB3.out) HE2.out).mono ?_; rintro e w4 ⟨rfl, hb4⟩; have HI4 := qa.mk (HI3.out.below hb4); have HP4 := qa.mk (HP3.out.below hb4); have HB4 := qa.mk (HB3.out.trans (hb4.mono hs5)); have hs4 := HP4.out.lt; clear hb4) | (go_at_call 25; go_loud (refine (Bld.str w2.heap.size _ _ _ HI4.out (by have := cat3_size [35, 34] (escL p3.data.toList) [34]; simp only [List.length_cons, List.length_nil] at this; omega) (Nat.le_of_lt (Nat.lt_trans hgt hs4))).mono ?_); rintro e w5 ⟨rfl, h5, hb5, ho5⟩; have HI5 := qa.mk h5; have HP5 := qa.mk (HP4.out.others ho5 hne); have HB5 := qa.mk (HB4.out.trans (hb5.mono hs)); clear h5 hb5 ho5))
       go_meet
       exact ⟨⟨by rw [HN.out]; have := HI5.out; rw [cat3_list] at this; exact this⟩, HP5, HB5⟩
     case rest =>
      clear hz0 hz1 hz2 hz3 hz4 hs3 hs5 HI3 HP3 HB3
      obtain ⟨HI, HP, HB⟩ := hcut
      obtain ⟨hy0, hy1, hy2, hy3, hy4⟩ := HP.out.cells
      have hs3 := HP.out.lt
      have hla4 : (ac3 ++ keyL ⟨p0, p1, p2, p3, p4⟩).length + (p4.flatMap condL).length ≤ 1000000000000 := by
       rw [List.length_append]
       exact hla3
      generalize hac4 : ac3 ++ keyL ⟨p0, p1, p2, p3, p4⟩ = ac4 at *
      have HACC4 := qa.mk hac4
      have HL5 := qa.mk hla4
      clear hla3 hla4 hac4
      have HM4 := qa.mk HR4.out.2.1
      go_wp2_with fail
      go_loopg [48] (p4.length + 1) (fun kq v48 w' => ∃ (i : Nat), v48 = .int .i64 (i : Int) ∧ qa (i ≤ p4.length ∧ kq = p4.length + 1 - i) ∧ qa (Bld w2.heap.size (ac4 ++ (p4.take i).flatMap condL) w') ∧ qa (Below w.heap.size w w') ∧ qa (w2.heap.size < w'.heap.size))
      case atStart => exact ⟨0, rfl, ⟨Nat.zero_le _, rfl⟩, ⟨by simpa using HI.out⟩, HB, ⟨Nat.lt_trans hgt hs3⟩⟩
      case round =>
       clear hy0 hy1 hy2 hy3 hy4 HI HB HP hs3 hgt hne HS hs2
       obtain ⟨i, rfl, HJ2, HI, HB, HS⟩ := hrel
       obtain ⟨hi, hk2⟩ := HJ2.out
       clear HJ2
       subst hk2
       have hm4 := HM4.out
       by_cases hlt2 : i < p4.length
       ·obtain ⟨bd, e, hx0, hx1, hx2⟩ := at_T33 HR4.out (i : Int) (by omega) (by omega)
        cases e
        replace hx0 := (HB.out.cell (qwc w _ hx0)).trans hx0
        replace hx1 := (HB.out.cell (qwc w _ hx1)).trans hx1
        replace hx2 := (HB.out.cell (qwc w _ hx2)).trans hx2
        rw [Int.toNat_natCast] at hx0 hx1 hx2
        have HT2 := qa.mk (cond_take p4 i hlt2)
        have hq := cond_le p4 i hlt2
        generalize rd_T33 p4 (i : Int) = q at *
        obtain ⟨q0, q1, q2⟩ := q
        dsimp only at *
        have hl6 : (ac4 ++ (p4.take i).flatMap condL).length + (condL ⟨q0, q1, q2⟩).length ≤ 1000000000000 := by
         have := HL5.out
         rw [List.length_append]
         omega
        clear hq
        generalize hbc : ac4 ++ (p4.take i).flatMap condL = bc at *
        have HBC := qa.mk hbc
        clear hbc
        have hgt := HS.out
        have hne : wr.heap.size ≠ w2.heap.size := by omega
        have HI2 := qa.mk (HI.out.below (qc (Below.refl _ _) (.cells #[.string q0, .string q1, .bool q2] 33)))
        have HP2 := qa.mk (show CBox wr.heap.size q0 q1 q2 (wr.alloc (.cells #[.string q0, .string q1, .bool q2] 33)) from heap_alloc_new wr _)
        have HB2 := qa.mk (qc HB.out (.cells #[.string q0, .string q1, .bool q2] 33))
        obtain ⟨hy0, hy1, hy2⟩ := HP2.out.cells
        have hgt2 := Nat.lt_trans hgt HP2.out.lt
        have HL6 := qa.mk hl6
        clear hl6
        have HLN := qa.mk (show bc.length + ((⟨#[91]⟩ : ByteArray) ++ q0).size ≤ 140737488355328 from by
         have h := HL6.out
         simp only [condL, List.length_append] at h
         have hsz : q0.data.toList.length = q0.size := rfl
         rw [ByteArray.size_append]
         have h1 : (⟨#[91]⟩ : ByteArray).size = 1 := rfl
         omega)
        have hq0 : q0.size ≤ 1000000000000 := by
         have h := HL6.out
         simp only [condL, List.length_append] at h
         have hsz : q0.data.toList.length = q0.size := rfl
         omega
        clear HI HB HS
        go_upto_if 57 with (go_at_call 25; refine (Bld.str w2.heap.size _ _ _ HI2.out HLN.out (Nat.le_of_lt hgt2)).mono ?_; rintro e w3 ⟨rfl, h3, hb3, ho3⟩; have HI3 := qa.mk h3; have HP3 := qa.mk (HP2.out.others ho3 hne); have HB3 := qa.mk (HB2.out.trans (hb3.mono hs)); have hs5 := HB3.out.size; obtain ⟨hz0, hz1, hz2⟩ := HP3.out.cells; have hs3 := HP3.out.lt; clear h3 hb3 ho3)
        clear hx0 hx1 hx2 hy0 hy1 hy2 hgt2 HP2 HI2 HB2 HLN
        go_cut [] (fun wd => qa (Bld w2.heap.size (bc ++ ((⟨#[91]⟩ : ByteArray) ++ q0).data.toList ++ (if q2 = true then [61, 34] ++ escL q1.data.toList ++ [34] else [])) wd) ∧ qa (w2.heap.size < wd.heap.size) ∧ qa (Below w.heap.size w wd))
        case first =>
         cases q2
         ·go_wp2_with fail
          go_meet
          exact ⟨⟨by simpa using HI3.out⟩, ⟨Nat.lt_trans hgt hs3⟩, HB3⟩
         ·have hel : bc.length + ((⟨#[91]⟩ : ByteArray) ++ q0).data.toList.length + (escL q1.data.toList).length + 3 ≤ 1000000000000 := by
           have := HL6.out
           simp only [condL, if_true, List.length_append, List.length_cons, List.length_nil, ByteArray.data_append, Array.toList_append] at this ⊢
           omega
          have HEL := qa.mk hel
          have HE2 := qa.mk (show escape_Escape.f q1 = some ⟨(escL q1.data.toList).toArray⟩ from by
           unfold escape_Escape.f
           refine if_pos ?_
           have h1 := escL_ge q1.data.toList
           have h2 := HEL.out
           have hsz : q1.data.toList.length = q1.size := rfl
           omega)
          have hes : (⟨(escL q1.data.toList).toArray⟩ : ByteArray).size = (escL q1.data.toList).length := by simp [ByteArray.size]
          have hl3 : (escL q1.data.toList).length ≤ 1000000000000 := by omega
          clear hel
          go_wp2_with (first | (go_at_call 26; refine (escape_Escape.calls q1 _ _ (HG.out.below HB3.out) HE2.out).mono ?_; rintro e w4 ⟨rfl, hb4⟩; have HI4 := qa.mk (HI3.out.below hb4); have HP4 := qa.mk (HP3.out.below hb4); have HB4 := qa.mk (HB3.out.trans (hb4.mono hs5)); have hs4 := HP4.out.lt; clear hb4) | (go_at_call 25; refine (Bld.str w2.heap.size _ _ _ HI4.out (by have := cat3_size [61, 34] (escL q1.data.toList) [34]; have h2 := HEL.out; simp only [List.length_cons, List.length_nil, List.length_append] at this h2 ⊢; omega) (Nat.le_of_lt (Nat.lt_trans hgt hs4))).mono ?_; rintro e w5 ⟨rfl, h5, hb5, ho5⟩; have HI5 := qa.mk h5; have HP5 := qa.mk (HP4.out.others ho5 hne); have HB5 := qa.mk (HB4.out.trans (hb5.mono hs)); clear h5 hb5 ho5))
          go_meet
          exact ⟨⟨by have := HI5.out; rw [cat3_list] at this; exact this⟩, ⟨Nat.lt_trans hgt HP5.out.lt⟩, HB5⟩
        case rest =>
         obtain ⟨HI4, HS4, HB4⟩ := hcut
         have HLX := qa.mk (show (bc ++ ((⟨#[91]⟩ : ByteArray) ++ q0).data.toList ++ (if q2 = true then [61, 34] ++ escL q1.data.toList ++ [34] else [])).length + 1 ≤ 140737488355328 from by
          have := HL6.out
          simp only [condL, List.length_append, List.length_cons, List.length_nil, ByteArray.data_append, Array.toList_append] at this ⊢
          omega)
         have HEX := qa.mk (show bc ++ ((⟨#[91]⟩ : ByteArray) ++ q0).data.toList ++ (if q2 = true then [61, 34] ++ escL q1.data.toList ++ [34] else []) ++ [93] = bc ++ condL ⟨q0, q1, q2⟩ from by
          simp only [condL, ByteArray.data_append, Array.toList_append, List.append_assoc])
         clear HI3 HP3 HB3 hz0 hz1 hz2 hs3 hs5
         go_wp2_with (go_at_call 24; refine (Bld.byte w2.heap.size _ 93 _ HI4.out (by omega) (by omega) HLX.out (Nat.le_of_lt HS4.out)).mono ?_; rintro e w6 ⟨rfl, h6, hb6, ho6⟩; have HI6 := qa.mk h6; have HS6 := qa.mk (qxc HS4.out hb6.size); have HB6 := qa.mk (HB4.out.trans (hb6.mono hs)); clear h6 hb6 ho6)
         go_roundg (p4.length + 1 - (i + 1))
         case measure => omega
         case rel => exact ⟨i + 1, by simp, ⟨by omega, rfl⟩, ⟨by have := HI6.out; rw [show ([(93 : Int).toNat.toUInt8] : List UInt8) = [93] from rfl, HEX.out, ← HBC.out, List.append_assoc, ← HT2.out] at this; exact this⟩, HB6, HS6⟩
       ·have hi2 : i = p4.length := by omega
        subst hi2
        clear hlt2
        have HIX := qa.mk (show Bld w2.heap.size (selL (l0.take (j + 1))) wr from by
         have h1 := HI.out
         rw [List.take_length, ← HACC4.out, ← HACC3.out, ← HACC2.out, ← HACC.out] at h1
         rw [HT.out]
         unfold partL
         unfold tagL
         simpa only [List.append_assoc] using h1)
        have HSZ := qa.mk (Nat.le_of_lt HS.out)
        go_wp2_with fail
        go_roundg (l0.length + 1 - (j + 1))
        case measure => omega
        case rel => exact ⟨j + 1, by simp, ⟨by omega, rfl⟩, HIX, HB, HSZ⟩
  ·have hj2 : j = l0.length := by omega
   subst hj2
   go_wp2_with (go_at_call 27; refine (Bld.out w2.heap.size _ _ HI.out HS.out).mono ?_; rintro e w6 ⟨rfl, hb6⟩; have HB6 := qa.mk (HB.out.trans (hb6.mono hs)); clear hb6)
   go_ret2
   exact ⟨rfl, HB6.out⟩
end Go.Proofs.YtjbobecnlpiejaaDoor.Q
namespace Go.Proofs.YtjbobecnlpiejaaDoor.Q.P
open Go.Proofs.YtjbobecnlpiejaaDoorZ
open Go.RowKit Go.Proofs.YtjbobecnlpiejaaDoorW.PrintWords Go.Proofs.YtjbobecnlpiejaaDoorW.PrintLast Go.Proofs.YtjbobecnlpiejaaDoorW.PrintMore
theorem form_fin : ∀ c : Fin 256, qtc.f 6 (c.val : Int) = some ⟨(putL (UInt8.ofNat c.val)).toArray⟩ := by decide +kernel
theorem form_spec (c : UInt8) (k : Nat) (hk : 6 ≤ k) : qtc.f k (c.toNat : Int) = some ⟨(putL c).toArray⟩ := by
 have := form_fin ⟨c.toNat, c.toNat_lt⟩
 simp only [UInt8.ofNat_toNat] at this
 exact at_rounds (g := fun k => qtc.f k (c.toNat : Int)) (fun k => qtc.mono _ k) hk this
theorem put_fin : ∀ c : Fin 256, 1 ≤ (putL (UInt8.ofNat c.val)).length ∧ (putL (UInt8.ofNat c.val)).length ≤ 6 ∧ ((putL (UInt8.ofNat c.val)).contains 34) = false := by decide +kernel
theorem put_len (c : UInt8) : 1 ≤ (putL c).length ∧ (putL c).length ≤ 6 ∧ ((putL c).contains 34) = false := by
 have := put_fin ⟨c.toNat, c.toNat_lt⟩
 simpa only [UInt8.ofNat_toNat] using this
theorem escL_cons (c : UInt8) (l : List UInt8) : escL (c :: l) = putL c ++ escL l := by unfold escL; rw [List.flatMap_cons]
theorem escL_append (a b : List UInt8) : escL (a ++ b) = escL a ++ escL b := by unfold escL; rw [List.flatMap_append]
theorem escL_len : ∀ l : List UInt8, (escL l).length ≤ 6 * l.length
 | [] => Nat.le_refl _
 | c :: l => by have := escL_len l; have := (put_len c).2.1; rw [escL_cons, List.length_append, List.length_cons]; omega
theorem ba_ext {a b : ByteArray} (h : a.data.toList = b.data.toList) : a = b := by
 cases a; cases b
 congr 1
 exact Array.toList_inj.1 h
theorem ba_app (a b : List UInt8) : (⟨a.toArray⟩ : ByteArray) ++ ⟨b.toArray⟩ = ⟨(a ++ b).toArray⟩ := ba_ext (by simp)
theorem ba_size (a : List UInt8) : (⟨a.toArray⟩ : ByteArray).size = a.length := by rw [qnc]
theorem ba_self (s : ByteArray) : (⟨s.data.toList.toArray⟩ : ByteArray) = s := by cases s; simp
theorem escape_loop (s : ByteArray) (hs : s.size ≤ 1000000000) (d : Nat) : ∀ i : Nat, i + d = s.size → Ev (fun k => qcc.l0 k s ⟨(escL (s.data.toList.take i)).toArray⟩ (s.size : Int) (i : Int)) ⟨(escL s.data.toList).toArray⟩ := by
 induction d with
 | zero =>
  intro i hi
  refine Ev.step (fun k => ?_) (Ev.now _)
  rw [qcc.l0, if_neg (by omega), List.take_of_length_le zz0]
 | succ d ih =>
  intro i hi
  have hil : i < s.data.toList.length := by rw [← qnc]; omega
  have h1 := ih (i + 1) (by omega)
  have hw : wrap64 ((i : Int) + 1) = ((i + 1 : Nat) : Int) := by rw [w64 (by omega) (by omega)]; omega
  refine Ev.late 6 (fun k hk => ?_) h1
  have hg : s.data.toList.getD i 0 = s.data.toList[i] := by rw [List.getD_eq_getElem?_getD, List.getElem?_eq_getElem hil]; rfl
  have hel : (escL (s.data.toList.take (i + 1))) = escL (s.data.toList.take i) ++ putL s.data.toList[i] := by
   rw [List.take_succ_eq_append_getElem hil, escL_append, escL_cons]
   simp [escL]
  rw [qcc.l0, if_pos (by omega), if_pos (by omega), if_pos (by omega), bt_nat s i (by omega), hg, form_spec _ k hk]
  simp only [Option.bind_some]
  have hb1 := escL_len (s.data.toList.take i)
  have hb2 := (put_len s.data.toList[i]).2.1
  rw [List.length_take] at hb1
  rw [ba_size, ba_size, if_pos (by omega), ba_app, ← hel, hw]
theorem Escape_spec (s : ByteArray) (hs : s.size ≤ 1000000000) : Ev (fun k => qcc.f k s) ⟨(escL s.data.toList).toArray⟩ := by
 have h := escape_loop s hs s.size 0 (by omega)
 exact h
theorem quoted_spec (s : ByteArray) (hs : s.size ≤ 1000000000) : Ev (fun k => quc.f k s) ⟨(34 :: escL s.data.toList ++ [34]).toArray⟩ := by
 have hb := escL_len s.data.toList
 rw [← qnc] at hb
 refine Ev.bind (Escape_spec s hs) (Ev.congr (f := fun _ => some ⟨(34 :: escL s.data.toList ++ [34]).toArray⟩) (fun k => ?_) (Ev.now _))
 rw [ba_size, if_pos (by omega), if_pos (by omega)]
 exact congrArg some (ba_ext (by simp))
theorem nm_len {o s : List UInt8} (h : nm o s = true) : s.length ≤ 32 := by
 unfold nm at h
 simp only [Bool.and_eq_true, decide_eq_true_eq] at h
 exact h.1.1.2
theorem condOK_len {c : S33} (h : condOK c = true) : c.f0.size ≤ 32 ∧ c.f1.size ≤ 65536 := by
 unfold condOK at h
 simp only [Bool.and_eq_true, decide_eq_true_eq] at h
 exact ⟨by rw [qnc]; exact nm_len h.1.1, h.1.2⟩
theorem condL_len {c : S33} (h : condOK c = true) : (condL c).length ≤ 400000 := by
 obtain ⟨h1, h2⟩ := condOK_len h
 have h3 := escL_len c.f1.data.toList
 rw [← qnc] at h3
 unfold condL
 simp only [List.length_append, List.length_cons, List.length_nil, ← qnc]
 split <;> simp <;> omega
theorem rp_cond (l : List S41) (n m : Int) (cs : List S33) (i j : Nat) (hm : (j : Int) < m) (hj : j < cs.length) (hc : condOK cs[j] = true) (b0 b1 : Bool) (s2 s3 : ByteArray) (a : List UInt8) (ha : a.length ≤ 1000000000) (r : ByteArray)
  (hr : Ev (fun k => qw.l1 k (l.map toP) ⟨(a ++ condL cs[j]).toArray⟩ n (i : Int) m (wrap64 ((j : Int) + 1)) b0 b1 s2 s3 (cs.map toC)) r) :
  Ev (fun k => qw.l1 k (l.map toP) ⟨a.toArray⟩ n (i : Int) m (j : Int) b0 b1 s2 s3 (cs.map toC)) r := by
 obtain ⟨h1, h2⟩ := condOK_len hc
 have h3 := escL_len cs[j].f1.data.toList
 rw [← qnc] at h3
 obtain ⟨K, hK⟩ := quoted_spec cs[j].f1 (by omega)
 refine Ev.late K (fun k hk => ?_) hr
 have hq := hK k hk
 rw [qw.l1, if_pos hm, if_pos (by rw [ba_size]; omega), if_pos (by omega), if_pos (by rw [List.length_map]; omega), show (qgb (cs.map toC) (j : Int)).f0 = cs[j].f0 by rw [rd_mapC cs j hj]; rfl, show (qgb (cs.map toC) (j : Int)).f1 = cs[j].f1 by rw [rd_mapC cs j hj]; rfl, show (qgb (cs.map toC) (j : Int)).f2 = cs[j].f2 by rw [rd_mapC cs j hj]; rfl]
 unfold condL
 generalize cs[j] = c at *
 obtain ⟨c0, c1, c2⟩ := c
 dsimp only at *
 rw [ba_size, if_pos (show a.length + 1 + c0.size ≤ 9223372036854775807 by omega)]
 cases c2
 ·simp only [Bool.false_eq_true, if_false]
  rw [if_pos (show a.length + 1 + c0.size + 1 ≤ 9223372036854775807 by omega)]
  exact congrArg (fun z => qw.l1 k (l.map toP) z n (i : Int) m (wrap64 ((j : Int) + 1)) b0 b1 s2 s3 (cs.map toC)) (ba_ext (by simp))
 ·simp only [if_true]
  rw [if_pos (show a.length + 1 + c0.size + 1 ≤ 9223372036854775807 by omega), hq]
  simp only [Option.bind_some]
  have hsz : (⟨(34 :: escL c1.data.toList ++ [34]).toArray⟩ : ByteArray).size ≤ 400000 := by
   rw [ba_size]
   simp only [List.length_append, List.length_cons, List.length_nil]
   omega
  generalize hz : (⟨(34 :: escL c1.data.toList ++ [34]).toArray⟩ : ByteArray) = z at hsz
  rw [if_pos (show a.length + 1 + c0.size + 1 + z.size ≤ 9223372036854775807 by omega), if_pos (show a.length + 1 + c0.size + 1 + z.size + 1 ≤ 9223372036854775807 by omega)]
  subst hz
  exact congrArg (fun z => qw.l1 k (l.map toP) z n (i : Int) m (wrap64 ((j : Int) + 1)) b0 b1 s2 s3 (cs.map toC)) (ba_ext (by simp))
theorem rp_l1 (l : List S41) (n : Int) (cs : List S33) (hcl : cs.length ≤ 8) (hc : cs.all condOK = true) (i : Nat) (hi : i ≤ 100) (b0 b1 : Bool) (s2 s3 : ByteArray) (r : ByteArray) (d : Nat) :
  ∀ (j : Nat) (a : List UInt8), j + d = cs.length → a.length + d * 400000 ≤ 1000000000 → Ev (fun k => qw.l0 k (l.map toP) ⟨(a ++ (cs.drop j).flatMap condL).toArray⟩ n ((i + 1 : Nat) : Int)) r → Ev (fun k => qw.l1 k (l.map toP) ⟨a.toArray⟩ n (i : Int) (cs.length : Int) (j : Int) b0 b1 s2 s3 (cs.map toC)) r := by
 have hw : wrap64 ((i : Int) + 1) = ((i + 1 : Nat) : Int) := by rw [w64 (by omega) (by omega)]; omega
 induction d with
 | zero =>
  intro j a hj ha hr
  rw [List.drop_eq_nil_of_le (by omega), List.flatMap_nil, List.append_nil] at hr
  refine Ev.step (fun k => ?_) hr
  rw [qw.l1, if_neg (by omega), hw]
 | succ d ih =>
  intro j a hj ha hr
  have hjl : j < cs.length := by omega
  have hok : condOK cs[j] = true := List.all_eq_true.1 hc _ (List.getElem_mem _)
  have hl := condL_len hok
  have hw2 : wrap64 ((j : Int) + 1) = ((j + 1 : Nat) : Int) := by rw [w64 (by omega) (by omega)]; omega
  rw [List.drop_eq_getElem_cons hjl, List.flatMap_cons, ← List.append_assoc] at hr
  have h1 := ih (j + 1) (a ++ condL cs[j]) (by omega) (by rw [List.length_append]; omega) hr
  refine rp_cond l n _ cs i j (by omega) hjl hok b0 b1 s2 s3 a (by omega) r ?_
  rw [hw2]
  exact h1
theorem headOK_len {p : S41} (h : headOK p = true) : p.f2.size ≤ 32 ∧ p.f3.size ≤ 65536 ∧ p.f4.length ≤ 8 := by
 unfold headOK at h
 simp only [Bool.and_eq_true, Bool.or_eq_true, decide_eq_true_eq] at h
 refine ⟨?_, h.1.2, h.2⟩
 rcases h.1.1.1 with h0 | h0
 ·rw [List.isEmpty_iff] at h0
  rw [qnc, h0]
  decide
 ·rw [qnc]
  exact nm_len h0
theorem flat_len : ∀ (cs : List S33), cs.all condOK = true → (cs.flatMap condL).length ≤ cs.length * 400000
 | [], _ => by simp
 | c :: r, h => by
  rw [List.all_cons, Bool.and_eq_true] at h
  have h1 := condL_len h.1
  have h2 := flat_len r h.2
  rw [List.flatMap_cons, List.length_append, List.length_cons]
  omega
theorem partL_len (b : Bool) {p : S41} (h : partOK p = true) : (partL b p).length ≤ 5000000 := by
 rw [partOK_head, Bool.and_eq_true] at h
 obtain ⟨h1, h2, h3⟩ := headOK_len h.1
 have h4 := flat_len _ h.2
 have h5 := escL_len p.f3.data.toList
 rw [← qnc] at h5
 unfold partL headL tagL keyL
 simp only [List.length_append, ← qnc]
 have e1 : (if p.f0 = true then ([62] : List UInt8) else if b = true then [] else [32]).length ≤ 1 := by (split <;> (try split) <;> simp)
 have e2 : (if p.f2.toList = [] then ([42] : List UInt8) else []).length ≤ 1 := by split <;> simp
 have e3 : (if p.f1 = true then [35, 34] ++ escL p.f3.data.toList ++ [34] else []).length ≤ 400000 := by
  split
  ·simp only [List.length_append, List.length_cons, List.length_nil]; omega
  ·simp
 omega
theorem rp_part (l : List S41) (i : Nat) (hi : i < l.length) (hl : l.length ≤ 8) (hp : partOK l[i] = true) (a : List UInt8) (ha : a.length ≤ 500000000) (r : ByteArray)
  (hr : Ev (fun k => qw.l0 k (l.map toP) ⟨(a ++ partL (i == 0) l[i]).toArray⟩ (l.length : Int) ((i + 1 : Nat) : Int)) r) :
  Ev (fun k => qw.l0 k (l.map toP) ⟨a.toArray⟩ (l.length : Int) (i : Int)) r := by
 have hlen := partL_len (i == 0) hp
 rw [partOK_head, Bool.and_eq_true] at hp
 obtain ⟨h2, h3, h4⟩ := headOK_len hp.1
 have h5 := escL_len l[i].f3.data.toList
 rw [← qnc] at h5
 have e : a ++ partL (i == 0) l[i] = ((a ++ headL (i == 0) l[i]) ++ tagL l[i] ++ keyL l[i]) ++ (l[i].f4.drop 0).flatMap condL := by
  unfold partL
  simp only [List.append_assoc, List.drop_zero]
 rw [e] at hr
 have hl1 : (headL (i == 0) l[i]).length ≤ 1 := by (unfold headL; split <;> (try split) <;> simp)
 have hl3 : (keyL l[i]).length ≤ 400000 := by
  unfold keyL
  split
  ·simp only [List.length_append, List.length_cons, List.length_nil]; omega
  ·simp
 have hl2 : (tagL l[i]).length ≤ 33 := by
  unfold tagL
  rw [List.length_append, ← qnc]
  split <;> simp <;> omega
 have s1 := rp_l1 l (l.length : Int) l[i].f4 h4 hp.2 i (by omega) l[i].f0 l[i].f1 l[i].f2 l[i].f3 r l[i].f4.length 0 ((a ++ headL (i == 0) l[i]) ++ tagL l[i] ++ keyL l[i]) (by omega) (by simp only [List.length_append]; omega) hr
 have s2 : Ev (fun k => qw.j3 k (l.map toP) ⟨((a ++ headL (i == 0) l[i]) ++ tagL l[i] ++ keyL l[i]).toArray⟩ (l.length : Int) (i : Int) l[i].f0 l[i].f1 l[i].f2 l[i].f3 (l[i].f4.map toC)) r := by
  refine Ev.step (fun k => ?_) s1
  simp only [qw.j3, List.length_map]
  rfl
 have s3 : Ev (fun k => qw.j2 k (l.map toP) ⟨((a ++ headL (i == 0) l[i]) ++ (if l[i].f2.toList = [] then [42] else [])).toArray⟩ (l.length : Int) (i : Int) l[i].f0 l[i].f1 l[i].f2 l[i].f3 (l[i].f4.map toC)) r := by
  obtain ⟨K, hK⟩ := quoted_spec l[i].f3 (by omega)
  refine Ev.late K (fun k hk => ?_) s2
  have hq : quc.f k l[i].f3 = some ⟨(34 :: escL l[i].f3.data.toList ++ [34]).toArray⟩ := hK k hk
  have z : (a ++ headL (i == 0) l[i] ++ (if l[i].f2.toList = [] then ([42] : List UInt8) else [])).length ≤ 500000002 := by
   simp only [List.length_append]
   split <;> simp <;> omega
  simp only [qw.j2]
  rw [ba_size, if_pos (by omega)]
  unfold tagL keyL
  cases hk1 : l[i].f1
  ·rw [if_neg Bool.false_ne_true, if_neg Bool.false_ne_true, List.append_nil]
   congr 1 <;> exact ba_ext (by simp)
  ·rw [if_pos rfl, if_pos (by omega), hq]
   simp only [Option.bind_some]
   have hsz : (⟨(34 :: escL l[i].f3.data.toList ++ [34]).toArray⟩ : ByteArray).size ≤ 400000 := by
    rw [ba_size]
    simp only [List.length_append, List.length_cons, List.length_nil]
    omega
   generalize hzz : (⟨(34 :: escL l[i].f3.data.toList ++ [34]).toArray⟩ : ByteArray) = zz at hsz
   rw [if_pos (show (a ++ headL (i == 0) l[i] ++ (if l[i].f2.toList = [] then ([42] : List UInt8) else [])).length + l[i].f2.size + 1 + zz.size ≤ 9223372036854775807 by omega), if_pos trivial]
   subst hzz
   congr 1 <;> exact ba_ext (by simp)
 have s4 : Ev (fun k => qw.j1 k (l.map toP) ⟨(a ++ headL (i == 0) l[i]).toArray⟩ (l.length : Int) (i : Int) l[i].f0 l[i].f1 l[i].f2 l[i].f3 (l[i].f4.map toC)) r := by
  refine Ev.step (fun k => ?_) s3
  simp only [qw.j1]
  by_cases ht : l[i].f2.toList = []
  ·rw [if_pos ht, if_pos (by rw [ba_size]; simp only [List.length_append]; omega), if_pos ht]
   congr 1 <;> exact ba_ext (by simp)
  ·rw [if_neg ht, if_neg ht, List.append_nil]
 refine Ev.step (fun k => ?_) s4
 rw [qw.l0, if_pos (by omega), if_pos (by omega), if_pos (by rw [List.length_map]; omega), rd_map l i hi]
 unfold headL
 rw [show (toP l[i]).f0 = l[i].f0 from rfl]
 cases hf : l[i].f0
 ·rw [if_neg Bool.false_ne_true, if_neg Bool.false_ne_true]
  by_cases h0 : i = 0
  ·rw [if_neg (by omega)]
   have : (i == 0) = true := by simpa using h0
   rw [this, if_pos rfl, List.append_nil]
   rfl
  ·rw [if_pos (by omega), if_pos (by rw [ba_size]; omega)]
   have : (i == 0) = false := by simpa using h0
   rw [this, if_neg Bool.false_ne_true]
   congr 1 <;> exact ba_ext (by simp)
 ·rw [if_pos rfl, if_pos (by rw [ba_size]; omega), if_pos rfl]
  congr 1 <;> exact ba_ext (by simp)
theorem selL_take : ∀ (l : List S41) (i : Nat), (l.drop i).all partOK = true → (selL l).length ≤ 0 ∨ True := fun _ _ _ => .inr trivial
def selF (l : List S41) (i : Nat) : List UInt8 := if i = 0 then selL l else (l.drop i).flatMap (partL false)
theorem selF_step (l : List S41) (i : Nat) (h : i < l.length) : selF l i = partL (i == 0) l[i] ++ selF l (i + 1) := by
 unfold selF
 rw [if_neg (by omega : ¬ i + 1 = 0)]
 by_cases h0 : i = 0
 ·subst h0
  cases l with
  | nil => simp at h
  | cons p r => simp [selL]
 ·rw [if_neg h0, List.drop_eq_getElem_cons h, List.flatMap_cons]
  have : (i == 0) = false := by simpa using h0
  rw [this]
theorem rp_l0 (l : List S41) (hl : l.length ≤ 8) (hp : l.all partOK = true) (d : Nat) : ∀ (i : Nat) (a : List UInt8), i + d = l.length → a.length + d * 5000000 ≤ 500000000 → Ev (fun k => qw.l0 k (l.map toP) ⟨a.toArray⟩ (l.length : Int) (i : Int)) ⟨(a ++ selF l i).toArray⟩ := by
 induction d with
 | zero =>
  intro i a hi ha
  refine Ev.step (fun k => ?_) (Ev.now _)
  rw [qw.l0, if_neg (by omega)]
  have : selF l i = [] := by
   unfold selF
   split
   ·cases l with
    | nil => rfl
    | cons p r => simp at hi; omega
   ·rw [List.drop_eq_nil_of_le (by omega)]; rfl
  rw [this, List.append_nil]
 | succ d ih =>
  intro i a hi ha
  have hil : i < l.length := by omega
  have hpo : partOK l[i] = true := List.all_eq_true.1 hp _ (List.getElem_mem _)
  have hlen := partL_len (i == 0) hpo
  rw [selF_step l i hil, ← List.append_assoc]
  exact rp_part l i hil hl hpo a (by omega) _ (ih (i + 1) (a ++ partL (i == 0) l[i]) (by omega) (by rw [List.length_append]; omega))
theorem selOK_parts {l : List S41} (h : selOK l = true) : l.length ≤ 8 ∧ l.all partOK = true := by
 unfold selOK at h
 simp only [Bool.and_eq_true, decide_eq_true_eq] at h
 exact ⟨h.1.1.2, h.2⟩
theorem rprint_spec (l : List S41) (h : selOK l = true) : Ev (fun k => qw.f k (l.map toP)) ⟨(selL l).toArray⟩ := by
 obtain ⟨h1, h2⟩ := selOK_parts h
 have h3 := rp_l0 l h1 h2 l.length 0 [] (by omega) (by simp; omega)
 unfold selF at h3
 rw [if_pos rfl, List.nil_append] at h3
 refine Ev.congr (fun k => ?_) h3
 unfold qw.f
 rw [List.length_map]
 rfl
end Go.Proofs.YtjbobecnlpiejaaDoor.Q.P
namespace Go.Proofs.YtjbobecnlpiejaaDoor.Q
open Go.Proofs.YtjbobecnlpiejaaDoorZ
open Go.RowKit Go.Proofs.YtjbobecnlpiejaaDoorW.PrintWords Go.Proofs.YtjbobecnlpiejaaDoorW.PrintLast Go.Proofs.YtjbobecnlpiejaaDoorW.PrintMore
attribute [local go_sem] qvb qwb qzb qyb
def qmc.f (a0 : ByteArray) (a1 : ByteArray) : Option (Bool) := if (a0.size : Int) ≥ (a1.size : Int) then (if 0 ≤ (a1.size : Int) then (if (a1.size : Int) ≤ (a0.size : Int) then (some ((a0.extract 0 ((a1.size : Int) : Int).toNat).toList == a1.toList)) else (none)) else (none)) else (some false)
set_option maxHeartbeats 8000000 in
set_option maxRecDepth 100000 in
theorem qmc.calls (a0 : ByteArray) (a1 : ByteArray) (r : Bool) (w : World) (h : qmc.f a0 a1 = some r) :
  Calls Tryd.prog 60 #[.string a0, .string a1] w fun e w' => e = .returned (.bool r) ∧ Drawn0 w w' := by
 have H : (if (a0.size : Int) ≥ (a1.size : Int) then (if 0 ≤ (a1.size : Int) then (if (a1.size : Int) ≤ (a0.size : Int) then (some ((a0.extract 0 ((a1.size : Int) : Int).toNat).toList == a1.toList)) else (none)) else (none)) else (some false)) = some r := h
 clear h
 by_cases c3 : (a0.size : Int) ≥ (a1.size : Int)
 ·rw [if_pos c3] at H
  have c3b0 : decide ((a1.size : Int) ≤ (a0.size : Int)) = true := decide_eq_true c3
  have c3b1 : decide (a1.size ≤ a0.size) = true := decide_eq_true (Int.ofNat_le.mp c3)
  clear c3
  by_cases c4 : 0 ≤ (a1.size : Int)
  ·rw [if_pos c4] at H
   have c4b0 := eq_true c4
   have c4b1 : decide (0 ≤ (a1.size : Int)) = true := decide_eq_true c4
   clear c4
   by_cases c5 : (a1.size : Int) ≤ (a0.size : Int)
   ·rw [if_pos c5] at H
    have c5b0 := eq_true c5
    have c5b1 : decide ((a1.size : Int) ≤ (a0.size : Int)) = true := decide_eq_true c5
    clear c5
    obtain rfl := Option.some.inj H
    go_enter Tryd.func60, Tryd.ntmps60
    go_wp2
    go_ret
    exact ⟨zz7, zz14⟩
   ·rw [if_neg c5] at H
    exact absurd H (by simp)
  ·rw [if_neg c4] at H
   exact absurd H (by simp)
 ·rw [if_neg c3] at H
  have c3b0 : decide ((a1.size : Int) ≤ (a0.size : Int)) = false := decide_eq_false c3
  have c3b1 : decide (a1.size ≤ a0.size) = false := decide_eq_false (fun h => c3 (Int.ofNat_le.mpr h))
  clear c3
  obtain rfl := Option.some.inj H
  go_enter Tryd.func60, Tryd.ntmps60
  go_wp2
  go_ret
  exact ⟨zz7, zz14⟩
def stringslite_CutPrefix.f (a0 : ByteArray) (a1 : ByteArray) : Option (ByteArray × Bool) := (qmc.f a0 a1).bind fun t101 => (if t101 = true then (if 0 ≤ (a1.size : Int) then (if (a1.size : Int) ≤ (a0.size : Int) then (some (a0.extract ((a1.size : Int) : Int).toNat a0.size, true)) else (none)) else (none)) else (some (a0, false)))
set_option maxHeartbeats 8000000 in
set_option maxRecDepth 100000 in
theorem stringslite_CutPrefix.calls (a0 : ByteArray) (a1 : ByteArray) (r1 : ByteArray) (r2 : Bool) (w : World) (h : stringslite_CutPrefix.f a0 a1 = some (r1, r2)) :
  Calls Tryd.prog 42 #[.string a0, .string a1] w fun e w' => e = .returned (.tuple #[.string r1, .bool r2]) ∧ Drawn0 w w' := by
 have H : ((qmc.f a0 a1).bind fun t101 => (if t101 = true then (if 0 ≤ (a1.size : Int) then (if (a1.size : Int) ≤ (a0.size : Int) then (some (a0.extract ((a1.size : Int) : Int).toNat a0.size, true)) else (none)) else (none)) else (some (a0, false)))) = some (r1, r2) := h
 clear h
 replace H := Option.bind_eq_some_iff.mp H
 obtain ⟨t101, A30, H⟩ := H
 replace H : (if t101 = true then (if 0 ≤ (a1.size : Int) then (if (a1.size : Int) ≤ (a0.size : Int) then (some (a0.extract ((a1.size : Int) : Int).toNat a0.size, true)) else (none)) else (none)) else (some (a0, false))) = some (r1, r2) := H
 have A3 := qa.mk A30
 clear A30
 by_cases c4 : t101 = true
 ·subst c4
  have H1 : (if 0 ≤ (a1.size : Int) then (if (a1.size : Int) ≤ (a0.size : Int) then (some (a0.extract ((a1.size : Int) : Int).toNat a0.size, true)) else (none)) else (none)) = some (r1, r2) := by rw [if_pos rfl] at H; exact H
  clear H
  have H := H1
  clear H1
  by_cases c5 : 0 ≤ (a1.size : Int)
  ·rw [if_pos c5] at H
   have c5b0 := eq_true c5
   have c5b1 : decide (0 ≤ (a1.size : Int)) = true := decide_eq_true c5
   clear c5
   by_cases c6 : (a1.size : Int) ≤ (a0.size : Int)
   ·rw [if_pos c6] at H
    have c6b0 := eq_true c6
    have c6b1 : decide ((a1.size : Int) ≤ (a0.size : Int)) = true := decide_eq_true c6
    clear c6
    simp only [Option.some.injEq, Prod.mk.injEq] at H
    obtain ⟨rfl, rfl⟩ := H
    go_enter Tryd.func42, Tryd.ntmps42
    go_wp2_with (first | ((with_reducible refine qy (f := 60) rfl ?_); refine qqb (some 8) rfl rfl Tryd.func60 (by kernel_rfl) rfl #[.string a0, .string a1] rfl zz94 ?_; (with_reducible refine (qmc.calls a0 a1 true _ A3.out).mono ?_); rintro e w' ⟨rfl, ⟨nd, rfl⟩⟩; refine ⟨_, rfl, ?_⟩))
    go_ret2
    exact ⟨zz7, zz14⟩
   ·rw [if_neg c6] at H
    exact absurd H (by simp)
  ·rw [if_neg c5] at H
   exact absurd H (by simp)
 ·replace c4 := Bool.eq_false_iff.mpr c4
  subst c4
  have H1 : (some (a0, false)) = some (r1, r2) := by rw [if_neg (show ¬ (false = true) by decide)] at H; exact H
  clear H
  have H := H1
  clear H1
  simp only [Option.some.injEq, Prod.mk.injEq] at H
  obtain ⟨rfl, rfl⟩ := H
  go_enter Tryd.func42, Tryd.ntmps42
  go_wp2_with (first | ((with_reducible refine qy (f := 60) rfl ?_); refine qqb (some 8) rfl rfl Tryd.func60 (by kernel_rfl) rfl #[.string a0, .string a1] rfl zz94 ?_; (with_reducible refine (qmc.calls a0 a1 false _ A3.out).mono ?_); rintro e w' ⟨rfl, ⟨nd, rfl⟩⟩; refine ⟨_, rfl, ?_⟩))
  go_ret2
  exact ⟨zz7, zz14⟩
def strings_CutPrefix.f (a0 : ByteArray) (a1 : ByteArray) : Option (ByteArray × Bool) := (stringslite_CutPrefix.f a0 a1).bind fun bt102 => (some (bt102.1, bt102.2))
set_option maxHeartbeats 8000000 in
set_option maxRecDepth 100000 in
theorem strings_CutPrefix.calls (a0 : ByteArray) (a1 : ByteArray) (r1 : ByteArray) (r2 : Bool) (w : World) (h : strings_CutPrefix.f a0 a1 = some (r1, r2)) :
  Calls Tryd.prog 31 #[.string a0, .string a1] w fun e w' => e = .returned (.tuple #[.string r1, .bool r2]) ∧ Drawn0 w w' := by
 have H : ((stringslite_CutPrefix.f a0 a1).bind fun bt102 => (some (bt102.1, bt102.2))) = some (r1, r2) := h
 clear h
 replace H := Option.bind_eq_some_iff.mp H
 obtain ⟨⟨t102, t103⟩, A30, H⟩ := H
 replace H : (some (t102, t103)) = some (r1, r2) := H
 have A3 := qa.mk A30
 clear A30
 simp only [Option.some.injEq, Prod.mk.injEq] at H
 obtain ⟨rfl, rfl⟩ := H
 go_enter Tryd.func31, Tryd.ntmps31
 go_wp2_with (first | ((with_reducible refine qy (f := 42) rfl ?_); refine qqb (some 8) rfl rfl Tryd.func42 (by kernel_rfl) rfl #[.string a0, .string a1] rfl zz94 ?_; (with_reducible refine (stringslite_CutPrefix.calls a0 a1 t102 t103 _ A3.out).mono ?_); rintro e w' ⟨rfl, ⟨nd, rfl⟩⟩; refine ⟨_, rfl, ?_⟩))
 go_ret2
 exact ⟨zz7, zz14⟩
def IsS55 (w0 W : World) (g : Nat) (f0 : ByteArray) (f1 : Bool) : Prop := W.heap[g]? = some (.cells #[.string f0, .bool f1] 55 (0, 0)) ∧ w0.heap.size ≤ g
theorem IsS55.grown {w0 W : World} {g : Nat} {f0 : ByteArray} {f1 : Bool} {W1 : World} {row : Option Nat} (h : IsS55 w0 W g f0 f1) (hw : W.grownBy W1 row) (hne : some g ≠ row) : IsS55 w0 W1 g f0 f1 := by
 obtain ⟨hb, hg⟩ := h
 exact ⟨blk_grown hb hw hne, hg⟩
theorem IsS55.own_neN {w0 W : World} {g : Nat} {f0 : ByteArray} {f1 : Bool} {α : Type} {d : Kd α} {e : Nat} {base : Nat} {ok : Nat → Prop} {v : Value} {xs : List α} (h : IsS55 w0 W g f0 f1) (ho : Kd.N d e W base ok v xs) (ht : e ≠ 55) : some g ≠ v.ownBlock := by
 obtain ⟨hb, hg⟩ := h
 exact Kd.N_ne ho hb ht
theorem IsS55.fresh {w0 W : World} {g : Nat} {f0 : ByteArray} {f1 : Bool} (h : IsS55 w0 W g f0 f1) : ∀ k, W.heap.size ≤ k → k ≠ g := by
 obtain ⟨hb, hg⟩ := h
 exact Kd.freshB hb
theorem IsS55.below {w0 W : World} {g : Nat} {f0 : ByteArray} {f1 : Bool} {W1 : World} (h : IsS55 w0 W g f0 f1) (hw : Below W.heap.size W W1) : IsS55 w0 W1 g f0 f1 := h.grown (grown_of_below hw none) (by simp)
theorem IsS55.alloc {w0 W : World} {g : Nat} {f0 : ByteArray} {f1 : Bool} (h : IsS55 w0 W g f0 f1) (o : Obj) : IsS55 w0 (W.alloc o) g f0 f1 := h.below (qc (Below.refl _ _) o)
theorem IsS55.drewN {w0 W : World} {g : Nat} {f0 : ByteArray} {f1 : Bool} (h : IsS55 w0 W g f0 f1) (m : Nat) : IsS55 w0 (W.drewN m) g f0 f1 := h
theorem IsS55.drew {w0 W : World} {g : Nat} {f0 : ByteArray} {f1 : Bool} (h : IsS55 w0 W g f0 f1) : IsS55 w0 W.drew g f0 f1 := h
theorem IsS55.apart {w0 W : World} {g : Nat} {f0 : ByteArray} {f1 : Bool} {α : Type} {d : Kd α} {e : Nat} {base : Nat} {ok : Nat → Prop} {v : Value} {xs : List α} (h : IsS55 w0 W g f0 f1) (ho : d.R e W base ok v xs) (ht : ∀ q, q ∈ e :: d.E → q ≠ 55) : d.R e W base (fun k => ok k ∧ k ≠ g) v xs := by
 obtain ⟨hb, hg⟩ := h
 exact Kd.R_types ho hb ht
theorem IsS55.lt {w0 W : World} {g : Nat} {f0 : ByteArray} {f1 : Bool} (h : IsS55 w0 W g f0 f1) : g < W.heap.size := by
 obtain ⟨hb, hg⟩ := h
 exact qbc hb
theorem IsS55.ge {w0 W : World} {g : Nat} {f0 : ByteArray} {f1 : Bool} (h : IsS55 w0 W g f0 f1) : w0.heap.size ≤ g := by
 obtain ⟨hb, hg⟩ := h
 exact hg
theorem IsS55.far {w0 W : World} {g : Nat} {f0 : ByteArray} {f1 : Bool} {p : Addr} (h : IsS55 w0 W g f0 f1) (hne : g ≠ p.block) (u : Value) : IsS55 w0 (W.setCell p u) g f0 f1 := by
 obtain ⟨hb, hg⟩ := h
 exact ⟨qpb hb hne u, hg⟩
theorem cellS55_0 {W : World} {g : Nat} {f0 : ByteArray} {f1 : Bool} (h : W.heap[g]? = some (.cells #[.string f0, .bool f1] 55 (0, 0))) : W.cell? ⟨g, 0, none⟩ = some (.string f0) := (qh h 0).trans rfl
theorem IsS55.set_0 {w0 W : World} {g : Nat} {f0 : ByteArray} {f1 : Bool} (h : IsS55 w0 W g f0 f1) (x : ByteArray) : IsS55 w0 (W.setCell ⟨g, 0, none⟩ (.string x)) g x f1 := by
 obtain ⟨hb, hg⟩ := h
 exact ⟨by simpa using blk_set hb 0 (.string x), hg⟩
theorem cellS55_1 {W : World} {g : Nat} {f0 : ByteArray} {f1 : Bool} (h : W.heap[g]? = some (.cells #[.string f0, .bool f1] 55 (0, 0))) : W.cell? ⟨g, 1, none⟩ = some (.bool f1) := (qh h 1).trans rfl
theorem IsS55.set_1 {w0 W : World} {g : Nat} {f0 : ByteArray} {f1 : Bool} (h : IsS55 w0 W g f0 f1) (x : Bool) : IsS55 w0 (W.setCell ⟨g, 1, none⟩ (.bool x)) g f0 x := by
 obtain ⟨hb, hg⟩ := h
 exact ⟨by simpa using blk_set hb 1 (.bool x), hg⟩
def qib.f (s0_0 : ByteArray) (s0_1 : Bool) (a1 : ByteArray) : Option (Bool × ByteArray × Bool) := (strings_CutPrefix.f s0_0 a1).bind fun bt104 => (some (bt104.2, bt104.1, s0_1))
set_option maxHeartbeats 8000000 in
set_option maxRecDepth 100000 in
theorem qib.calls (g : Nat) (s0_0 : ByteArray) (s0_1 : Bool) (a1 : ByteArray) (r1 : Bool) (r2 : ByteArray) (r3 : Bool) (w0 w : World) (hI : IsS55 w0 w g s0_0 s0_1) (hB : Below w0.heap.size w0 w) (h : qib.f s0_0 s0_1 a1 = some (r1, r2, r3)) :
  Calls Tryd.prog 18 #[.pointer (some ⟨g, 0, none⟩), .string a1] w fun e w' => e = .returned (.bool r1) ∧ IsS55 w0 w' g r2 r3 ∧ Below w0.heap.size w0 w' ∧ KeepBut w w' g none := by
 have HI0 := qa.mk hI
 have HK := qa.mk (KeepBut.refl w g none)
 have HL := qa.mk hB.size
 clear hI
 have HW0 := qa.mk hB.size
 have HB := qa.mk hB
 clear hB
 have H : ((strings_CutPrefix.f s0_0 a1).bind fun bt104 => (some (bt104.2, bt104.1, s0_1))) = some (r1, r2, r3) := h
 clear h
 replace H := Option.bind_eq_some_iff.mp H
 obtain ⟨⟨t104, t105⟩, A30, H⟩ := H
 replace H : (some (t105, t104, s0_1)) = some (r1, r2, r3) := H
 have A3 := qa.mk A30
 clear A30
 simp only [Option.some.injEq, Prod.mk.injEq] at H
 obtain ⟨rfl, rfl, rfl⟩ := H
 obtain ⟨HGz4, hgz4⟩ := HI0.out
 have hcz4_0 := cellS55_0 HGz4
 have hcz4_1 := cellS55_1 HGz4
 have hfz4_0 := qf HGz4 0
 have hfz4_1 := qf HGz4 1
 clear HGz4 hgz4
 go_enter Tryd.func18, Tryd.ntmps18
 go_wp2_with (first | ((with_reducible refine qy (f := 31) rfl ?_); refine qqb (some 13) rfl rfl Tryd.func31 (by kernel_rfl) rfl #[.string s0_0, .string a1] rfl zz94 ?_; (with_reducible refine (strings_CutPrefix.calls s0_0 a1 t104 t105 _ A3.out).mono ?_); rintro e w' ⟨rfl, ⟨nd, rfl⟩⟩; refine ⟨_, rfl, ?_⟩))
 go_ret
 exact ⟨zz103, zz119, zz92, zz98⟩
def query_anyAt.f (a0 a1 : ByteArray) : Option Int := if a1.data.toList.all (fun b => decide (b.toNat < 128)) = true then some (Lib.indexAny a0.data.toList a1.data.toList) else none
theorem get_toList (s : ByteArray) (i : Nat) (h : i < s.size) : s.data.toList[i]? = some s[i] := by
 rw [Array.getElem?_toList]
 exact Array.getElem?_eq_getElem h
theorem get_bang (s : ByteArray) (i : Nat) (h : i < s.size) : s.get! i = s[i] := get_at s i h
theorem decode_skip (s : ByteArray) (pos : Nat) (h : pos < s.size) (h8 : 128 ≤ (s[pos]'h).toNat) (j : Nat) (hj0 : pos ≤ j) (hj : j < pos + (Utf8.decode s pos).2) (hjs : j < s.size) : 128 ≤ (s[j]'hjs).toNat := by
 rw [← get_bang s j hjs]
 rw [← get_bang s pos h] at h8
 obtain ⟨k, rfl⟩ : ∃ k, j = pos + k := ⟨j - pos, by omega⟩
 rw [Lib.decode_at] at hj
 unfold Lib.decodeN at hj
 have hk : k = 0 ∨ k = 1 ∨ k = 2 ∨ k = 3 ∨ 4 ≤ k := by omega
 have e0 : pos + 0 = pos := rfl
 repeat' split at hj
 all_goals
  simp only at hj
  rcases hk with rfl | rfl | rfl | rfl | hk <;> first | exact h8 | omega
theorem noAny_skip (s a : ByteArray) (pos : Nat) (h : pos < s.size) (h8 : 128 ≤ (s[pos]'h).toNat) (ha : a.data.toList.all (fun b => decide (b.toNat < 128)) = true) (hn : Lib.NoAny s.data.toList a.data.toList pos) : Lib.NoAny s.data.toList a.data.toList (pos + (Utf8.decode s pos).2) := by
 intro j b hj hb
 by_cases hlt : j < pos
 ·exact hn j b hlt hb
 have hjs : j < s.size := by
  have := (List.getElem?_eq_some_iff.1 hb).1
  simpa using this
 have h1 := decode_skip s pos h h8 j (by omega) hj hjs
 rw [get_toList s j hjs] at hb
 obtain rfl := Option.some.inj hb
 cases hc : a.data.toList.contains s[j] with
 | false => rfl
 | true =>
  have hm := List.contains_iff_mem.1 hc
  have := of_decide_eq_true (List.all_eq_true.1 ha _ hm)
  omega
theorem ascii_at (a : ByteArray) (ha : a.data.toList.all (fun b => decide (b.toNat < 128)) = true) (q : Nat) (h : q < a.size) : (a[q]'h).toNat < 128 := by
 have hm : a[q] ∈ a.data.toList := List.mem_of_getElem? (get_toList a q h)
 exact of_decide_eq_true (List.all_eq_true.1 ha _ hm)
set_option maxHeartbeats 8000000 in
set_option maxRecDepth 100000 in
theorem query_anyAt.calls (a0 a1 : ByteArray) (r : Int) (w : World) (h : query_anyAt.f a0 a1 = some r) :
  Calls Tryd.prog 40 #[.string a0, .string a1] w fun e w' => e = .returned (.int .i64 r) ∧ Below w.heap.size w w' := by
 unfold query_anyAt.f at h
 by_cases ha : a1.data.toList.all (fun b => decide (b.toNat < 128)) = true
 rotate_left
 ·rw [if_neg ha] at h
  cases h
 rw [if_pos ha] at h
 obtain rfl := Option.some.inj h
 clear h
 have HA := qa.mk ha
 clear ha
 go_enter Tryd.func40, Tryd.ntmps40
 go_wp2_with fail
 go_loopg [] (a0.size + 1) (fun kq w' => ∃ (pos : Nat), w'.heap[w.heap.size]? = some (.stringIter a0 pos) ∧ qa (kq = a0.size + 1 - pos) ∧ qa (Lib.NoAny a0.data.toList a1.data.toList pos) ∧ qa (Below w.heap.size w w'))
 case atStart => exact ⟨0, World.iter_heap w a0 0, ⟨rfl⟩, ⟨Lib.NoAny.zero _ _⟩, ⟨(Below.refl _ _).alloc (Nat.le_refl _) _⟩⟩
 case round =>
  obtain ⟨pos, hit, HK, HN, HB⟩ := hrel
  by_cases hp : pos < a0.size
  ·have hnx : ∀ ty, (Instr.next (.pointer (some ⟨w.heap.size, 0, none⟩)) true ty).run Tryd.prog wr = _ := fun ty => Lib.run_next_any_at wr w.heap.size a0 pos ty hit hp
   have hit2 := Lib.iterAt_heap wr w.heap.size a0 pos (pos + (Utf8.decode a0 pos).2) hit
   have hbw2 := Lib.below_iterAt HB.out (k := w.heap.size) (Nat.le_refl _) a0 (pos + (Utf8.decode a0 pos).2)
   obtain ⟨W1, hW1⟩ : ∃ W1, W1 = wr.iterAt w.heap.size a0 (pos + (Utf8.decode a0 pos).2) := ⟨_, rfl⟩
   rw [← hW1] at hnx hit2 hbw2
   have HB2 := qa.mk hbw2
   clear hW1 hit hbw2
   generalize hc : ((Utf8.decode a0 pos).1 : Int) = c at *
   have HC := qa.mk hc
   clear hc
   go_wp2_with fail
   go_loopg [] (a1.size + 1) (fun kq w' => ∃ (q : Nat), w'.heap[W1.heap.size]? = some (.stringIter a1 q) ∧ w'.heap[w.heap.size]? = some (.stringIter a0 (pos + (Utf8.decode a0 pos).2)) ∧ qa (q ≤ a1.size ∧ kq = a1.size + 1 - q) ∧ qa (∀ (j : Nat) (hj : j < a1.size), j < q → c ≠ (a1[j].toNat : Int)) ∧ qa (Below w.heap.size w w'))
   case atStart => exact ⟨0, World.iter_heap W1 a1 0, (Below.heap_alloc W1 _ _ (Array.getElem?_eq_some_iff.1 hit2).1).trans hit2, ⟨Nat.zero_le _, rfl⟩, ⟨fun j _ hj => absurd hj (Nat.not_lt_zero _)⟩, ⟨qc HB2.out _⟩⟩
   case round =>
    clear hnx HB HB2
    obtain ⟨q, hiq, hio, HQ, HM, HB⟩ := hrel
    by_cases hq : q < a1.size
    ·have hnx : ∀ ty, (Instr.next (.pointer (some ⟨W1.heap.size, 0, none⟩)) true ty).run Tryd.prog wr = _ := fun ty => Lib.run_next_ascii_at wr W1.heap.size a1 q ty hiq hq (ascii_at a1 HA.out q hq)
     have hlt1 := (Array.getElem?_eq_some_iff.1 hit2).1
     have hiq2 := Lib.iterAt_heap wr W1.heap.size a1 q (q + 1) hiq
     have hio2 := (Lib.iterAt_other wr W1.heap.size w.heap.size a1 (q + 1) (by omega)).trans hio
     have hbw2 := Lib.below_iterAt HB.out (k := W1.heap.size) (by omega) a1 (q + 1)
     obtain ⟨W2, hW2⟩ : ∃ W2, W2 = wr.iterAt W1.heap.size a1 (q + 1) := ⟨_, rfl⟩
     rw [← hW2] at hnx hiq2 hio2 hbw2
     have HB2 := qa.mk hbw2
     generalize hd : ((a1[q]'hq).toNat : Int) = d at *
     have HD := qa.mk hd
     clear hW2 hiq hio hbw2 hd
     by_cases hcd : c = d
     ·have hcd1 : (c == d) = true := by simpa using hcd
      have HCD := qa.mk hcd
      clear hcd
      go_wp2_with fail
      go_ret
      refine ⟨?_, HB2.out⟩
      have h1 := HC.out
      have h2 := HD.out
      have h3 := HCD.out
      have h4 := ascii_at a1 HA.out q hq
      have h5 : (a0[pos]'hp).toNat < 128 := by
       rcases Nat.lt_or_ge (a0[pos]'hp).toNat 128 with h | h
       ·exact h
       ·have := (decode_high a0 pos hp h).1
        omega
      rw [decode_ascii a0 pos hp h5] at h1
      have h6 : a0[pos]'hp = a1[q]'hq := by
       apply UInt8.toNat_inj.1
       simp only at h1
       omega
      have h7 : Lib.indexAny a0.data.toList a1.data.toList = pos := Lib.indexAny_hit HN.out (get_toList a0 pos hp) (by rw [h6]; exact List.contains_iff_mem.2 (List.mem_of_getElem? (get_toList a1 q hq)))
      rw [h7]
      rfl
     ·have hcd1 : (c == d) = false := by simpa using hcd
      have HCD := qa.mk hcd
      clear hcd
      go_wp2_with fail
      go_roundg (a1.size + 1 - (q + 1))
      case measure => have := HQ.out; omega
      case rel =>
       refine ⟨q + 1, hiq2, hio2, ⟨by omega, rfl⟩, ⟨fun j hj hjq => ?_⟩, HB2⟩
       by_cases e : j = q
       ·subst e
        have := HD.out
        have := HCD.out
        omega
       ·exact HM.out j hj (by omega)
    ·have hnx : ∀ ty, (Instr.next (.pointer (some ⟨W1.heap.size, 0, none⟩)) true ty).run Tryd.prog wr = _ := fun ty => Lib.run_next_end_at wr W1.heap.size a1 q ty hiq hq
     have HNX := qa.mk (show Lib.NoAny a0.data.toList a1.data.toList (pos + (Utf8.decode a0 pos).2) from by
      rcases Nat.lt_or_ge (a0[pos]'hp).toNat 128 with h | h
      ·have h1 := HC.out
       rw [decode_ascii a0 pos hp h] at h1 ⊢
       refine HN.out.succ (get_toList a0 pos hp) ?_
       cases hct : a1.data.toList.contains a0[pos] with
       | false => rfl
       | true =>
        obtain ⟨j, hj, hje⟩ := List.getElem_of_mem (List.contains_iff_mem.1 hct)
        have hj2 : j < a1.size := by simpa using hj
        have h2 := HM.out j hj2 (by omega)
        have h3 := get_toList a1 j hj2
        rw [List.getElem?_eq_getElem hj, hje] at h3
        have h4 := Option.some.inj h3
        simp only at h1
        rw [← h4] at h2
        exact absurd h1.symm h2
      ·exact noAny_skip a0 a1 pos hp h HA.out HN.out)
     have HW := qa.mk (show 1 ≤ (Utf8.decode a0 pos).2 from by
      rcases Nat.lt_or_ge (a0[pos]'hp).toNat 128 with h | h
      ·rw [decode_ascii a0 pos hp h]; exact Nat.le_refl _
      ·exact (decode_high a0 pos hp h).2)
     go_wp2_with fail
     go_roundg (a0.size + 1 - (pos + (Utf8.decode a0 pos).2))
     case measure =>
      have h1 := HW.out
      have h2 := HK.out
      omega
     case rel => exact ⟨pos + (Utf8.decode a0 pos).2, hio, ⟨rfl⟩, HNX, HB⟩
  ·have hnx : ∀ ty, (Instr.next (.pointer (some ⟨w.heap.size, 0, none⟩)) true ty).run Tryd.prog wr = _ := fun ty => Lib.run_next_end_at wr w.heap.size a0 pos ty hit hp
   have HE := qa.mk (show Lib.indexAny a0.data.toList a1.data.toList = -1 from Lib.indexAny_none (fun j b hj hb => HN.out j b (by have : a0.data.toList.length = a0.size := rfl; omega) hb))
   go_wp2_with fail
   go_ret
   exact ⟨by rw [HE.out]; rfl, HB.out⟩
def qpc.f (s0_0 : ByteArray) (s0_1 : Bool) (a1 : ByteArray) : Option (ByteArray × ByteArray × Bool) :=
 (query_anyAt.f s0_0 a1).bind fun n => if n < 0 then some (s0_0, ByteArray.empty, s0_1) else if n ≤ (s0_0.size : Int) then some (s0_0.extract 0 n.toNat, s0_0.extract n.toNat s0_0.size, s0_1) else none
set_option maxHeartbeats 8000000 in
set_option maxRecDepth 100000 in
theorem qpc.calls (g : Nat) (s0_0 : ByteArray) (s0_1 : Bool) (a1 : ByteArray) (r1 : ByteArray) (r2 : ByteArray) (r3 : Bool) (w0 w : World) (hI : IsS55 w0 w g s0_0 s0_1) (hB : Below w0.heap.size w0 w) (h : qpc.f s0_0 s0_1 a1 = some (r1, r2, r3)) :
  Calls Tryd.prog 28 #[.pointer (some ⟨g, 0, none⟩), .string a1] w fun e w' => e = .returned (.string r1) ∧ IsS55 w0 w' g r2 r3 ∧ Below w0.heap.size w0 w' ∧ KeepBut w w' g none := by
 obtain ⟨n, hn, h⟩ := Option.bind_eq_some_iff.1 h
 have HN := qa.mk hn
 have HI := qa.mk hI
 have HB := qa.mk hB
 have hs := hB.size
 have hc0 := cellS55_0 hI.1
 have hc1 := cellS55_1 hI.1
 clear hn hI hB
 have hf0 := qf HI.out.1 0
 by_cases hn0 : n < 0
 ·rw [if_pos hn0] at h
  simp only [Option.some.injEq, Prod.mk.injEq] at h
  obtain ⟨rfl, rfl, rfl⟩ := h
  go_enter Tryd.func28, Tryd.ntmps28
  go_wp2_with (go_at_call 40; refine (query_anyAt.calls _ _ _ _ HN.out).mono ?_; rintro e w2 ⟨rfl, hb⟩; have HI2 := qa.mk (HI.out.below hb); have HB2 := qa.mk (HB.out.trans (hb.mono hs)); have HK2 := qa.mk (KeepBut.of_below hb g none); have hd0 := cellS55_0 HI2.out.1; have hf2 := qf HI2.out.1 0; clear hb)
  go_ret
  exact ⟨rfl, HI2.out.set_0 _, qm HB2.out HI.out.2, HK2.out.set_ 0 _⟩
 ·rw [if_neg hn0] at h
  by_cases hn1 : n ≤ (s0_0.size : Int)
  rotate_left
  ·rw [if_neg hn1] at h
   cases h
  rw [if_pos hn1] at h
  simp only [Option.some.injEq, Prod.mk.injEq] at h
  obtain ⟨rfl, rfl, rfl⟩ := h
  have hn2 : 0 ≤ n := by omega
  go_enter Tryd.func28, Tryd.ntmps28
  go_wp2_with (go_at_call 40; refine (query_anyAt.calls _ _ _ _ HN.out).mono ?_; rintro e w2 ⟨rfl, hb⟩; have HI2 := qa.mk (HI.out.below hb); have HB2 := qa.mk (HB.out.trans (hb.mono hs)); have HK2 := qa.mk (KeepBut.of_below hb g none); have hd0 := cellS55_0 HI2.out.1; have hf2 := qf HI2.out.1 0; clear hb)
  go_ret
  exact ⟨rfl, HI2.out.set_0 _, qm HB2.out HI.out.2, HK2.out.set_ 0 _⟩
def qsc.f (a0 : ByteArray) (a1 : ByteArray) : Option (Bool) := (qmc.f a0 a1).bind fun t106 => (some t106)
set_option maxHeartbeats 8000000 in
set_option maxRecDepth 100000 in
theorem qsc.calls (a0 : ByteArray) (a1 : ByteArray) (r : Bool) (w : World) (h : qsc.f a0 a1 = some r) :
  Calls Tryd.prog 68 #[.string a0, .string a1] w fun e w' => e = .returned (.bool r) ∧ Drawn0 w w' := by
 have H : ((qmc.f a0 a1).bind fun t106 => (some t106)) = some r := h
 clear h
 replace H := Option.bind_eq_some_iff.mp H
 obtain ⟨t106, A30, H⟩ := H
 replace H : (some t106) = some r := H
 have A3 := qa.mk A30
 clear A30
 obtain rfl := Option.some.inj H
 go_enter Tryd.func68, Tryd.ntmps68
 go_wp2_with (first | ((with_reducible refine qy (f := 60) rfl ?_); refine qqb (some 7) rfl rfl Tryd.func60 (by kernel_rfl) rfl #[.string a0, .string a1] rfl zz94 ?_; (with_reducible refine (qmc.calls a0 a1 t106 _ A3.out).mono ?_); rintro e w' ⟨rfl, ⟨nd, rfl⟩⟩; refine ⟨_, rfl, ?_⟩))
 go_ret
 exact ⟨zz7, zz14⟩
end Go.Proofs.YtjbobecnlpiejaaDoor.Q
