import Derived.Test.YtjbobecnlpiejaaGreatDoorSC3
set_option linter.unusedVariables false
set_option linter.unusedSimpArgs false
namespace Go.Proofs.YtjbobecnlpiejaaGreatDoor.Q
open Go.Proofs.YtjbobecnlpiejaaGreatDoorZ
open Go.RowKit Go.Proofs.YtjbobecnlpiejaaGreatDoorW.PrintWords Go.Proofs.YtjbobecnlpiejaaGreatDoorW.PrintLast Go.Proofs.YtjbobecnlpiejaaGreatDoorW.PrintMore
attribute [local go_sem] qvb qwb qzb qyb
mutual
def qtb.l0 : Nat → List (S53) → Int → Int → ByteArray → ByteArray → ByteArray → List (S55) → List (S86) → Option (ByteArray × ByteArray × ByteArray × (List (S55)) × (List (S86)) × Int)
 | 0, _, _, _, _, _, _, _, _ => none
 | k + 1, x0, x1, x8, x220000, x220001, x220002, x220003, x220004 => if x8 < (x0.length : Int) then (if 0 ≤ x8 then (if ((qi x0 x8).f1) = (wrap64 (x1 + 1)) then ((qtb.f k x0 x8).bind fun bt222 => (if x220004.length < 1466015503701 then (qtb.l0 k x0 x1 bt222.2.2.2.2.2 x220000 x220001 x220002 x220003 (x220004 ++ [(⟨bt222.1, bt222.2.1, bt222.2.2.1, bt222.2.2.2.1, bt222.2.2.2.2.1⟩ : S86)])) else (none))) else (some (x220000, x220001, x220002, x220003, x220004, x8))) else (none)) else (some (x220000, x220001, x220002, x220003, x220004, x8))
def qtb.f : Nat → List (S53) → Int → Option (ByteArray × ByteArray × ByteArray × (List (S55)) × (List (S86)) × Int)
 | 0, _, _ => none
 | k + 1, l0, a1 => if 0 ≤ a1 then (if a1 < (l0.length : Int) then ((api_Attr.f ((qi l0 a1).f5)).bind fun t216 => (qtb.l0 k l0 a1 (wrap64 (a1 + 1)) ((qi l0 a1).f2) ((qi l0 a1).f3) ((qi l0 a1).f4) t216 ([] : List (S86)))) else (none)) else (none)
end
theorem qtb.mono_l : ∀ k, (∀ y0 y1, LeO (qtb.f k y0 y1) (qtb.f (k + 1) y0 y1)) ∧ (∀ y0 y1 y2 y3 y4 y5 y6 y7, LeO (qtb.l0 k y0 y1 y2 y3 y4 y5 y6 y7) (qtb.l0 (k + 1) y0 y1 y2 y3 y4 y5 y6 y7))
 | 0 => ⟨fun _ _ r h => by simp [qtb.f] at h, fun _ _ _ _ _ _ _ _ r h => by simp [qtb.l0] at h⟩
 | k + 1 => by
  obtain ⟨ih0, ih1⟩ := qtb.mono_l k
  refine ⟨?_, ?_⟩
  ·intro y0 y1
   unfold qtb.f
   repeat' first
   | (with_reducible exact ih0 _ _)
   | (with_reducible exact ih1 _ _ _ _ _ _ _ _)
   | (with_reducible exact LeO.refl _)
   | (with_reducible exact LeO.none _)
   | (with_reducible refine LeO.ite ?_ ?_)
   | (with_reducible refine LeO.bind ?_ (fun _ => ?_))
   | exact ih0 _ _
   | exact ih1 _ _ _ _ _ _ _ _
   | exact LeO.none _
   | refine LeO.ite ?_ ?_
   | refine LeO.bind ?_ (fun _ => ?_)
  ·intro y0 y1 y2 y3 y4 y5 y6 y7
   unfold qtb.l0
   repeat' first
   | (with_reducible exact ih0 _ _)
   | (with_reducible exact ih1 _ _ _ _ _ _ _ _)
   | (with_reducible exact LeO.refl _)
   | (with_reducible exact LeO.none _)
   | (with_reducible refine LeO.ite ?_ ?_)
   | (with_reducible refine LeO.bind ?_ (fun _ => ?_))
   | exact ih0 _ _
   | exact ih1 _ _ _ _ _ _ _ _
   | exact LeO.none _
   | refine LeO.ite ?_ ?_
   | refine LeO.bind ?_ (fun _ => ?_)
theorem qtb.mono : ∀ a0 a1 k, LeO (qtb.f k a0 a1) (qtb.f (k + 1) a0 a1) := by
 intro a0 a1 k
 obtain ⟨ih0, ih1⟩ := qtb.mono_l k
 exact ih0 a0 a1
def qtb.T2 : Bool × List (List Nat × List Nat) := (true, [([], []), ([0], [0]), ([], []), ([2], [2]), ([], []), ([4], [4]), ([], []), ([6], [6]), ([7], [7]), ([1, 3, 5, 8], [1, 3, 5, 8]), ([], []), ([10, 9, 8, 0, 1, 2, 3, 4, 5, 6, 7, 8, 9, 10], [9, 10])])
def qtb.B2 : List Nat := [0, 1, 0, 4, 0, 16, 0, 64, 192, 511, 0, 2047]
theorem qtb.tab2 : rtab .any (opsOf Tryz.f67 2) = qtb.T2 := by kernel_rfl
theorem qtb.bits2 : waitsOk qtb.T2.2 qtb.B2 = true := by kernel_rfl
set_option maxHeartbeats 8000000 in
set_option maxRecDepth 100000 in
theorem qtb.calls (k : Nat) : ∀ (A0 : Option Addr) (c0 : Nat) (l0 : List (S53)) (a1 : Int) (r1 : ByteArray) (r2 : ByteArray) (r3 : ByteArray) (r4 : List (S55)) (r5 : List (S86)) (r6 : Int) (w : World) (hr0 : Kd.C k53 w A0 l0.length l0) (hc0 : l0.length ≤ c0) (h : qtb.f k l0 a1 = some (r1, r2, r3, r4, r5, r6)),
  Calls Tryz.prog 67 #[.slice A0 l0.length c0, .int .i64 a1] w fun e w' => ∃ v3_ v4_ : Value, e = .returned (.tuple #[.agg #[.string r1, .string r2, .string r3, v3_, v4_], .int .i64 r6]) ∧ Kd.R k55 55 w' w.heap.size (fun _ => True) v3_ r4 ∧ Kd.R k86 86 w' w.heap.size (fun k_ => some k_ ≠ (v3_ : Value).ownBlock) v4_ r5 ∧ Below w.heap.size w w' := by
 induction k using Nat.strongRecOn with
 | _ k ih =>
 intro A0 c0 l0 a1 r1 r2 r3 r4 r5 r6 w hr0 hc0 h
 cases k with
 | zero => exact absurd h (by simp [qtb.f])
 | succ k =>
 simp only [qtb.f] at h
 have hu86 := Tryz.underlying86
 have hu53 := Tryz.underlying53
 have HR0 := qa.mk hr0
 have HC0 := qa.mk hc0
 clear hr0 hc0
 have HB := qa.mk (Below.refl w.heap.size w)
 have H : (if 0 ≤ a1 then (if a1 < (l0.length : Int) then ((api_Attr.f ((qi l0 a1).f5)).bind fun t216 => (qtb.l0 k l0 a1 (wrap64 (a1 + 1)) ((qi l0 a1).f2) ((qi l0 a1).f3) ((qi l0 a1).f4) t216 ([] : List (S86)))) else (none)) else (none)) = some (r1, r2, r3, r4, r5, r6) := h
 clear h
 by_cases c3 : 0 ≤ a1
 ·rw [if_pos c3] at H
  have c3b0 : decide (0 ≤ a1) = true := decide_eq_true c3
  clear c3
  by_cases c4 : a1 < (l0.length : Int)
  ·rw [if_pos c4] at H
   have c4b0 : decide (a1 < (l0.length : Int)) = true := decide_eq_true c4
   clear c4
   replace H := Option.bind_eq_some_iff.mp H
   obtain ⟨t216, A50, H⟩ := H
   replace H : (qtb.l0 k l0 a1 (wrap64 (a1 + 1)) ((qi l0 a1).f2) ((qi l0 a1).f3) ((qi l0 a1).f4) t216 ([] : List (S86))) = some (r1, r2, r3, r4, r5, r6) := H
   have A5 := qa.mk A50
   clear A50
   have H' := qa.mk H
   clear H
   go_enter Tryz.func67, Tryz.ntmps67
   try go_wp2_with (first | ((with_reducible refine qfb (N := 4) rfl ?_); refine qlb ?hg (N := 4) ?hd (cs := #[.string (⟨#[]⟩ : ByteArray), .string (⟨#[]⟩ : ByteArray), .string (⟨#[]⟩ : ByteArray), .slice none 0 0, .slice none 0 0]) (t := 86) ?hr ?_; (case hd => rfl); (case hg => rfl); (case hr => exact zz6); intro gb213 hg w6 hbox hb; have n0_ := qa.mk (qp zz52 hb); have n1_ := qa.mk (hbox); have n2_ := qa.mk ((by rw [hg]; exact (qo zz52) : w.heap.size ≤ gb213)); have n3_ := qa.mk ((by rw [hg]; exact (qo zz52) : w.heap.size ≤ gb213)); clear HB; have HB := n0_; have BK213 := n1_; have GW213 := n2_; have GE213 := n3_; clear n0_ n1_ n2_ n3_; clear hb hbox hg; have p214 : 0 ≤ (a1 : Int) := of_decide_eq_true zz12; have q214 : a1 < (l0.length : Int) := of_decide_eq_true zz12; obtain ⟨ad214, A214_5, c214_5, e214, hx214_0, hx214_1, hx214_2, hx214_3, hx214_4, hx214_5, hl214_5, hi214_5⟩ := at_T53 HR0.out a1 p214 q214; cases e214; replace hx214_0 := (HB.out.cell (qwc w _ hx214_0)).trans hx214_0; replace hx214_1 := (HB.out.cell (qwc w _ hx214_1)).trans hx214_1; replace hx214_2 := (HB.out.cell (qwc w _ hx214_2)).trans hx214_2; replace hx214_3 := (HB.out.cell (qwc w _ hx214_3)).trans hx214_3; replace hx214_4 := (HB.out.cell (qwc w _ hx214_4)).trans hx214_4; replace hx214_5 := (HB.out.cell (qwc w _ hx214_5)).trans hx214_5; have HR214_5 := qa.mk hi214_5; have HC214_5 := qa.mk hl214_5; clear hi214_5 hl214_5; replace p214 := eq_true p214; replace q214 := eq_true q214) | ((with_reducible refine qfb (N := 6) rfl ?_); refine qlb ?hg (N := 6) ?hd (cs := #[.int .i64 0, .int .i64 0, .string (⟨#[]⟩ : ByteArray), .string (⟨#[]⟩ : ByteArray), .string (⟨#[]⟩ : ByteArray), .slice none 0 0]) (t := 53) ?hr ?_; (case hd => rfl); (case hg => rfl); (case hr => exact zz6); intro gb215 hg w7 hbox hb; have n0_ := qa.mk (qnb (g := gb213) (o := .cells #[.string (⟨#[]⟩ : ByteArray), .string (⟨#[]⟩ : ByteArray), .string (⟨#[]⟩ : ByteArray), .slice none 0 0, .slice none 0 0] 86 (0, 0)) zz43 hb); have n1_ := qa.mk (qp zz78 hb); have n2_ := qa.mk (hbox); have n3_ := qa.mk ((by rw [hg]; exact (qo zz78) : w.heap.size ≤ gb215)); have n4_ := qa.mk ((by rw [hg]; exact (qo zz78) : w.heap.size ≤ gb215)); have n5_ := qa.mk ((by rw [hg]; exact qyc (qbc (g := gb213) (o := .cells #[.string (⟨#[]⟩ : ByteArray), .string (⟨#[]⟩ : ByteArray), .string (⟨#[]⟩ : ByteArray), .slice none 0 0, .slice none 0 0] 86 (0, 0)) zz43) : gb213 ≠ gb215)); have n6_ := qa.mk ((by rw [hg]; exact Nat.ne_of_gt (qbc (g := gb213) (o := .cells #[.string (⟨#[]⟩ : ByteArray), .string (⟨#[]⟩ : ByteArray), .string (⟨#[]⟩ : ByteArray), .slice none 0 0, .slice none 0 0] 86 (0, 0)) zz43) : gb215 ≠ gb213)); clear BK213; clear HB; have BK213 := n0_; have HB := n1_; have BK215 := n2_; have GW215 := n3_; have GE215 := n4_; have NB213_215 := n5_; have NB215_213 := n6_; clear n0_ n1_ n2_ n3_ n4_ n5_ n6_; clear hb hbox hg; have hnb8 := NB215_213.out; have hnc8 := NB213_215.out; have hcz9_0 : w7.cell? ⟨gb215, 0, none⟩ = some (.int .i64 0) := (qh BK215.out 0).trans rfl; have hcz9_1 : w7.cell? ⟨gb215, 1, none⟩ = some (.int .i64 0) := (qh BK215.out 1).trans rfl; have hcz9_2 : w7.cell? ⟨gb215, 2, none⟩ = some (.string (⟨#[]⟩ : ByteArray)) := (qh BK215.out 2).trans rfl; have hcz9_3 : w7.cell? ⟨gb215, 3, none⟩ = some (.string (⟨#[]⟩ : ByteArray)) := (qh BK215.out 3).trans rfl; have hcz9_4 : w7.cell? ⟨gb215, 4, none⟩ = some (.string (⟨#[]⟩ : ByteArray)) := (qh BK215.out 4).trans rfl; have hcz9_5 : w7.cell? ⟨gb215, 5, none⟩ = some (.slice none 0 0) := (qh BK215.out 5).trans rfl; have hfz9_0 := qf BK215.out 0; have hfz9_1 := qf BK215.out 1; have hfz9_2 := qf BK215.out 2; have hfz9_3 := qf BK215.out 3; have hfz9_4 := qf BK215.out 4; have hfz9_5 := qf BK215.out 5))
   have n0_ : qa (((((((w7.setCell ⟨gb215, 0, none⟩ (.int .i64 ((qi l0 a1).f0))).setCell ⟨gb215, 1, none⟩ (.int .i64 ((qi l0 a1).f1))).setCell ⟨gb215, 2, none⟩ (.string ((qi l0 a1).f2))).setCell ⟨gb215, 3, none⟩ (.string ((qi l0 a1).f3))).setCell ⟨gb215, 4, none⟩ (.string ((qi l0 a1).f4))).setCell ⟨gb215, 5, none⟩ (.slice A214_5 ((qi l0 a1).f5).length c214_5)).heap[gb213]? = some (.cells #[.string (⟨#[]⟩ : ByteArray), .string (⟨#[]⟩ : ByteArray), .string (⟨#[]⟩ : ByteArray), .slice none 0 0, .slice none 0 0] 86 (0, 0))) := ⟨by (with_reducible repeat (first | refine qk ?_ _ | refine ql ?_ | refine qj ?_ _)); refine qqb ?_ NB213_215.out _; (with_reducible repeat (first | refine qk ?_ _ | refine ql ?_ | refine qj ?_ _)); refine qqb ?_ NB213_215.out _; (with_reducible repeat (first | refine qk ?_ _ | refine ql ?_ | refine qj ?_ _)); refine qqb ?_ NB213_215.out _; (with_reducible repeat (first | refine qk ?_ _ | refine ql ?_ | refine qj ?_ _)); refine qqb ?_ NB213_215.out _; (with_reducible repeat (first | refine qk ?_ _ | refine ql ?_ | refine qj ?_ _)); refine qqb ?_ NB213_215.out _; (with_reducible repeat (first | refine qk ?_ _ | refine ql ?_ | refine qj ?_ _)); refine qqb ?_ NB213_215.out _; (with_reducible repeat (first | refine qk ?_ _ | refine ql ?_ | refine qj ?_ _)); exact BK213.out⟩
   have n1_ : qa (((((((w7.setCell ⟨gb215, 0, none⟩ (.int .i64 ((qi l0 a1).f0))).setCell ⟨gb215, 1, none⟩ (.int .i64 ((qi l0 a1).f1))).setCell ⟨gb215, 2, none⟩ (.string ((qi l0 a1).f2))).setCell ⟨gb215, 3, none⟩ (.string ((qi l0 a1).f3))).setCell ⟨gb215, 4, none⟩ (.string ((qi l0 a1).f4))).setCell ⟨gb215, 5, none⟩ (.slice A214_5 ((qi l0 a1).f5).length c214_5)).heap[gb215]? = some (.cells #[.int .i64 ((qi l0 a1).f0), .int .i64 ((qi l0 a1).f1), .string ((qi l0 a1).f2), .string ((qi l0 a1).f3), .string ((qi l0 a1).f4), .slice A214_5 ((qi l0 a1).f5).length c214_5] 53 (0, 0))) := ⟨by (with_reducible repeat (first | refine qk ?_ _ | refine ql ?_ | refine qj ?_ _)); refine qr (cs := #[.int .i64 ((qi l0 a1).f0), .int .i64 ((qi l0 a1).f1), .string ((qi l0 a1).f2), .string ((qi l0 a1).f3), .string ((qi l0 a1).f4), .slice none 0 0]) ?_ 5 _ rfl; (with_reducible repeat (first | refine qk ?_ _ | refine ql ?_ | refine qj ?_ _)); refine qr (cs := #[.int .i64 ((qi l0 a1).f0), .int .i64 ((qi l0 a1).f1), .string ((qi l0 a1).f2), .string ((qi l0 a1).f3), .string (⟨#[]⟩ : ByteArray), .slice none 0 0]) ?_ 4 _ rfl; (with_reducible repeat (first | refine qk ?_ _ | refine ql ?_ | refine qj ?_ _)); refine qr (cs := #[.int .i64 ((qi l0 a1).f0), .int .i64 ((qi l0 a1).f1), .string ((qi l0 a1).f2), .string (⟨#[]⟩ : ByteArray), .string (⟨#[]⟩ : ByteArray), .slice none 0 0]) ?_ 3 _ rfl; (with_reducible repeat (first | refine qk ?_ _ | refine ql ?_ | refine qj ?_ _)); refine qr (cs := #[.int .i64 ((qi l0 a1).f0), .int .i64 ((qi l0 a1).f1), .string (⟨#[]⟩ : ByteArray), .string (⟨#[]⟩ : ByteArray), .string (⟨#[]⟩ : ByteArray), .slice none 0 0]) ?_ 2 _ rfl; (with_reducible repeat (first | refine qk ?_ _ | refine ql ?_ | refine qj ?_ _)); refine qr (cs := #[.int .i64 ((qi l0 a1).f0), .int .i64 0, .string (⟨#[]⟩ : ByteArray), .string (⟨#[]⟩ : ByteArray), .string (⟨#[]⟩ : ByteArray), .slice none 0 0]) ?_ 1 _ rfl; (with_reducible repeat (first | refine qk ?_ _ | refine ql ?_ | refine qj ?_ _)); refine qr (cs := #[.int .i64 0, .int .i64 0, .string (⟨#[]⟩ : ByteArray), .string (⟨#[]⟩ : ByteArray), .string (⟨#[]⟩ : ByteArray), .slice none 0 0]) ?_ 0 _ rfl; (with_reducible repeat (first | refine qk ?_ _ | refine ql ?_ | refine qj ?_ _)); exact BK215.out⟩
   have n2_ : qa (Below w.heap.size w ((((((w7.setCell ⟨gb215, 0, none⟩ (.int .i64 ((qi l0 a1).f0))).setCell ⟨gb215, 1, none⟩ (.int .i64 ((qi l0 a1).f1))).setCell ⟨gb215, 2, none⟩ (.string ((qi l0 a1).f2))).setCell ⟨gb215, 3, none⟩ (.string ((qi l0 a1).f3))).setCell ⟨gb215, 4, none⟩ (.string ((qi l0 a1).f4))).setCell ⟨gb215, 5, none⟩ (.slice A214_5 ((qi l0 a1).f5).length c214_5))) := ⟨zz104⟩
   (try clear BK213)
   (try clear BK215)
   (try clear HB)
   generalize ((((((w7.setCell ⟨gb215, 0, none⟩ (.int .i64 ((qi l0 a1).f0))).setCell ⟨gb215, 1, none⟩ (.int .i64 ((qi l0 a1).f1))).setCell ⟨gb215, 2, none⟩ (.string ((qi l0 a1).f2))).setCell ⟨gb215, 3, none⟩ (.string ((qi l0 a1).f3))).setCell ⟨gb215, 4, none⟩ (.string ((qi l0 a1).f4))).setCell ⟨gb215, 5, none⟩ (.slice A214_5 ((qi l0 a1).f5).length c214_5)) = w10 at n0_ n1_ n2_ ⊢
   have BK213 := n0_
   have BK215 := n1_
   have HB := n2_
   clear n0_ n1_ n2_
   have n0_ := qa.mk (ql BK213.out)
   have n1_ := qa.mk (ql BK215.out)
   have n2_ := qa.mk (qd HB.out)
   clear BK213
   clear BK215
   clear HB
   have BK213 := n0_
   have BK215 := n1_
   have HB := n2_
   clear n0_ n1_ n2_
   refine start_ (n := 12) (S := fun w' => w'.cell? ⟨gb215, 0, none⟩ = some (.int .i64 ((qi l0 a1).f0)) ∧ w'.cell? ⟨gb215, 1, none⟩ = some (.int .i64 ((qi l0 a1).f1)) ∧ w'.cell? ⟨gb215, 2, none⟩ = some (.string ((qi l0 a1).f2)) ∧ w'.cell? ⟨gb215, 3, none⟩ = some (.string ((qi l0 a1).f3)) ∧ w'.cell? ⟨gb215, 4, none⟩ = some (.string ((qi l0 a1).f4)) ∧ w'.cell? ⟨gb215, 5, none⟩ = some (.slice A214_5 ((qi l0 a1).f5).length c214_5)) (ds := []) #[false, false, false, false, false, false, false, false, false, false, false, false] (by kernel_rfl) rfl rfl ⟨(qh BK215.out 0).trans rfl, (qh BK215.out 1).trans rfl, (qh BK215.out 2).trans rfl, (qh BK215.out 3).trans rfl, (qh BK215.out 4).trans rfl, (qh BK215.out 5).trans rfl⟩ (fun hHeld => ?_); refine with_tabW qtb.tab2 qtb.bits2 (fun HT_ HW_ => ?_)
   generalize w10.drew = w11 at BK213 BK215 HB hHeld ⊢
   refine pure_ (i := 0) (N := some 14) (v := ?_) (a' := ?_) #[true, false, false, false, false, false, false, false, false, false, false, false] rfl rfl (any_of HT_.out (by kernel_rfl)) (fun _ _ _ h => h) (Or.inl ⟨by rfl, ?_⟩) ?_ ?_
   rotate_left
   ·intro w'
    go_simp
    with_reducible rfl
   rotate_left
   ·simp only [Act.put, List.setIfInBounds_toArray, List.set_cons_zero, List.set_cons_succ, i64_w, i32_w]
    rfl
   refine pure_ (i := 2) (N := some 16) (v := ?_) (a' := ?_) #[true, false, true, false, false, false, false, false, false, false, false, false] rfl rfl (any_of HT_.out (by kernel_rfl)) (fun _ _ _ h => h) (Or.inl ⟨by rfl, ?_⟩) ?_ ?_
   rotate_left
   ·intro w'
    go_simp
    with_reducible rfl
   rotate_left
   ·simp only [Act.put, List.setIfInBounds_toArray, List.set_cons_zero, List.set_cons_succ, i64_w, i32_w]
    rfl
   refine pure_ (i := 4) (N := some 18) (v := ?_) (a' := ?_) #[true, false, true, false, true, false, false, false, false, false, false, false] rfl rfl (any_of HT_.out (by kernel_rfl)) (fun _ _ _ h => h) (Or.inl ⟨by rfl, ?_⟩) ?_ ?_
   rotate_left
   ·intro w'
    go_simp
    with_reducible rfl
   rotate_left
   ·simp only [Act.put, List.setIfInBounds_toArray, List.set_cons_zero, List.set_cons_succ, i64_w, i32_w]
    rfl
   refine pure_ (i := 6) (N := some 20) (v := ?_) (a' := ?_) #[true, false, true, false, true, false, true, false, false, false, false, false] rfl rfl (any_of HT_.out (by kernel_rfl)) (fun _ _ _ h => h) (Or.inl ⟨by rfl, ?_⟩) ?_ ?_
   rotate_left
   ·intro w'
    go_simp
    with_reducible rfl
   rotate_left
   ·simp only [Act.put, List.setIfInBounds_toArray, List.set_cons_zero, List.set_cons_succ, i64_w, i32_w]
    rfl
   refine take_ (i := 1) (N := some 15) (v := ?_) (a' := ?_) #[true, true, true, false, true, false, true, false, false, false, false, false] rfl rfl (take_ofW HT_.out HW_.out (by kernel_rfl)) (fun _ _ _ h => h) (Or.inl ⟨by rfl, ?_⟩) hHeld ?_ ?_
   rotate_left
   ·rintro w' ⟨s0, s1, s2, s3, s4, s5⟩
    go_simp
    with_reducible rfl
   rotate_left
   ·simp only [Act.put, List.setIfInBounds_toArray, List.set_cons_zero, List.set_cons_succ, i64_w, i32_w]
    rfl
   refine take_ (i := 3) (N := some 17) (v := ?_) (a' := ?_) #[true, true, true, true, true, false, true, false, false, false, false, false] rfl rfl (take_ofW HT_.out HW_.out (by kernel_rfl)) (fun _ _ _ h => h) (Or.inl ⟨by rfl, ?_⟩) hHeld ?_ ?_
   rotate_left
   ·rintro w' ⟨s0, s1, s2, s3, s4, s5⟩
    go_simp
    with_reducible rfl
   rotate_left
   ·simp only [Act.put, List.setIfInBounds_toArray, List.set_cons_zero, List.set_cons_succ, i64_w, i32_w]
    rfl
   refine take_ (i := 5) (N := some 19) (v := ?_) (a' := ?_) #[true, true, true, true, true, true, true, false, false, false, false, false] rfl rfl (take_ofW HT_.out HW_.out (by kernel_rfl)) (fun _ _ _ h => h) (Or.inl ⟨by rfl, ?_⟩) hHeld ?_ ?_
   rotate_left
   ·rintro w' ⟨s0, s1, s2, s3, s4, s5⟩
    go_simp
    with_reducible rfl
   rotate_left
   ·simp only [Act.put, List.setIfInBounds_toArray, List.set_cons_zero, List.set_cons_succ, i64_w, i32_w]
    rfl
   refine take_ (i := 7) (N := some 21) (v := ?_) (a' := ?_) #[true, true, true, true, true, true, true, true, false, false, false, false] rfl rfl (take_ofW HT_.out HW_.out (by kernel_rfl)) (fun _ _ _ h => h) (Or.inl ⟨by rfl, ?_⟩) hHeld ?_ ?_
   rotate_left
   ·rintro w' ⟨s0, s1, s2, s3, s4, s5⟩
    go_simp
    with_reducible rfl
   rotate_left
   ·simp only [Act.put, List.setIfInBounds_toArray, List.set_cons_zero, List.set_cons_succ, i64_w, i32_w]
    rfl
   refine join_ (σ := Value × Nat) 1 #[true, true, true, true, true, true, true, true, true, true, true, false] (fun s_ => [(22, s_.1), (7, .pointer (some ⟨s_.2, 0, none⟩)), (23, .agg #[.string ((qi l0 a1).f2), .string ((qi l0 a1).f3), .string ((qi l0 a1).f4), s_.1, .slice none 0 0])]) (fun s_ w' => (w'.cell? ⟨gb215, 0, none⟩ = some (.int .i64 ((qi l0 a1).f0)) ∧ w'.cell? ⟨gb215, 1, none⟩ = some (.int .i64 ((qi l0 a1).f1)) ∧ w'.cell? ⟨gb215, 2, none⟩ = some (.string ((qi l0 a1).f2)) ∧ w'.cell? ⟨gb215, 3, none⟩ = some (.string ((qi l0 a1).f3)) ∧ w'.cell? ⟨gb215, 4, none⟩ = some (.string ((qi l0 a1).f4)) ∧ w'.cell? ⟨gb215, 5, none⟩ = some (.slice A214_5 ((qi l0 a1).f5).length c214_5)) ∧ (Kd.R k55 55 w' w.heap.size (fun _ => True) s_.1 t216) ∧ (w'.heap[gb213]? = some (.cells #[.string (⟨#[]⟩ : ByteArray), .string (⟨#[]⟩ : ByteArray), .string (⟨#[]⟩ : ByteArray), .slice none 0 0, .slice none 0 0] 86 (0, 0))) ∧ (w'.heap[gb215]? = some (.cells #[.int .i64 ((qi l0 a1).f0), .int .i64 ((qi l0 a1).f1), .string ((qi l0 a1).f2), .string ((qi l0 a1).f3), .string ((qi l0 a1).f4), .slice A214_5 ((qi l0 a1).f5).length c214_5] 53 (0, 0))) ∧ (w'.heap[s_.2]? = some (.cells #[.string (⟨#[]⟩ : ByteArray), .string (⟨#[]⟩ : ByteArray), .string (⟨#[]⟩ : ByteArray), .slice none 0 0, .slice none 0 0] 86 (0, 0))) ∧ (w.heap.size ≤ s_.2) ∧ (w.heap.size ≤ s_.2) ∧ (gb213 ≠ s_.2) ∧ (s_.2 ≠ gb213) ∧ (gb215 ≠ s_.2) ∧ (s_.2 ≠ gb215) ∧ (Below w.heap.size w w')) ?_ ?_
   rotate_left
   ·intro hCont
    refine two_ (i := 8) (j := 10) (Ni := some 22) (Nj := some 7) #[true, true, true, true, true, true, true, true, true, false, false, false] #[true, true, true, true, true, true, true, true, false, false, true, false] rfl rfl rfl rfl (two_of HT_.out (by kernel_rfl)) (by decide) (by decide) (fun K hK => ?_) (fun K hK => ?_)
    ·skip
     refine goes_ Tryz.func79 (by kernel_rfl) rfl #[.slice A214_5 ((qi l0 a1).f5).length c214_5] (by rfl) rfl rfl zz93 ?_
     with_reducible refine (api_Attr.calls _ _ ((qi l0 a1).f5) t216 _ ?side1 ?side2 A5.out).mono ?_
     (case side1 => exact zz132)
     (case side2 => exact HC214_5.out)
     rintro e w12 ⟨v217, rfl, ho0, hb⟩
     refine ⟨_, rfl, ?_⟩
     have n0_ := qa.mk (Kd.R_lower ho0 (qo zz104))
     have n1_ := qa.mk (qnb (g := gb213) (o := .cells #[.string (⟨#[]⟩ : ByteArray), .string (⟨#[]⟩ : ByteArray), .string (⟨#[]⟩ : ByteArray), .slice none 0 0, .slice none 0 0] 86 (0, 0)) zz43 hb)
     have n2_ := qa.mk (qnb (g := gb215) (o := .cells #[.int .i64 ((qi l0 a1).f0), .int .i64 ((qi l0 a1).f1), .string ((qi l0 a1).f2), .string ((qi l0 a1).f3), .string ((qi l0 a1).f4), .slice A214_5 ((qi l0 a1).f5).length c214_5] 53 (0, 0)) zz44 hb)
     have n3_ := qa.mk (qp zz104 hb)
     clear BK213
     clear BK215
     clear HB
     have HO218 := n0_
     have BK213 := n1_
     have BK215 := n2_
     have HB := n3_
     clear n0_ n1_ n2_ n3_
     (try clear hb)
     (try clear hb2)
     (try clear hk)
     (try clear hi)
     (try clear ho0)
     obtain ⟨Ao13, co13, eo13⟩ := Kd.R_slice HO218.out
     (first | subst eo13 | (injection eo13 with f1_ f2_ f3_; have f4_ := f1_.symm; have f5_ := f3_.symm; clear f1_ f2_ f3_; subst f4_; subst f5_))
     refine hK.out _ _ ⟨(qh BK215.out 0).trans rfl, (qh BK215.out 1).trans rfl, (qh BK215.out 2).trans rfl, (qh BK215.out 3).trans rfl, (qh BK215.out 4).trans rfl, (qh BK215.out 5).trans rfl⟩ (fun hHeld => ?_)
     clear hK K
     refine norm_ (a' := ?_) ?_ ?_
     rotate_left
     ·show Act.put _ (some 22) _ = _
      simp only [Act.put, List.setIfInBounds_toArray, List.set_cons_zero, List.set_cons_succ, i64_w, i32_w]
      rfl
     refine pure_ (i := 9) (N := some 23) (v := ?_) (a' := ?_) #[true, true, true, true, true, true, true, true, true, true, false, false] rfl rfl (any_of HT_.out (by kernel_rfl)) (fun _ _ _ h => h) (Or.inl ⟨by rfl, ?_⟩) ?_ ?_
     rotate_left
     ·intro w'
      go_simp
      with_reducible rfl
     rotate_left
     ·simp only [Act.put, List.setIfInBounds_toArray, List.set_cons_zero, List.set_cons_succ, i64_w, i32_w]
      rfl
     refine one_ (i := 10) (N := some 7) #[true, true, true, true, true, true, true, true, true, true, true, false] rfl rfl (one_of HT_.out (by kernel_rfl)) (by decide) (fun K hK => ?_)
     refine box_step ?hg (N := 7) ?hd (cs := #[.string (⟨#[]⟩ : ByteArray), .string (⟨#[]⟩ : ByteArray), .string (⟨#[]⟩ : ByteArray), .slice none 0 0, .slice none 0 0]) (t := 86) ?hr ?_; (case hd => rfl); (case hg => rfl); (case hr => exact zz6)
     intro gb219 hg w14 hbox hb
     have n0_ := qa.mk (Kd.R_below zz60 hb)
     have n1_ := qa.mk (qnb (g := gb213) (o := .cells #[.string (⟨#[]⟩ : ByteArray), .string (⟨#[]⟩ : ByteArray), .string (⟨#[]⟩ : ByteArray), .slice none 0 0, .slice none 0 0] 86 (0, 0)) zz43 hb)
     have n2_ := qa.mk (qnb (g := gb215) (o := .cells #[.int .i64 ((qi l0 a1).f0), .int .i64 ((qi l0 a1).f1), .string ((qi l0 a1).f2), .string ((qi l0 a1).f3), .string ((qi l0 a1).f4), .slice A214_5 ((qi l0 a1).f5).length c214_5] 53 (0, 0)) zz44 hb)
     have n3_ := qa.mk (qp zz104 hb)
     have n4_ := qa.mk (hbox)
     have n5_ := qa.mk ((by rw [hg]; exact (qo zz104) : w.heap.size ≤ gb219))
     have n6_ := qa.mk ((by rw [hg]; exact (qo zz104) : w.heap.size ≤ gb219))
     have n7_ := qa.mk ((by rw [hg]; exact qyc (qbc (g := gb213) (o := .cells #[.string (⟨#[]⟩ : ByteArray), .string (⟨#[]⟩ : ByteArray), .string (⟨#[]⟩ : ByteArray), .slice none 0 0, .slice none 0 0] 86 (0, 0)) zz43) : gb213 ≠ gb219))
     have n8_ := qa.mk ((by rw [hg]; exact Nat.ne_of_gt (qbc (g := gb213) (o := .cells #[.string (⟨#[]⟩ : ByteArray), .string (⟨#[]⟩ : ByteArray), .string (⟨#[]⟩ : ByteArray), .slice none 0 0, .slice none 0 0] 86 (0, 0)) zz43) : gb219 ≠ gb213))
     have n9_ := qa.mk ((by rw [hg]; exact qyc (qbc (g := gb215) (o := .cells #[.int .i64 ((qi l0 a1).f0), .int .i64 ((qi l0 a1).f1), .string ((qi l0 a1).f2), .string ((qi l0 a1).f3), .string ((qi l0 a1).f4), .slice A214_5 ((qi l0 a1).f5).length c214_5] 53 (0, 0)) zz44) : gb215 ≠ gb219))
     have n10_ := qa.mk ((by rw [hg]; exact Nat.ne_of_gt (qbc (g := gb215) (o := .cells #[.int .i64 ((qi l0 a1).f0), .int .i64 ((qi l0 a1).f1), .string ((qi l0 a1).f2), .string ((qi l0 a1).f3), .string ((qi l0 a1).f4), .slice A214_5 ((qi l0 a1).f5).length c214_5] 53 (0, 0)) zz44) : gb219 ≠ gb215))
     clear HO218
     clear BK213
     clear BK215
     clear HB
     have HO218 := n0_
     have BK213 := n1_
     have BK215 := n2_
     have HB := n3_
     have BK219 := n4_
     have GW219 := n5_
     have GE219 := n6_
     have NB213_219 := n7_
     have NB219_213 := n8_
     have NB215_219 := n9_
     have NB219_215 := n10_
     clear n0_ n1_ n2_ n3_ n4_ n5_ n6_ n7_ n8_ n9_ n10_
     clear hb hbox hg
     refine hK.out _ _ ⟨(qh BK215.out 0).trans rfl, (qh BK215.out 1).trans rfl, (qh BK215.out 2).trans rfl, (qh BK215.out 3).trans rfl, (qh BK215.out 4).trans rfl, (qh BK215.out 5).trans rfl⟩ (fun hHeld => ?_)
     clear hK K
     refine norm_ (a' := ?_) ?_ ?_
     rotate_left
     ·show Act.put _ (some 7) _ = _
      simp only [Act.put, List.setIfInBounds_toArray, List.set_cons_zero, List.set_cons_succ, i64_w, i32_w]
      rfl
     exact norm_ (by simp only [putAll, Act.put, List.setIfInBounds_toArray, List.set_cons_zero, List.set_cons_succ]) (hCont (.slice Ao13 t216.length co13, gb219) _ ⟨hHeld, zz60, zz43, zz44, zz45, GW219.out, GE219.out, NB213_219.out, NB219_213.out, NB215_219.out, NB219_215.out, zz131⟩)
    ·skip
     refine box_step ?hg (N := 7) ?hd (cs := #[.string (⟨#[]⟩ : ByteArray), .string (⟨#[]⟩ : ByteArray), .string (⟨#[]⟩ : ByteArray), .slice none 0 0, .slice none 0 0]) (t := 86) ?hr ?_; (case hd => rfl); (case hg => rfl); (case hr => exact zz6)
     intro gb219 hg w12 hbox hb
     have n0_ := qa.mk (qnb (g := gb213) (o := .cells #[.string (⟨#[]⟩ : ByteArray), .string (⟨#[]⟩ : ByteArray), .string (⟨#[]⟩ : ByteArray), .slice none 0 0, .slice none 0 0] 86 (0, 0)) zz43 hb)
     have n1_ := qa.mk (qnb (g := gb215) (o := .cells #[.int .i64 ((qi l0 a1).f0), .int .i64 ((qi l0 a1).f1), .string ((qi l0 a1).f2), .string ((qi l0 a1).f3), .string ((qi l0 a1).f4), .slice A214_5 ((qi l0 a1).f5).length c214_5] 53 (0, 0)) zz44 hb)
     have n2_ := qa.mk (qp zz104 hb)
     have n3_ := qa.mk (hbox)
     have n4_ := qa.mk ((by rw [hg]; exact (qo zz104) : w.heap.size ≤ gb219))
     have n5_ := qa.mk ((by rw [hg]; exact (qo zz104) : w.heap.size ≤ gb219))
     have n6_ := qa.mk ((by rw [hg]; exact qyc (qbc (g := gb213) (o := .cells #[.string (⟨#[]⟩ : ByteArray), .string (⟨#[]⟩ : ByteArray), .string (⟨#[]⟩ : ByteArray), .slice none 0 0, .slice none 0 0] 86 (0, 0)) zz43) : gb213 ≠ gb219))
     have n7_ := qa.mk ((by rw [hg]; exact Nat.ne_of_gt (qbc (g := gb213) (o := .cells #[.string (⟨#[]⟩ : ByteArray), .string (⟨#[]⟩ : ByteArray), .string (⟨#[]⟩ : ByteArray), .slice none 0 0, .slice none 0 0] 86 (0, 0)) zz43) : gb219 ≠ gb213))
     have n8_ := qa.mk ((by rw [hg]; exact qyc (qbc (g := gb215) (o := .cells #[.int .i64 ((qi l0 a1).f0), .int .i64 ((qi l0 a1).f1), .string ((qi l0 a1).f2), .string ((qi l0 a1).f3), .string ((qi l0 a1).f4), .slice A214_5 ((qi l0 a1).f5).length c214_5] 53 (0, 0)) zz44) : gb215 ≠ gb219))
     have n9_ := qa.mk ((by rw [hg]; exact Nat.ne_of_gt (qbc (g := gb215) (o := .cells #[.int .i64 ((qi l0 a1).f0), .int .i64 ((qi l0 a1).f1), .string ((qi l0 a1).f2), .string ((qi l0 a1).f3), .string ((qi l0 a1).f4), .slice A214_5 ((qi l0 a1).f5).length c214_5] 53 (0, 0)) zz44) : gb219 ≠ gb215))
     clear BK213
     clear BK215
     clear HB
     have BK213 := n0_
     have BK215 := n1_
     have HB := n2_
     have BK219 := n3_
     have GW219 := n4_
     have GE219 := n5_
     have NB213_219 := n6_
     have NB219_213 := n7_
     have NB215_219 := n8_
     have NB219_215 := n9_
     clear n0_ n1_ n2_ n3_ n4_ n5_ n6_ n7_ n8_ n9_
     clear hb hbox hg
     refine hK.out _ _ ⟨(qh BK215.out 0).trans rfl, (qh BK215.out 1).trans rfl, (qh BK215.out 2).trans rfl, (qh BK215.out 3).trans rfl, (qh BK215.out 4).trans rfl, (qh BK215.out 5).trans rfl⟩ (fun hHeld => ?_)
     clear hK K
     refine norm_ (a' := ?_) ?_ ?_
     rotate_left
     ·show Act.put _ (some 7) _ = _
      simp only [Act.put, List.setIfInBounds_toArray, List.set_cons_zero, List.set_cons_succ, i64_w, i32_w]
      rfl
     refine one_ (i := 8) (N := some 22) #[true, true, true, true, true, true, true, true, true, false, true, false] rfl rfl (one_of HT_.out (by kernel_rfl)) (by decide) (fun K hK => ?_)
     refine goes_ Tryz.func79 (by kernel_rfl) rfl #[.slice A214_5 ((qi l0 a1).f5).length c214_5] (by rfl) rfl rfl zz93 ?_
     with_reducible refine (api_Attr.calls _ _ ((qi l0 a1).f5) t216 _ ?side1 ?side2 A5.out).mono ?_
     (case side1 => exact zz132)
     (case side2 => exact HC214_5.out)
     rintro e w13 ⟨v217, rfl, ho0, hb⟩
     refine ⟨_, rfl, ?_⟩
     have n0_ := qa.mk (Kd.R_lower ho0 (qo zz131))
     have n1_ := qa.mk (qnb (g := gb213) (o := .cells #[.string (⟨#[]⟩ : ByteArray), .string (⟨#[]⟩ : ByteArray), .string (⟨#[]⟩ : ByteArray), .slice none 0 0, .slice none 0 0] 86 (0, 0)) zz43 hb)
     have n2_ := qa.mk (qnb (g := gb215) (o := .cells #[.int .i64 ((qi l0 a1).f0), .int .i64 ((qi l0 a1).f1), .string ((qi l0 a1).f2), .string ((qi l0 a1).f3), .string ((qi l0 a1).f4), .slice A214_5 ((qi l0 a1).f5).length c214_5] 53 (0, 0)) zz44 hb)
     have n3_ := qa.mk (qnb (g := gb219) (o := .cells #[.string (⟨#[]⟩ : ByteArray), .string (⟨#[]⟩ : ByteArray), .string (⟨#[]⟩ : ByteArray), .slice none 0 0, .slice none 0 0] 86 (0, 0)) zz45 hb)
     have n4_ := qa.mk (qp zz131 hb)
     clear BK213
     clear BK215
     clear BK219
     clear HB
     have HO218 := n0_
     have BK213 := n1_
     have BK215 := n2_
     have BK219 := n3_
     have HB := n4_
     clear n0_ n1_ n2_ n3_ n4_
     (try clear hb)
     (try clear hb2)
     (try clear hk)
     (try clear hi)
     (try clear ho0)
     obtain ⟨Ao14, co14, eo14⟩ := Kd.R_slice HO218.out
     (first | subst eo14 | (injection eo14 with f1_ f2_ f3_; have f4_ := f1_.symm; have f5_ := f3_.symm; clear f1_ f2_ f3_; subst f4_; subst f5_))
     refine hK.out _ _ ⟨(qh BK215.out 0).trans rfl, (qh BK215.out 1).trans rfl, (qh BK215.out 2).trans rfl, (qh BK215.out 3).trans rfl, (qh BK215.out 4).trans rfl, (qh BK215.out 5).trans rfl⟩ (fun hHeld => ?_)
     clear hK K
     refine norm_ (a' := ?_) ?_ ?_
     rotate_left
     ·show Act.put _ (some 22) _ = _
      simp only [Act.put, List.setIfInBounds_toArray, List.set_cons_zero, List.set_cons_succ, i64_w, i32_w]
      rfl
     refine pure_ (i := 9) (N := some 23) (v := ?_) (a' := ?_) #[true, true, true, true, true, true, true, true, true, true, true, false] rfl rfl (any_of HT_.out (by kernel_rfl)) (fun _ _ _ h => h) (Or.inl ⟨by rfl, ?_⟩) ?_ ?_
     rotate_left
     ·intro w'
      go_simp
      with_reducible rfl
     rotate_left
     ·simp only [Act.put, List.setIfInBounds_toArray, List.set_cons_zero, List.set_cons_succ, i64_w, i32_w]
      rfl
     exact norm_ (by simp only [putAll, Act.put, List.setIfInBounds_toArray, List.set_cons_zero, List.set_cons_succ]) (hCont (.slice Ao14 t216.length co14, gb219) _ ⟨hHeld, zz60, zz43, zz44, zz45, GW219.out, GE219.out, NB213_219.out, NB219_213.out, NB215_219.out, NB219_215.out, zz131⟩)
   rintro ⟨v217, gb219⟩ w15 ⟨hS_, h0_, h1_, h2_, h3_, h4_, h5_, h6_, h7_, h8_, h9_, h10_⟩
   have n0_ : qa (Kd.R k55 55 w15 w.heap.size (fun _ => True) v217 t216) := ⟨h0_⟩
   have n1_ : qa (w15.heap[gb213]? = some (.cells #[.string (⟨#[]⟩ : ByteArray), .string (⟨#[]⟩ : ByteArray), .string (⟨#[]⟩ : ByteArray), .slice none 0 0, .slice none 0 0] 86 (0, 0))) := ⟨h1_⟩
   have n2_ : qa (w15.heap[gb215]? = some (.cells #[.int .i64 ((qi l0 a1).f0), .int .i64 ((qi l0 a1).f1), .string ((qi l0 a1).f2), .string ((qi l0 a1).f3), .string ((qi l0 a1).f4), .slice A214_5 ((qi l0 a1).f5).length c214_5] 53 (0, 0))) := ⟨h2_⟩
   have n3_ : qa (w15.heap[gb219]? = some (.cells #[.string (⟨#[]⟩ : ByteArray), .string (⟨#[]⟩ : ByteArray), .string (⟨#[]⟩ : ByteArray), .slice none 0 0, .slice none 0 0] 86 (0, 0))) := ⟨h3_⟩
   have n4_ : qa (w.heap.size ≤ gb219) := ⟨h4_⟩
   have n5_ : qa (w.heap.size ≤ gb219) := ⟨h5_⟩
   have n6_ : qa (gb213 ≠ gb219) := ⟨h6_⟩
   have n7_ : qa (gb219 ≠ gb213) := ⟨h7_⟩
   have n8_ : qa (gb215 ≠ gb219) := ⟨h8_⟩
   have n9_ : qa (gb219 ≠ gb215) := ⟨h9_⟩
   have n10_ : qa (Below w.heap.size w w15) := ⟨h10_⟩
   clear BK213
   clear BK215
   clear HB
   clear h0_ h1_ h2_ h3_ h4_ h5_ h6_ h7_ h8_ h9_ h10_
   have HO218 := n0_
   have BK213 := n1_
   have BK215 := n2_
   have BK219 := n3_
   have GW219 := n4_
   have GE219 := n5_
   have NB213_219 := n6_
   have NB219_213 := n7_
   have NB215_219 := n8_
   have NB219_215 := n9_
   have HB := n10_
   clear n0_ n1_ n2_ n3_ n4_ n5_ n6_ n7_ n8_ n9_ n10_
   have hHeld : w15.cell? ⟨gb215, 0, none⟩ = some (.int .i64 ((qi l0 a1).f0)) ∧ w15.cell? ⟨gb215, 1, none⟩ = some (.int .i64 ((qi l0 a1).f1)) ∧ w15.cell? ⟨gb215, 2, none⟩ = some (.string ((qi l0 a1).f2)) ∧ w15.cell? ⟨gb215, 3, none⟩ = some (.string ((qi l0 a1).f3)) ∧ w15.cell? ⟨gb215, 4, none⟩ = some (.string ((qi l0 a1).f4)) ∧ w15.cell? ⟨gb215, 5, none⟩ = some (.slice A214_5 ((qi l0 a1).f5).length c214_5) := hS_
   obtain ⟨Ao16, co16, eo16⟩ := Kd.R_slice HO218.out
   (first | subst eo16 | (injection eo16 with f1_ f2_ f3_; have f4_ := f1_.symm; have f5_ := f3_.symm; clear f1_ f2_ f3_; subst f4_; subst f5_))
   refine norm_ (a' := ?_) ?_ ?_
   rotate_left
   ·simp only [putAll, Act.put, List.setIfInBounds_toArray, List.set_cons_zero, List.set_cons_succ]
    rfl
   refine one_ (i := 11) (N := none) #[true, true, true, true, true, true, true, true, true, true, true, true] rfl rfl (one_of HT_.out (by kernel_rfl)) (by decide) (fun K hK => ?_)
   have hs17 : w15.cell? ⟨gb219, 0, none⟩ = some (.string (⟨#[]⟩ : ByteArray)) := (qh BK219.out 0).trans rfl
   have hfs17 := qf BK219.out 0
   have hns17_0 := NB213_219.out
   have hns17_1 := NB215_219.out
   have hms17_0 := NB219_213.out
   have hms17_1 := NB219_215.out
   have hs18 : w15.cell? ⟨gb219, 1, none⟩ = some (.string (⟨#[]⟩ : ByteArray)) := (qh BK219.out 1).trans rfl
   have hfs18 := qf BK219.out 1
   have hns18_0 := NB213_219.out
   have hns18_1 := NB215_219.out
   have hms18_0 := NB219_213.out
   have hms18_1 := NB219_215.out
   have hs19 : w15.cell? ⟨gb219, 2, none⟩ = some (.string (⟨#[]⟩ : ByteArray)) := (qh BK219.out 2).trans rfl
   have hfs19 := qf BK219.out 2
   have hns19_0 := NB213_219.out
   have hns19_1 := NB215_219.out
   have hms19_0 := NB219_213.out
   have hms19_1 := NB219_215.out
   have hs20 : w15.cell? ⟨gb219, 3, none⟩ = some (.slice none 0 0) := (qh BK219.out 3).trans rfl
   have hfs20 := qf BK219.out 3
   have hns20_0 := NB213_219.out
   have hns20_1 := NB215_219.out
   have hms20_0 := NB219_213.out
   have hms20_1 := NB219_215.out
   have hs21 : w15.cell? ⟨gb219, 4, none⟩ = some (.slice none 0 0) := (qh BK219.out 4).trans rfl
   have hfs21 := qf BK219.out 4
   have hns21_0 := NB213_219.out
   have hns21_1 := NB215_219.out
   have hms21_0 := NB219_213.out
   have hms21_1 := NB219_215.out
   refine skip_ (w1 := ?_) (by rfl) rfl ?_ ?_
   rotate_left
   ·go_simp
    rfl
   refine hK.out _ _ ⟨((qv (p := ⟨gb219, _, none⟩) NB215_219.out _).trans (((qv (p := ⟨gb219, _, none⟩) NB215_219.out _).trans (((qv (p := ⟨gb219, _, none⟩) NB215_219.out _).trans (((qv (p := ⟨gb219, _, none⟩) NB215_219.out _).trans (((qv (p := ⟨gb219, _, none⟩) NB215_219.out _).trans (hHeld.1)))))))))), ((qv (p := ⟨gb219, _, none⟩) NB215_219.out _).trans (((qv (p := ⟨gb219, _, none⟩) NB215_219.out _).trans (((qv (p := ⟨gb219, _, none⟩) NB215_219.out _).trans (((qv (p := ⟨gb219, _, none⟩) NB215_219.out _).trans (((qv (p := ⟨gb219, _, none⟩) NB215_219.out _).trans (hHeld.2.1)))))))))), ((qv (p := ⟨gb219, _, none⟩) NB215_219.out _).trans (((qv (p := ⟨gb219, _, none⟩) NB215_219.out _).trans (((qv (p := ⟨gb219, _, none⟩) NB215_219.out _).trans (((qv (p := ⟨gb219, _, none⟩) NB215_219.out _).trans (((qv (p := ⟨gb219, _, none⟩) NB215_219.out _).trans (hHeld.2.2.1)))))))))), ((qv (p := ⟨gb219, _, none⟩) NB215_219.out _).trans (((qv (p := ⟨gb219, _, none⟩) NB215_219.out _).trans (((qv (p := ⟨gb219, _, none⟩) NB215_219.out _).trans (((qv (p := ⟨gb219, _, none⟩) NB215_219.out _).trans (((qv (p := ⟨gb219, _, none⟩) NB215_219.out _).trans (hHeld.2.2.2.1)))))))))), ((qv (p := ⟨gb219, _, none⟩) NB215_219.out _).trans (((qv (p := ⟨gb219, _, none⟩) NB215_219.out _).trans (((qv (p := ⟨gb219, _, none⟩) NB215_219.out _).trans (((qv (p := ⟨gb219, _, none⟩) NB215_219.out _).trans (((qv (p := ⟨gb219, _, none⟩) NB215_219.out _).trans (hHeld.2.2.2.2.1)))))))))), ((qv (p := ⟨gb219, _, none⟩) NB215_219.out _).trans (((qv (p := ⟨gb219, _, none⟩) NB215_219.out _).trans (((qv (p := ⟨gb219, _, none⟩) NB215_219.out _).trans (((qv (p := ⟨gb219, _, none⟩) NB215_219.out _).trans (((qv (p := ⟨gb219, _, none⟩) NB215_219.out _).trans (hHeld.2.2.2.2.2))))))))))⟩ (fun hHeld => ?_)
   clear hK K
   refine done_ (done_of HT_.out (by kernel_rfl)) ?_
   try go_wp2
   go_loopg [8] k (fun kq v8 w' => ∃ (x8_1 : Int) (x220004_1 : List (S86)) (u220004 : Value), v8 = .int .i64 x8_1 ∧ qa (qtb.l0 kq l0 a1 x8_1 ((qi l0 a1).f2) ((qi l0 a1).f3) ((qi l0 a1).f4) t216 x220004_1 = some (r1, r2, r3, r4, r5, r6)) ∧ qa (kq ≤ k) ∧ qa (Kd.R k55 55 w' w.heap.size (fun _ => True) (.slice Ao16 t216.length co16) t216) ∧ qa (Kd.R k86 86 w' w.heap.size (fun k_ => some k_ ≠ ((.slice Ao16 t216.length co16) : Value).ownBlock ∧ k_ ≠ gb213 ∧ k_ ≠ gb219) u220004 x220004_1) ∧ qa (w'.heap[gb213]? = some (.cells #[.string (⟨#[]⟩ : ByteArray), .string (⟨#[]⟩ : ByteArray), .string (⟨#[]⟩ : ByteArray), (.slice none 0 0), (.slice none 0 0)] 86 (0, 0))) ∧ qa (w'.heap[gb215]? = some (.cells #[.int .i64 ((qi l0 a1).f0), .int .i64 ((qi l0 a1).f1), .string ((qi l0 a1).f2), .string ((qi l0 a1).f3), .string ((qi l0 a1).f4), (.slice A214_5 ((qi l0 a1).f5).length c214_5)] 53 (0, 0))) ∧ qa (w'.heap[gb219]? = some (.cells #[.string ((qi l0 a1).f2), .string ((qi l0 a1).f3), .string ((qi l0 a1).f4), (.slice Ao16 t216.length co16), u220004] 86 (0, 0))) ∧ qa (Below w.heap.size w w'))
   case atStart => exact ⟨(wrap64 (a1 + 1)), (([] : List (S86))), (.slice none 0 0), zz7, H', ⟨Nat.le_refl _⟩, ⟨by (with_reducible repeat (first | apply Kd.R_alloc | apply Kd.R_drewN | apply Kd.R_drew)); exact Kd.R_mono (Kd.R_far (p := ⟨gb219, 4, none⟩) (Kd.R_far (p := ⟨gb219, 3, none⟩) (Kd.R_far (p := ⟨gb219, 2, none⟩) (Kd.R_far (p := ⟨gb219, 1, none⟩) (Kd.R_far (p := ⟨gb219, 0, none⟩) (Kd.R_types HO218.out BK219.out (by decide)) (fun _ hk => hk.2) (.string ((qi l0 a1).f2))) (fun _ hk => hk.2) (.string ((qi l0 a1).f3))) (fun _ hk => hk.2) (.string ((qi l0 a1).f4))) (fun _ hk => hk.2) (.slice Ao16 t216.length co16)) (fun _ hk => hk.2) (.slice none 0 0)) (fun _ hk => trivial)⟩, ⟨zz95⟩, ⟨by (with_reducible repeat (first | refine qk ?_ _ | refine ql ?_ | refine qj ?_ _)); refine qqb ?_ NB213_219.out _; (with_reducible repeat (first | refine qk ?_ _ | refine ql ?_ | refine qj ?_ _)); refine qqb ?_ NB213_219.out _; (with_reducible repeat (first | refine qk ?_ _ | refine ql ?_ | refine qj ?_ _)); refine qqb ?_ NB213_219.out _; (with_reducible repeat (first | refine qk ?_ _ | refine ql ?_ | refine qj ?_ _)); refine qqb ?_ NB213_219.out _; (with_reducible repeat (first | refine qk ?_ _ | refine ql ?_ | refine qj ?_ _)); refine qqb ?_ NB213_219.out _; (with_reducible repeat (first | refine qk ?_ _ | refine ql ?_ | refine qj ?_ _)); exact BK213.out⟩, ⟨by (with_reducible repeat (first | refine qk ?_ _ | refine ql ?_ | refine qj ?_ _)); refine qqb ?_ NB215_219.out _; (with_reducible repeat (first | refine qk ?_ _ | refine ql ?_ | refine qj ?_ _)); refine qqb ?_ NB215_219.out _; (with_reducible repeat (first | refine qk ?_ _ | refine ql ?_ | refine qj ?_ _)); refine qqb ?_ NB215_219.out _; (with_reducible repeat (first | refine qk ?_ _ | refine ql ?_ | refine qj ?_ _)); refine qqb ?_ NB215_219.out _; (with_reducible repeat (first | refine qk ?_ _ | refine ql ?_ | refine qj ?_ _)); refine qqb ?_ NB215_219.out _; (with_reducible repeat (first | refine qk ?_ _ | refine ql ?_ | refine qj ?_ _)); exact BK215.out⟩, ⟨by (with_reducible repeat (first | refine qk ?_ _ | refine ql ?_ | refine qj ?_ _)); refine qr (cs := #[.string ((qi l0 a1).f2), .string ((qi l0 a1).f3), .string ((qi l0 a1).f4), .slice Ao16 t216.length co16, .slice none 0 0]) ?_ 4 _ rfl; (with_reducible repeat (first | refine qk ?_ _ | refine ql ?_ | refine qj ?_ _)); refine qr (cs := #[.string ((qi l0 a1).f2), .string ((qi l0 a1).f3), .string ((qi l0 a1).f4), .slice none 0 0, .slice none 0 0]) ?_ 3 _ rfl; (with_reducible repeat (first | refine qk ?_ _ | refine ql ?_ | refine qj ?_ _)); refine qr (cs := #[.string ((qi l0 a1).f2), .string ((qi l0 a1).f3), .string (⟨#[]⟩ : ByteArray), .slice none 0 0, .slice none 0 0]) ?_ 2 _ rfl; (with_reducible repeat (first | refine qk ?_ _ | refine ql ?_ | refine qj ?_ _)); refine qr (cs := #[.string ((qi l0 a1).f2), .string (⟨#[]⟩ : ByteArray), .string (⟨#[]⟩ : ByteArray), .slice none 0 0, .slice none 0 0]) ?_ 1 _ rfl; (with_reducible repeat (first | refine qk ?_ _ | refine ql ?_ | refine qj ?_ _)); refine qr (cs := #[.string (⟨#[]⟩ : ByteArray), .string (⟨#[]⟩ : ByteArray), .string (⟨#[]⟩ : ByteArray), .slice none 0 0, .slice none 0 0]) ?_ 0 _ rfl; (with_reducible repeat (first | refine qk ?_ _ | refine ql ?_ | refine qj ?_ _)); exact BK219.out⟩, ⟨zz131⟩⟩
   case round =>
    clear H'
    try clear c2
    try clear p2
    try clear q2
    try clear hx2
    try clear c3
    try clear c3b0
    try clear c4
    try clear c4b0
    try clear c6
    try clear p6
    try clear c7
    try clear c8
    try clear c21
    try clear p21
    try clear q21
    try clear hx21
    try clear hcz9_0
    try clear hcz9_1
    try clear hcz9_2
    try clear hcz9_3
    try clear hcz9_4
    try clear hcz9_5
    try clear hfz9_0
    try clear hfz9_1
    try clear hfz9_2
    try clear hfz9_3
    try clear hfz9_4
    try clear hfz9_5
    try clear hx214_0
    try clear hx214_1
    try clear hx214_2
    try clear hx214_3
    try clear hx214_4
    try clear hx214_5
    try clear p214
    try clear q214
    obtain ⟨x8_1, x220004_1, u220004, rfl, HA, HK1, HO_220003, HO_220004, BK213, BK215, BK219, HB⟩ := hrel
    cases gk with
    | zero => exact absurd HA.out (by simp [qtb.l0])
    | succ k1 =>
     have H := HA.out
     clear HA
     simp only [qtb.l0] at H
     by_cases c22 : x8_1 < (l0.length : Int)
     ·rw [if_pos c22] at H
      have c22b0 : decide (x8_1 < (l0.length : Int)) = true := decide_eq_true c22
      clear c22
      by_cases c23 : 0 ≤ x8_1
      ·rw [if_pos c23] at H
       have c23b0 : decide (0 ≤ x8_1) = true := decide_eq_true c23
       clear c23
       by_cases c24 : ((qi l0 x8_1).f1) = (wrap64 (a1 + 1))
       ·rw [if_pos c24] at H
        have c24b0 : (((qi l0 x8_1).f1) == (wrap64 (a1 + 1))) = true := beq_iff_eq.mpr c24
        have c24b1 : (((qi l0 x8_1).f1) != (wrap64 (a1 + 1))) = false := bne_eq_false_iff_eq.mpr c24
        clear c24
        replace H := Option.bind_eq_some_iff.mp H
        obtain ⟨⟨t222, t223, t224, t225, t228, t231⟩, A250, H⟩ := H
        replace H : (if x220004_1.length < 1466015503701 then (qtb.l0 k1 l0 a1 t231 ((qi l0 a1).f2) ((qi l0 a1).f3) ((qi l0 a1).f4) t216 (x220004_1 ++ [(⟨t222, t223, t224, t225, t228⟩ : S86)])) else (none)) = some (r1, r2, r3, r4, r5, r6) := H
        have A25 := qa.mk A250
        clear A250
        by_cases c26 : x220004_1.length < 1466015503701
        ·rw [if_pos c26] at H
         have LMc26 := qa.mk c26
         clear c26
         obtain ⟨y232, hy232⟩ : ∃ y_ : List (S86), y_ = (x220004_1 ++ [(⟨t222, t223, t224, t225, t228⟩ : S86)]) := ⟨_, rfl⟩
         replace H : (qtb.l0 k1 l0 a1 t231 ((qi l0 a1).f2) ((qi l0 a1).f3) ((qi l0 a1).f4) t216 y232) = some (r1, r2, r3, r4, r5, r6) := by first | (rw [hy232]; with_reducible exact H) | (have H2_ := (Option.bind_some _ _).symm.trans H; rw [hy232]; with_reducible exact H2_) | (have H2_ := (Option.bind_some _ _).symm.trans H; with_reducible exact H2_) | with_reducible exact H | (rw [hy232]; exact H) | exact H
         have Ny232 := qa.mk hy232
         clear hy232
         have H' := qa.mk H
         clear H
         have p220 : 0 ≤ (x8_1 : Int) := of_decide_eq_true zz12
         have q220 : x8_1 < (l0.length : Int) := of_decide_eq_true zz12
         obtain ⟨ad220, A220_5, c220_5, e220, hx220_0, hx220_1, hx220_2, hx220_3, hx220_4, hx220_5, hl220_5, hi220_5⟩ := at_T53 HR0.out x8_1 p220 q220
         obtain rfl : ad214 = ad220 := (by injection e220)
         replace hx220_0 := (HB.out.cell (qwc w _ hx220_0)).trans hx220_0
         replace hx220_1 := (HB.out.cell (qwc w _ hx220_1)).trans hx220_1
         replace hx220_2 := (HB.out.cell (qwc w _ hx220_2)).trans hx220_2
         replace hx220_3 := (HB.out.cell (qwc w _ hx220_3)).trans hx220_3
         replace hx220_4 := (HB.out.cell (qwc w _ hx220_4)).trans hx220_4
         replace hx220_5 := (HB.out.cell (qwc w _ hx220_5)).trans hx220_5
         have HR220_5 := qa.mk hi220_5
         have HC220_5 := qa.mk hl220_5
         clear hi220_5 hl220_5
         replace p220 := eq_true p220
         replace q220 := eq_true q220
         go_wp2_with (first | ((with_reducible refine qfb (N := 9) rfl ?_); refine qlb ?hg (N := 9) ?hd (cs := #[.string (⟨#[]⟩ : ByteArray), .string (⟨#[]⟩ : ByteArray), .string (⟨#[]⟩ : ByteArray), .slice none 0 0, .slice none 0 0]) (t := 86) ?hr ?_; (case hd => rfl); (case hg => rfl); (case hr => exact zz6); intro gb221 hg w27 hbox hb; have n0_ := qa.mk (Kd.R_below zz73 hb); have n1_ := qa.mk (Kd.R_below (Kd.R_elderB zz74 gb221 (Nat.le_of_eq hg.symm)) hb); have n2_ := qa.mk (qnb (g := gb213) (o := .cells #[.string (⟨#[]⟩ : ByteArray), .string (⟨#[]⟩ : ByteArray), .string (⟨#[]⟩ : ByteArray), .slice none 0 0, .slice none 0 0] 86 (0, 0)) zz43 hb); have n3_ := qa.mk (qnb (g := gb215) (o := .cells #[.int .i64 ((qi l0 a1).f0), .int .i64 ((qi l0 a1).f1), .string ((qi l0 a1).f2), .string ((qi l0 a1).f3), .string ((qi l0 a1).f4), .slice A214_5 ((qi l0 a1).f5).length c214_5] 53 (0, 0)) zz44 hb); have n4_ := qa.mk (qnb (g := gb219) (o := .cells #[.string ((qi l0 a1).f2), .string ((qi l0 a1).f3), .string ((qi l0 a1).f4), .slice Ao16 t216.length co16, u220004] 86 (0, 0)) zz45 hb); have n5_ := qa.mk (qp zz131 hb); have n6_ := qa.mk (hbox); have n7_ := qa.mk ((by rw [hg]; exact (qo zz131) : w.heap.size ≤ gb221)); have n8_ := qa.mk ((by rw [hg]; exact (qo zz131) : w.heap.size ≤ gb221)); have n9_ := qa.mk ((by rw [hg]; exact qyc (qbc (g := gb213) (o := .cells #[.string (⟨#[]⟩ : ByteArray), .string (⟨#[]⟩ : ByteArray), .string (⟨#[]⟩ : ByteArray), .slice none 0 0, .slice none 0 0] 86 (0, 0)) zz43) : gb213 ≠ gb221)); have n10_ := qa.mk ((by rw [hg]; exact Nat.ne_of_gt (qbc (g := gb213) (o := .cells #[.string (⟨#[]⟩ : ByteArray), .string (⟨#[]⟩ : ByteArray), .string (⟨#[]⟩ : ByteArray), .slice none 0 0, .slice none 0 0] 86 (0, 0)) zz43) : gb221 ≠ gb213)); have n11_ := qa.mk ((by rw [hg]; exact qyc (qbc (g := gb215) (o := .cells #[.int .i64 ((qi l0 a1).f0), .int .i64 ((qi l0 a1).f1), .string ((qi l0 a1).f2), .string ((qi l0 a1).f3), .string ((qi l0 a1).f4), .slice A214_5 ((qi l0 a1).f5).length c214_5] 53 (0, 0)) zz44) : gb215 ≠ gb221)); have n12_ := qa.mk ((by rw [hg]; exact Nat.ne_of_gt (qbc (g := gb215) (o := .cells #[.int .i64 ((qi l0 a1).f0), .int .i64 ((qi l0 a1).f1), .string ((qi l0 a1).f2), .string ((qi l0 a1).f3), .string ((qi l0 a1).f4), .slice A214_5 ((qi l0 a1).f5).length c214_5] 53 (0, 0)) zz44) : gb221 ≠ gb215)); have n13_ := qa.mk ((by rw [hg]; exact qyc (qbc (g := gb219) (o := .cells #[.string ((qi l0 a1).f2), .string ((qi l0 a1).f3), .string ((qi l0 a1).f4), .slice Ao16 t216.length co16, u220004] 86 (0, 0)) zz45) : gb219 ≠ gb221)); have n14_ := qa.mk ((by rw [hg]; exact Nat.ne_of_gt (qbc (g := gb219) (o := .cells #[.string ((qi l0 a1).f2), .string ((qi l0 a1).f3), .string ((qi l0 a1).f4), .slice Ao16 t216.length co16, u220004] 86 (0, 0)) zz45) : gb221 ≠ gb219)); clear HO_220003; clear HO_220004; clear BK213; clear BK215; clear BK219; clear HB; have HO_220003 := n0_; have HO_220004 := n1_; have BK213 := n2_; have BK215 := n3_; have BK219 := n4_; have HB := n5_; have BK221 := n6_; have GW221 := n7_; have GE221 := n8_; have NB213_221 := n9_; have NB221_213 := n10_; have NB215_221 := n11_; have NB221_215 := n12_; have NB219_221 := n13_; have NB221_219 := n14_; clear n0_ n1_ n2_ n3_ n4_ n5_ n6_ n7_ n8_ n9_ n10_ n11_ n12_ n13_ n14_; clear hb hbox hg) | ((with_reducible refine qy (f := 67) rfl ?_); refine qrb (some 43) rfl rfl Tryz.func67 (by kernel_rfl) rfl #[.slice (some ad214) l0.length c0, .int .i64 x8_1] rfl zz93 ?_; (with_reducible refine (ih k1 zz2 _ _ l0 x8_1 t222 t223 t224 t225 t228 t231 _ ?side1 ?side2 A25.out).mono ?_); (case side1 => exact zz122); (case side2 => exact HC0.out); rintro e w28 ⟨v226, v229, rfl, ho0, ho1, hb⟩; refine ⟨_, rfl, ?_⟩; have n0_ := qa.mk (Kd.R_elder' zz73 (Kd.R_base ho0) hb); have n1_ := qa.mk (Kd.R_mono (Kd.R_told (Kd.R_told (Kd.R_old zz74 hb) (Kd.R_base ho0)) (Kd.R_base ho1)) (fun _ h_ => h_.1)); have n2_ := qa.mk (Kd.R_lower (Kd.R_new' ho0 (Kd.R_lt zz73)) (qo zz138)); have n3_ := qa.mk (Kd.R_lower (Kd.R_newB (Kd.R_newB (Kd.R_newB (Kd.R_new' (Kd.R_new' ho1 (Kd.R_lt zz73)) (Kd.R_lt zz74)) (g := gb213) (o := .cells #[.string (⟨#[]⟩ : ByteArray), .string (⟨#[]⟩ : ByteArray), .string (⟨#[]⟩ : ByteArray), .slice none 0 0, .slice none 0 0] 86 (0, 0)) zz43) (g := gb219) (o := .cells #[.string ((qi l0 a1).f2), .string ((qi l0 a1).f3), .string ((qi l0 a1).f4), .slice Ao16 t216.length co16, u220004] 86 (0, 0)) zz45) (g := gb221) (o := .cells #[.string (⟨#[]⟩ : ByteArray), .string (⟨#[]⟩ : ByteArray), .string (⟨#[]⟩ : ByteArray), .slice none 0 0, .slice none 0 0] 86 (0, 0)) zz46) (qo zz138)); have n4_ := qa.mk (qnb (g := gb213) (o := .cells #[.string (⟨#[]⟩ : ByteArray), .string (⟨#[]⟩ : ByteArray), .string (⟨#[]⟩ : ByteArray), .slice none 0 0, .slice none 0 0] 86 (0, 0)) zz43 hb); have n5_ := qa.mk (qnb (g := gb215) (o := .cells #[.int .i64 ((qi l0 a1).f0), .int .i64 ((qi l0 a1).f1), .string ((qi l0 a1).f2), .string ((qi l0 a1).f3), .string ((qi l0 a1).f4), .slice A214_5 ((qi l0 a1).f5).length c214_5] 53 (0, 0)) zz44 hb); have n6_ := qa.mk (qnb (g := gb219) (o := .cells #[.string ((qi l0 a1).f2), .string ((qi l0 a1).f3), .string ((qi l0 a1).f4), .slice Ao16 t216.length co16, u220004] 86 (0, 0)) zz45 hb); have n7_ := qa.mk (qnb (g := gb221) (o := .cells #[.string (⟨#[]⟩ : ByteArray), .string (⟨#[]⟩ : ByteArray), .string (⟨#[]⟩ : ByteArray), .slice none 0 0, .slice none 0 0] 86 (0, 0)) zz46 hb); have n8_ := qa.mk (qp zz138 hb); clear HO_220003; clear HO_220004; clear BK213; clear BK215; clear BK219; clear BK221; clear HB; have HO_220003 := n0_; have HO_220004 := n1_; have HO227 := n2_; have HO230 := n3_; have BK213 := n4_; have BK215 := n5_; have BK219 := n6_; have BK221 := n7_; have HB := n8_; clear n0_ n1_ n2_ n3_ n4_ n5_ n6_ n7_ n8_; (try clear hb); (try clear hb2); (try clear hk); (try clear hi); (try clear ho0); (try clear ho1); have hnb29 := NB221_213.out; have hnc29 := NB213_221.out; have hnb30 := NB221_215.out; have hnc30 := NB215_221.out; have hnb31 := NB221_219.out; have hnc31 := NB219_221.out; have hcz32_0 : w28.cell? ⟨gb221, 0, none⟩ = some (.string (⟨#[]⟩ : ByteArray)) := (qh BK221.out 0).trans rfl; have hcz32_1 : w28.cell? ⟨gb221, 1, none⟩ = some (.string (⟨#[]⟩ : ByteArray)) := (qh BK221.out 1).trans rfl; have hcz32_2 : w28.cell? ⟨gb221, 2, none⟩ = some (.string (⟨#[]⟩ : ByteArray)) := (qh BK221.out 2).trans rfl; have hcz32_3 : w28.cell? ⟨gb221, 3, none⟩ = some (.slice none 0 0) := (qh BK221.out 3).trans rfl; have hcz32_4 : w28.cell? ⟨gb221, 4, none⟩ = some (.slice none 0 0) := (qh BK221.out 4).trans rfl; have hfz32_0 := qf BK221.out 0; have hfz32_1 := qf BK221.out 1; have hfz32_2 := qf BK221.out 2; have hfz32_3 := qf BK221.out 3; have hfz32_4 := qf BK221.out 4; obtain ⟨Ao33, co33, eo33⟩ := Kd.R_slice HO227.out; subst eo33; obtain ⟨Ao34, co34, eo34⟩ := Kd.R_slice HO230.out; subst eo34) | ((with_reducible refine gate_store (t := 86) (p := 9) rfl ?_); refine store_event (t := 86) (p := 9) (v := ?vo_w35) (w1 := (((((w28.setCell ⟨gb221, 0, none⟩ (.string t222)).setCell ⟨gb221, 1, none⟩ (.string t223)).setCell ⟨gb221, 2, none⟩ (.string t224)).setCell ⟨gb221, 3, none⟩ (.slice Ao33 t225.length co33)).setCell ⟨gb221, 4, none⟩ (.slice Ao34 t228.length co34))) ?hg ?ho ?hn ?hr ?_; (case ho => rfl); (case hg => rfl); (case hn => rfl); (case hr => exact zz6); intro w35 hw; have n0_ : qa (Kd.R k55 55 w35 w.heap.size (fun k_ => some k_ ≠ (.slice Ao33 t225.length co33 : Value).ownBlock) (.slice Ao16 t216.length co16) t216) := ⟨(by rw [hw]; exact (by (with_reducible repeat (first | apply Kd.R_alloc | apply Kd.R_drewN | apply Kd.R_drew)); exact Kd.R_mono (Kd.R_far (p := ⟨gb221, 4, none⟩) (Kd.R_far (p := ⟨gb221, 3, none⟩) (Kd.R_far (p := ⟨gb221, 2, none⟩) (Kd.R_far (p := ⟨gb221, 1, none⟩) (Kd.R_far (p := ⟨gb221, 0, none⟩) (Kd.R_types HO_220003.out BK221.out (by decide)) (fun _ hk => hk.2) (.string t222)) (fun _ hk => hk.2) (.string t223)) (fun _ hk => hk.2) (.string t224)) (fun _ hk => hk.2) (.slice Ao33 t225.length co33)) (fun _ hk => hk.2) (.slice Ao34 t228.length co34)) (fun _ hk => hk.1.2)))⟩; have n1_ : qa (Kd.R k86 86 w35 w.heap.size (fun k_ => some k_ ≠ (.slice Ao16 t216.length co16 : Value).ownBlock ∧ some k_ ≠ (.slice Ao33 t225.length co33 : Value).ownBlock ∧ some k_ ≠ (.slice Ao34 t228.length co34 : Value).ownBlock ∧ k_ ≠ gb213 ∧ k_ ≠ gb219 ∧ k_ ≠ gb221) u220004 x220004_1) := ⟨(by rw [hw]; exact (by (with_reducible repeat (first | apply Kd.R_alloc | apply Kd.R_drewN | apply Kd.R_drew)); exact Kd.R_mono (Kd.R_far (p := ⟨gb221, 4, none⟩) (Kd.R_far (p := ⟨gb221, 3, none⟩) (Kd.R_far (p := ⟨gb221, 2, none⟩) (Kd.R_far (p := ⟨gb221, 1, none⟩) (Kd.R_far (p := ⟨gb221, 0, none⟩) (Kd.R_mono HO_220004.out (fun k_ hk => (⟨hk, hk.1.1.2⟩ : _ ∧ k_ ≠ gb221))) (fun _ hk => hk.2) (.string t222)) (fun _ hk => hk.2) (.string t223)) (fun _ hk => hk.2) (.string t224)) (fun _ hk => hk.2) (.slice Ao33 t225.length co33)) (fun _ hk => hk.2) (.slice Ao34 t228.length co34)) (fun _ hk => ⟨hk.1.1.1.1.1, ⟨hk.1.1.2, ⟨hk.1.2, ⟨hk.1.1.1.1.2.1, ⟨hk.1.1.1.1.2.2, hk.1.1.1.2⟩⟩⟩⟩⟩)))⟩; have n2_ : qa (Kd.R k55 55 w35 w.heap.size (fun k_ => some k_ ≠ (.slice Ao16 t216.length co16 : Value).ownBlock) (.slice Ao33 t225.length co33) t225) := ⟨(by rw [hw]; exact (by (with_reducible repeat (first | apply Kd.R_alloc | apply Kd.R_drewN | apply Kd.R_drew)); exact Kd.R_mono (Kd.R_far (p := ⟨gb221, 4, none⟩) (Kd.R_far (p := ⟨gb221, 3, none⟩) (Kd.R_far (p := ⟨gb221, 2, none⟩) (Kd.R_far (p := ⟨gb221, 1, none⟩) (Kd.R_far (p := ⟨gb221, 0, none⟩) (Kd.R_types HO227.out BK221.out (by decide)) (fun _ hk => hk.2) (.string t222)) (fun _ hk => hk.2) (.string t223)) (fun _ hk => hk.2) (.string t224)) (fun _ hk => hk.2) (.slice Ao33 t225.length co33)) (fun _ hk => hk.2) (.slice Ao34 t228.length co34)) (fun _ hk => hk.1.2)))⟩; have n3_ : qa (Kd.R k86 86 w35 w.heap.size (fun k_ => some k_ ≠ (.slice Ao16 t216.length co16 : Value).ownBlock ∧ some k_ ≠ (u220004 : Value).ownBlock ∧ some k_ ≠ (.slice Ao33 t225.length co33 : Value).ownBlock ∧ k_ ≠ gb213 ∧ k_ ≠ gb219 ∧ k_ ≠ gb221) (.slice Ao34 t228.length co34) t228) := ⟨(by rw [hw]; exact (by (with_reducible repeat (first | apply Kd.R_alloc | apply Kd.R_drewN | apply Kd.R_drew)); exact Kd.R_mono (Kd.R_far (p := ⟨gb221, 4, none⟩) (Kd.R_far (p := ⟨gb221, 3, none⟩) (Kd.R_far (p := ⟨gb221, 2, none⟩) (Kd.R_far (p := ⟨gb221, 1, none⟩) (Kd.R_far (p := ⟨gb221, 0, none⟩) (Kd.R_mono HO230.out (fun k_ hk => (⟨hk, hk.2⟩ : _ ∧ k_ ≠ gb221))) (fun _ hk => hk.2) (.string t222)) (fun _ hk => hk.2) (.string t223)) (fun _ hk => hk.2) (.string t224)) (fun _ hk => hk.2) (.slice Ao33 t225.length co33)) (fun _ hk => hk.2) (.slice Ao34 t228.length co34)) (fun _ hk => ⟨hk.1.1.1.1.1.2, ⟨hk.1.1.1.1.2, ⟨hk.1.1.1.1.1.1, ⟨hk.1.1.1.2, ⟨hk.1.1.2, hk.1.2⟩⟩⟩⟩⟩)))⟩; have n4_ : qa (w35.heap[gb213]? = some (.cells #[.string (⟨#[]⟩ : ByteArray), .string (⟨#[]⟩ : ByteArray), .string (⟨#[]⟩ : ByteArray), .slice none 0 0, .slice none 0 0] 86 (0, 0))) := ⟨(by rw [hw]; exact (by (with_reducible repeat (first | refine qk ?_ _ | refine ql ?_ | refine qj ?_ _)); refine qqb ?_ NB213_221.out _; (with_reducible repeat (first | refine qk ?_ _ | refine ql ?_ | refine qj ?_ _)); refine qqb ?_ NB213_221.out _; (with_reducible repeat (first | refine qk ?_ _ | refine ql ?_ | refine qj ?_ _)); refine qqb ?_ NB213_221.out _; (with_reducible repeat (first | refine qk ?_ _ | refine ql ?_ | refine qj ?_ _)); refine qqb ?_ NB213_221.out _; (with_reducible repeat (first | refine qk ?_ _ | refine ql ?_ | refine qj ?_ _)); refine qqb ?_ NB213_221.out _; (with_reducible repeat (first | refine qk ?_ _ | refine ql ?_ | refine qj ?_ _)); exact BK213.out))⟩; have n5_ : qa (w35.heap[gb215]? = some (.cells #[.int .i64 ((qi l0 a1).f0), .int .i64 ((qi l0 a1).f1), .string ((qi l0 a1).f2), .string ((qi l0 a1).f3), .string ((qi l0 a1).f4), .slice A214_5 ((qi l0 a1).f5).length c214_5] 53 (0, 0))) := ⟨(by rw [hw]; exact (by (with_reducible repeat (first | refine qk ?_ _ | refine ql ?_ | refine qj ?_ _)); refine qqb ?_ NB215_221.out _; (with_reducible repeat (first | refine qk ?_ _ | refine ql ?_ | refine qj ?_ _)); refine qqb ?_ NB215_221.out _; (with_reducible repeat (first | refine qk ?_ _ | refine ql ?_ | refine qj ?_ _)); refine qqb ?_ NB215_221.out _; (with_reducible repeat (first | refine qk ?_ _ | refine ql ?_ | refine qj ?_ _)); refine qqb ?_ NB215_221.out _; (with_reducible repeat (first | refine qk ?_ _ | refine ql ?_ | refine qj ?_ _)); refine qqb ?_ NB215_221.out _; (with_reducible repeat (first | refine qk ?_ _ | refine ql ?_ | refine qj ?_ _)); exact BK215.out))⟩; have n6_ : qa (w35.heap[gb219]? = some (.cells #[.string ((qi l0 a1).f2), .string ((qi l0 a1).f3), .string ((qi l0 a1).f4), .slice Ao16 t216.length co16, u220004] 86 (0, 0))) := ⟨(by rw [hw]; exact (by (with_reducible repeat (first | refine qk ?_ _ | refine ql ?_ | refine qj ?_ _)); refine qqb ?_ NB219_221.out _; (with_reducible repeat (first | refine qk ?_ _ | refine ql ?_ | refine qj ?_ _)); refine qqb ?_ NB219_221.out _; (with_reducible repeat (first | refine qk ?_ _ | refine ql ?_ | refine qj ?_ _)); refine qqb ?_ NB219_221.out _; (with_reducible repeat (first | refine qk ?_ _ | refine ql ?_ | refine qj ?_ _)); refine qqb ?_ NB219_221.out _; (with_reducible repeat (first | refine qk ?_ _ | refine ql ?_ | refine qj ?_ _)); refine qqb ?_ NB219_221.out _; (with_reducible repeat (first | refine qk ?_ _ | refine ql ?_ | refine qj ?_ _)); exact BK219.out))⟩; have n7_ : qa (w35.heap[gb221]? = some (.cells #[.string t222, .string t223, .string t224, .slice Ao33 t225.length co33, .slice Ao34 t228.length co34] 86 (0, 0))) := ⟨(by rw [hw]; exact (by (with_reducible repeat (first | refine qk ?_ _ | refine ql ?_ | refine qj ?_ _)); refine qr (cs := #[.string t222, .string t223, .string t224, .slice Ao33 t225.length co33, .slice none 0 0]) ?_ 4 _ rfl; (with_reducible repeat (first | refine qk ?_ _ | refine ql ?_ | refine qj ?_ _)); refine qr (cs := #[.string t222, .string t223, .string t224, .slice none 0 0, .slice none 0 0]) ?_ 3 _ rfl; (with_reducible repeat (first | refine qk ?_ _ | refine ql ?_ | refine qj ?_ _)); refine qr (cs := #[.string t222, .string t223, .string (⟨#[]⟩ : ByteArray), .slice none 0 0, .slice none 0 0]) ?_ 2 _ rfl; (with_reducible repeat (first | refine qk ?_ _ | refine ql ?_ | refine qj ?_ _)); refine qr (cs := #[.string t222, .string (⟨#[]⟩ : ByteArray), .string (⟨#[]⟩ : ByteArray), .slice none 0 0, .slice none 0 0]) ?_ 1 _ rfl; (with_reducible repeat (first | refine qk ?_ _ | refine ql ?_ | refine qj ?_ _)); refine qr (cs := #[.string (⟨#[]⟩ : ByteArray), .string (⟨#[]⟩ : ByteArray), .string (⟨#[]⟩ : ByteArray), .slice none 0 0, .slice none 0 0]) ?_ 0 _ rfl; (with_reducible repeat (first | refine qk ?_ _ | refine ql ?_ | refine qj ?_ _)); exact BK221.out))⟩; have n8_ : qa (Below w.heap.size w w35) := ⟨(by rw [hw]; exact zz138)⟩; clear hw; clear HO_220003; clear HO_220004; clear HO227; clear HO230; clear BK213; clear BK215; clear BK219; clear BK221; clear HB; have HO_220003 := n0_; have HO_220004 := n1_; have HO227 := n2_; have HO230 := n3_; have BK213 := n4_; have BK215 := n5_; have BK219 := n6_; have BK221 := n7_; have HB := n8_; clear n0_ n1_ n2_ n3_ n4_ n5_ n6_ n7_ n8_; have hnb36 := NB219_213.out; have hnc36 := NB213_219.out; have hnb37 := NB219_215.out; have hnc37 := NB215_219.out; have hcz38_0 : w35.cell? ⟨gb219, 0, none⟩ = some (.string ((qi l0 a1).f2)) := (qh BK219.out 0).trans rfl; have hcz38_1 : w35.cell? ⟨gb219, 1, none⟩ = some (.string ((qi l0 a1).f3)) := (qh BK219.out 1).trans rfl; have hcz38_2 : w35.cell? ⟨gb219, 2, none⟩ = some (.string ((qi l0 a1).f4)) := (qh BK219.out 2).trans rfl; have hcz38_3 : w35.cell? ⟨gb219, 3, none⟩ = some (.slice Ao16 t216.length co16) := (qh BK219.out 3).trans rfl; have hcz38_4 : w35.cell? ⟨gb219, 4, none⟩ = some (u220004) := (qh BK219.out 4).trans rfl; have hfz38_0 := qf BK219.out 0; have hfz38_1 := qf BK219.out 1; have hfz38_2 := qf BK219.out 2; have hfz38_3 := qf BK219.out 3; have hfz38_4 := qf BK219.out 4; have hcz39_0 : w35.cell? ⟨gb221, 0, none⟩ = some (.string t222) := (qh BK221.out 0).trans rfl; have hcz39_1 : w35.cell? ⟨gb221, 1, none⟩ = some (.string t223) := (qh BK221.out 1).trans rfl; have hcz39_2 : w35.cell? ⟨gb221, 2, none⟩ = some (.string t224) := (qh BK221.out 2).trans rfl; have hcz39_3 : w35.cell? ⟨gb221, 3, none⟩ = some (.slice Ao33 t225.length co33) := (qh BK221.out 3).trans rfl; have hcz39_4 : w35.cell? ⟨gb221, 4, none⟩ = some (.slice Ao34 t228.length co34) := (qh BK221.out 4).trans rfl; have hfz39_0 := qf BK221.out 0; have hfz39_1 := qf BK221.out 1; have hfz39_2 := qf BK221.out 2; have hfz39_3 := qf BK221.out 3; have hfz39_4 := qf BK221.out 4) | ((with_reducible refine gate_builtin (b := .append) (xs := #[.tmp 47, .tmp 49]) rfl ?_); at_builtin; refine Kd.R_append k86 (w0 := w) w.heap.size rfl (.tmp 47) (.tmp 49) 84 86 (.agg #[(.string ⟨#[]⟩), (.string ⟨#[]⟩), (.string ⟨#[]⟩), (.slice none 0 0), (.slice none 0 0)]) 96 rfl Tryz.underlying84 info86 rfl (by decide) (by omega) u220004 x220004_1 (⟨t222, t223, t224, t225, t228⟩ : S86) [.string t222, .string t223, .string t224, .slice Ao33 t225.length co33, .slice Ao34 t228.length co34] (fun k_ => some k_ ≠ (.slice Ao16 t216.length co16 : Value).ownBlock ∧ k_ ≠ gb213 ∧ k_ ≠ gb219 ∧ k_ ≠ gb221) (fun k_ => ((fun k_ => some k_ ≠ (.slice Ao16 t216.length co16 : Value).ownBlock ∧ k_ ≠ gb213 ∧ k_ ≠ gb219 ∧ k_ ≠ gb221)) k_ ∧ some k_ ≠ (u220004 : Value).ownBlock) rfl rfl ?aP (fun _ hk => hk) ?aF ?aO ?aB ?aS ?aL ?_; (case aP => exact k86_mkM _ _ _ (⟨t222, t223, t224, t225, t228⟩ : S86) (Kd.R_mono (Kd.R_types (Kd.R_types (Kd.R_types (Kd.R_apart' (HO227.out) (Kd.R_typed HO_220004.out) (by decide)) BK213.out (by decide)) BK219.out (by decide)) BK221.out (by decide)) (fun k_ hk => ⟨⟨hk.1.1.1.1, ⟨hk.1.1.2, ⟨hk.1.2, hk.2⟩⟩⟩, hk.1.1.1.2⟩)) (Kd.R_mono (HO230.out) (fun k_ hk => ⟨⟨hk.1, ⟨hk.2.2.2.1, ⟨hk.2.2.2.2.1, hk.2.2.2.2.2⟩⟩⟩, hk.2.1⟩))); (case aB => exact zz138); (case aF => exact (fun k_ hk => ⟨Kd.fresh' (Kd.R_lt zz73) k_ hk, Kd.freshB (g := gb213) (o := .cells #[.string (⟨#[]⟩ : ByteArray), .string (⟨#[]⟩ : ByteArray), .string (⟨#[]⟩ : ByteArray), .slice none 0 0, .slice none 0 0] 86 (0, 0)) zz43 k_ hk, Kd.freshB (g := gb219) (o := .cells #[.string ((qi l0 a1).f2), .string ((qi l0 a1).f3), .string ((qi l0 a1).f4), .slice Ao16 t216.length co16, u220004] 86 (0, 0)) zz45 k_ hk, Kd.freshB (g := gb221) (o := .cells #[.string t222, .string t223, .string t224, .slice Ao33 t225.length co33, .slice Ao34 t228.length co34] 86 (0, 0)) zz46 k_ hk⟩)); (case aO => exact (by (with_reducible repeat (first | apply Kd.R_alloc | apply Kd.R_drewN | apply Kd.R_drew)); exact Kd.R_mono HO_220004.out (fun _ hk => ⟨hk.1, ⟨hk.2.2.2.1, ⟨hk.2.2.2.2.1, hk.2.2.2.2.2⟩⟩⟩))); (case aS => exact (qo zz138)); (case aL => have := LMc26.out; omega); intro v233 w40 ho hb hg hat; rw [← Ny232.out] at ho; have n0_ := qa.mk (Kd.R_over' zz73 (Kd.R_typed zz74) (by decide) hg); have n1_ := qa.mk (blk_grown (g := gb213) (o := .cells #[.string (⟨#[]⟩ : ByteArray), .string (⟨#[]⟩ : ByteArray), .string (⟨#[]⟩ : ByteArray), .slice none 0 0, .slice none 0 0] 86 (0, 0)) zz43 hg (Kd.R_away HO_220004.out (fun _ hk => hk.2.2.2.1))); have n2_ := qa.mk (blk_grown (g := gb215) (o := .cells #[.int .i64 ((qi l0 a1).f0), .int .i64 ((qi l0 a1).f1), .string ((qi l0 a1).f2), .string ((qi l0 a1).f3), .string ((qi l0 a1).f4), .slice A214_5 ((qi l0 a1).f5).length c214_5] 53 (0, 0)) zz44 hg (Kd.R_ne HO_220004.out BK215.out (by decide))); have n3_ := qa.mk (blk_grown (g := gb219) (o := .cells #[.string ((qi l0 a1).f2), .string ((qi l0 a1).f3), .string ((qi l0 a1).f4), .slice Ao16 t216.length co16, u220004] 86 (0, 0)) zz45 hg (Kd.R_away HO_220004.out (fun _ hk => hk.2.2.2.2.1))); have n4_ := qa.mk (blk_grown (g := gb221) (o := .cells #[.string t222, .string t223, .string t224, .slice Ao33 t225.length co33, .slice Ao34 t228.length co34] 86 (0, 0)) zz46 hg (Kd.R_away HO_220004.out (fun _ hk => hk.2.2.2.2.2))); have n5_ := qa.mk (hb); have n6_ := qa.mk (ho); clear HO_220003; clear BK213; clear BK215; clear BK219; clear BK221; clear HB; clear HO_220004; clear HO227; clear HO230; have HO_220003 := n0_; have BK213 := n1_; have BK215 := n2_; have BK219 := n3_; have BK221 := n4_; have HB := n5_; have HO234 := n6_; clear n0_ n1_ n2_ n3_ n4_ n5_ n6_; clear ho hb hg hat; obtain ⟨Ao41, co41, eo41⟩ := Kd.R_slice HO234.out; subst eo41; have hcz42_0 : w40.cell? ⟨gb219, 0, none⟩ = some (.string ((qi l0 a1).f2)) := (qh BK219.out 0).trans rfl; have hcz42_1 : w40.cell? ⟨gb219, 1, none⟩ = some (.string ((qi l0 a1).f3)) := (qh BK219.out 1).trans rfl; have hcz42_2 : w40.cell? ⟨gb219, 2, none⟩ = some (.string ((qi l0 a1).f4)) := (qh BK219.out 2).trans rfl; have hcz42_3 : w40.cell? ⟨gb219, 3, none⟩ = some (.slice Ao16 t216.length co16) := (qh BK219.out 3).trans rfl; have hcz42_4 : w40.cell? ⟨gb219, 4, none⟩ = some (u220004) := (qh BK219.out 4).trans rfl; have hfz42_0 := qf BK219.out 0; have hfz42_1 := qf BK219.out 1; have hfz42_2 := qf BK219.out 2; have hfz42_3 := qf BK219.out 3; have hfz42_4 := qf BK219.out 4))
         go_roundg k1
         case measure => have := HK1.out; omega
         case rel => exact ⟨(t231), (y232), (.slice Ao41 y232.length co41), zz7, H', ⟨zz2⟩, ⟨by (with_reducible repeat (first | apply Kd.R_alloc | apply Kd.R_drewN | apply Kd.R_drew)); exact Kd.R_mono (Kd.R_far (p := ⟨gb219, 4, none⟩) (Kd.R_types HO_220003.out BK219.out (by decide)) (fun _ hk => hk.2) (.slice Ao41 y232.length co41)) (fun _ hk => trivial)⟩, ⟨by (with_reducible repeat (first | apply Kd.R_alloc | apply Kd.R_drewN | apply Kd.R_drew)); exact Kd.R_mono (Kd.R_far (p := ⟨gb219, 4, none⟩) (Kd.R_mono HO234.out (fun k_ hk => (⟨hk, hk.2.2.1⟩ : _ ∧ k_ ≠ gb219))) (fun _ hk => hk.2) (.slice Ao41 y232.length co41)) (fun _ hk => ⟨hk.1.1, ⟨hk.1.2.1, hk.1.2.2.1⟩⟩)⟩, ⟨by (with_reducible repeat (first | refine qk ?_ _ | refine ql ?_ | refine qj ?_ _)); refine qqb ?_ NB213_219.out _; (with_reducible repeat (first | refine qk ?_ _ | refine ql ?_ | refine qj ?_ _)); exact BK213.out⟩, ⟨by (with_reducible repeat (first | refine qk ?_ _ | refine ql ?_ | refine qj ?_ _)); refine qqb ?_ NB215_219.out _; (with_reducible repeat (first | refine qk ?_ _ | refine ql ?_ | refine qj ?_ _)); exact BK215.out⟩, ⟨by (with_reducible repeat (first | refine qk ?_ _ | refine ql ?_ | refine qj ?_ _)); refine qr (cs := #[.string ((qi l0 a1).f2), .string ((qi l0 a1).f3), .string ((qi l0 a1).f4), .slice Ao16 t216.length co16, u220004]) ?_ 4 _ rfl; (with_reducible repeat (first | refine qk ?_ _ | refine ql ?_ | refine qj ?_ _)); exact BK219.out⟩, ⟨zz138⟩⟩
        ·rw [if_neg c26] at H
         exact absurd H (by simp)
       ·rw [if_neg c24] at H
        have c24b0 : (((qi l0 x8_1).f1) == (wrap64 (a1 + 1))) = false := beq_eq_false_iff_ne.mpr c24
        have c24b1 : (((qi l0 x8_1).f1) != (wrap64 (a1 + 1))) = true := bne_iff_ne.mpr c24
        simp only [Option.some.injEq, Prod.mk.injEq] at H
        obtain ⟨rfl, rfl, rfl, rfl, rfl, rfl⟩ := H
        have p220 : 0 ≤ (x8_1 : Int) := of_decide_eq_true zz12
        have q220 : x8_1 < (l0.length : Int) := of_decide_eq_true zz12
        obtain ⟨ad220, A220_5, c220_5, e220, hx220_0, hx220_1, hx220_2, hx220_3, hx220_4, hx220_5, hl220_5, hi220_5⟩ := at_T53 HR0.out x8_1 p220 q220
        obtain rfl : ad214 = ad220 := (by injection e220)
        replace hx220_0 := (HB.out.cell (qwc w _ hx220_0)).trans hx220_0
        replace hx220_1 := (HB.out.cell (qwc w _ hx220_1)).trans hx220_1
        replace hx220_2 := (HB.out.cell (qwc w _ hx220_2)).trans hx220_2
        replace hx220_3 := (HB.out.cell (qwc w _ hx220_3)).trans hx220_3
        replace hx220_4 := (HB.out.cell (qwc w _ hx220_4)).trans hx220_4
        replace hx220_5 := (HB.out.cell (qwc w _ hx220_5)).trans hx220_5
        have HR220_5 := qa.mk hi220_5
        have HC220_5 := qa.mk hl220_5
        clear hi220_5 hl220_5
        replace p220 := eq_true p220
        replace q220 := eq_true q220
        have hnb43 := NB219_213.out
        have hnc43 := NB213_219.out
        have hnb44 := NB219_215.out
        have hnc44 := NB215_219.out
        have hcz45_0 : wr.cell? ⟨gb219, 0, none⟩ = some (.string ((qi l0 a1).f2)) := (qh BK219.out 0).trans rfl
        have hcz45_1 : wr.cell? ⟨gb219, 1, none⟩ = some (.string ((qi l0 a1).f3)) := (qh BK219.out 1).trans rfl
        have hcz45_2 : wr.cell? ⟨gb219, 2, none⟩ = some (.string ((qi l0 a1).f4)) := (qh BK219.out 2).trans rfl
        have hcz45_3 : wr.cell? ⟨gb219, 3, none⟩ = some (.slice Ao16 t216.length co16) := (qh BK219.out 3).trans rfl
        have hcz45_4 : wr.cell? ⟨gb219, 4, none⟩ = some (u220004) := (qh BK219.out 4).trans rfl
        have hfz45_0 := qf BK219.out 0
        have hfz45_1 := qf BK219.out 1
        have hfz45_2 := qf BK219.out 2
        have hfz45_3 := qf BK219.out 3
        have hfz45_4 := qf BK219.out 4
        have hnb46 := NB213_215.out
        have hnc46 := NB215_213.out
        have hcz47_0 : wr.cell? ⟨gb213, 0, none⟩ = some (.string (⟨#[]⟩ : ByteArray)) := (qh BK213.out 0).trans rfl
        have hcz47_1 : wr.cell? ⟨gb213, 1, none⟩ = some (.string (⟨#[]⟩ : ByteArray)) := (qh BK213.out 1).trans rfl
        have hcz47_2 : wr.cell? ⟨gb213, 2, none⟩ = some (.string (⟨#[]⟩ : ByteArray)) := (qh BK213.out 2).trans rfl
        have hcz47_3 : wr.cell? ⟨gb213, 3, none⟩ = some (.slice none 0 0) := (qh BK213.out 3).trans rfl
        have hcz47_4 : wr.cell? ⟨gb213, 4, none⟩ = some (.slice none 0 0) := (qh BK213.out 4).trans rfl
        have hfz47_0 := qf BK213.out 0
        have hfz47_1 := qf BK213.out 1
        have hfz47_2 := qf BK213.out 2
        have hfz47_3 := qf BK213.out 3
        have hfz47_4 := qf BK213.out 4
        obtain ⟨Ao48, co48, eo48⟩ := Kd.R_slice HO_220004.out
        subst eo48
        go_wp2
        refine bodyPost_ret (results_ct rfl _ _ gb213 86 #[.string ((qi l0 a1).f2), .string ((qi l0 a1).f3), .string ((qi l0 a1).f4), .slice Ao16 t216.length co16, .slice Ao48 x220004_1.length co48] (0, 0) _ rfl zz186 Tryz.underlying86 rfl (by kernel_rfl)) rfl ?_
        exact ⟨_, _, zz102, by (with_reducible repeat (first | apply Kd.R_alloc | apply Kd.R_drewN | apply Kd.R_drew)); exact Kd.R_mono (Kd.R_far (p := ⟨gb213, 4, none⟩) (Kd.R_far (p := ⟨gb213, 3, none⟩) (Kd.R_far (p := ⟨gb213, 2, none⟩) (Kd.R_far (p := ⟨gb213, 1, none⟩) (Kd.R_far (p := ⟨gb213, 0, none⟩) (Kd.R_types HO_220003.out BK213.out (by decide)) (fun _ hk => hk.2) (.string ((qi l0 a1).f2))) (fun _ hk => hk.2) (.string ((qi l0 a1).f3))) (fun _ hk => hk.2) (.string ((qi l0 a1).f4))) (fun _ hk => hk.2) (.slice Ao16 t216.length co16)) (fun _ hk => hk.2) (.slice Ao48 x220004_1.length co48)) (fun _ hk => trivial), by (with_reducible repeat (first | apply Kd.R_alloc | apply Kd.R_drewN | apply Kd.R_drew)); exact Kd.R_mono (Kd.R_far (p := ⟨gb213, 4, none⟩) (Kd.R_far (p := ⟨gb213, 3, none⟩) (Kd.R_far (p := ⟨gb213, 2, none⟩) (Kd.R_far (p := ⟨gb213, 1, none⟩) (Kd.R_far (p := ⟨gb213, 0, none⟩) (Kd.R_mono HO_220004.out (fun k_ hk => (⟨hk, hk.2.1⟩ : _ ∧ k_ ≠ gb213))) (fun _ hk => hk.2) (.string ((qi l0 a1).f2))) (fun _ hk => hk.2) (.string ((qi l0 a1).f3))) (fun _ hk => hk.2) (.string ((qi l0 a1).f4))) (fun _ hk => hk.2) (.slice Ao16 t216.length co16)) (fun _ hk => hk.2) (.slice Ao48 x220004_1.length co48)) (fun _ hk => hk.1.1), zz131⟩
      ·rw [if_neg c23] at H
       exact absurd H (by simp)
     ·rw [if_neg c22] at H
      have c22b0 : decide (x8_1 < (l0.length : Int)) = false := decide_eq_false c22
      clear c22
      simp only [Option.some.injEq, Prod.mk.injEq] at H
      obtain ⟨rfl, rfl, rfl, rfl, rfl, rfl⟩ := H
      have hnb49 := NB219_213.out
      have hnc49 := NB213_219.out
      have hnb50 := NB219_215.out
      have hnc50 := NB215_219.out
      have hcz51_0 : wr.cell? ⟨gb219, 0, none⟩ = some (.string ((qi l0 a1).f2)) := (qh BK219.out 0).trans rfl
      have hcz51_1 : wr.cell? ⟨gb219, 1, none⟩ = some (.string ((qi l0 a1).f3)) := (qh BK219.out 1).trans rfl
      have hcz51_2 : wr.cell? ⟨gb219, 2, none⟩ = some (.string ((qi l0 a1).f4)) := (qh BK219.out 2).trans rfl
      have hcz51_3 : wr.cell? ⟨gb219, 3, none⟩ = some (.slice Ao16 t216.length co16) := (qh BK219.out 3).trans rfl
      have hcz51_4 : wr.cell? ⟨gb219, 4, none⟩ = some (u220004) := (qh BK219.out 4).trans rfl
      have hfz51_0 := qf BK219.out 0
      have hfz51_1 := qf BK219.out 1
      have hfz51_2 := qf BK219.out 2
      have hfz51_3 := qf BK219.out 3
      have hfz51_4 := qf BK219.out 4
      have hnb52 := NB213_215.out
      have hnc52 := NB215_213.out
      have hcz53_0 : wr.cell? ⟨gb213, 0, none⟩ = some (.string (⟨#[]⟩ : ByteArray)) := (qh BK213.out 0).trans rfl
      have hcz53_1 : wr.cell? ⟨gb213, 1, none⟩ = some (.string (⟨#[]⟩ : ByteArray)) := (qh BK213.out 1).trans rfl
      have hcz53_2 : wr.cell? ⟨gb213, 2, none⟩ = some (.string (⟨#[]⟩ : ByteArray)) := (qh BK213.out 2).trans rfl
      have hcz53_3 : wr.cell? ⟨gb213, 3, none⟩ = some (.slice none 0 0) := (qh BK213.out 3).trans rfl
      have hcz53_4 : wr.cell? ⟨gb213, 4, none⟩ = some (.slice none 0 0) := (qh BK213.out 4).trans rfl
      have hfz53_0 := qf BK213.out 0
      have hfz53_1 := qf BK213.out 1
      have hfz53_2 := qf BK213.out 2
      have hfz53_3 := qf BK213.out 3
      have hfz53_4 := qf BK213.out 4
      obtain ⟨Ao54, co54, eo54⟩ := Kd.R_slice HO_220004.out
      subst eo54
      go_wp2
      refine bodyPost_ret (results_ct rfl _ _ gb213 86 #[.string ((qi l0 a1).f2), .string ((qi l0 a1).f3), .string ((qi l0 a1).f4), .slice Ao16 t216.length co16, .slice Ao54 x220004_1.length co54] (0, 0) _ rfl zz186 Tryz.underlying86 rfl (by kernel_rfl)) rfl ?_
      exact ⟨_, _, zz102, by (with_reducible repeat (first | apply Kd.R_alloc | apply Kd.R_drewN | apply Kd.R_drew)); exact Kd.R_mono (Kd.R_far (p := ⟨gb213, 4, none⟩) (Kd.R_far (p := ⟨gb213, 3, none⟩) (Kd.R_far (p := ⟨gb213, 2, none⟩) (Kd.R_far (p := ⟨gb213, 1, none⟩) (Kd.R_far (p := ⟨gb213, 0, none⟩) (Kd.R_types HO_220003.out BK213.out (by decide)) (fun _ hk => hk.2) (.string ((qi l0 a1).f2))) (fun _ hk => hk.2) (.string ((qi l0 a1).f3))) (fun _ hk => hk.2) (.string ((qi l0 a1).f4))) (fun _ hk => hk.2) (.slice Ao16 t216.length co16)) (fun _ hk => hk.2) (.slice Ao54 x220004_1.length co54)) (fun _ hk => trivial), by (with_reducible repeat (first | apply Kd.R_alloc | apply Kd.R_drewN | apply Kd.R_drew)); exact Kd.R_mono (Kd.R_far (p := ⟨gb213, 4, none⟩) (Kd.R_far (p := ⟨gb213, 3, none⟩) (Kd.R_far (p := ⟨gb213, 2, none⟩) (Kd.R_far (p := ⟨gb213, 1, none⟩) (Kd.R_far (p := ⟨gb213, 0, none⟩) (Kd.R_mono HO_220004.out (fun k_ hk => (⟨hk, hk.2.1⟩ : _ ∧ k_ ≠ gb213))) (fun _ hk => hk.2) (.string ((qi l0 a1).f2))) (fun _ hk => hk.2) (.string ((qi l0 a1).f3))) (fun _ hk => hk.2) (.string ((qi l0 a1).f4))) (fun _ hk => hk.2) (.slice Ao16 t216.length co16)) (fun _ hk => hk.2) (.slice Ao54 x220004_1.length co54)) (fun _ hk => hk.1.1), zz131⟩
  ·rw [if_neg c4] at H
   exact absurd H (by simp)
 ·rw [if_neg c3] at H
  exact absurd H (by simp)
mutual
def qeb.l0 : Nat → List (S55) → List (S55) → Int → Int → Option (Int × Int)
 | 0, _, _, _, _ => none
 | k + 1, x0, x7, x8, x9 => if x9 < x8 then (if 0 ≤ x9 then (if x9 < (x7.length : Int) then (if x9 = 64 then (some (x9, 12)) else ((qdc.f k ((qkb x7 x9).f0)).bind fun t237 => (if t237 = true then ((qxb.f ((qkb x7 x9).f1)).bind fun t238 => (if t238 = true then (if x9 > 0 then (if 0 ≤ (wrap64 (x9 - 1)) then (if (wrap64 (x9 - 1)) < (x0.length : Int) then (qeb.j1 k x0 x9 0 x7 x8 x9 (((qkb x0 (wrap64 (x9 - 1))).f0).toList == ((qkb x7 x9).f0).toList) ((qkb x7 x9).f0) ((qkb x7 x9).f1)) else (none)) else (none)) else (qeb.j1 k x0 x9 0 x7 x8 x9 false ((qkb x7 x9).f0) ((qkb x7 x9).f1))) else (some (x9, 3)))) else (some (x9, 8))))) else (none)) else (none)) else (some (0, 0))
def qeb.j1 : Nat → List (S55) → Int → Int → List (S55) → Int → Int → Bool → ByteArray → ByteArray → Option (Int × Int)
 | 0, _, _, _, _, _, _, _, _, _ => none
 | k + 1, x0, x4, x6, x7, x8, x9, x27, x237000, x237001 => if x27 = true then (some (x4, 10)) else (if x4 > 0 then (if 0 ≤ (wrap64 (x4 - 1)) then (if (wrap64 (x4 - 1)) < (x0.length : Int) then (qeb.j2 k x0 x4 x6 x7 x8 x9 (!(Op.bytesLess (((qkb x0 (wrap64 (x4 - 1))).f0).toList) x237000.toList || (((qkb x0 (wrap64 (x4 - 1))).f0).toList) == x237000.toList))) else (none)) else (none)) else (qeb.j2 k x0 x4 x6 x7 x8 x9 false))
def qeb.j2 : Nat → List (S55) → Int → Int → List (S55) → Int → Int → Bool → Option (Int × Int)
 | 0, _, _, _, _, _, _, _ => none
 | k + 1, x0, x4, x6, x7, x8, x9, x41 => if x41 = true then (some (x4, 9)) else (if x6 = 0 then (qeb.l0 k x0 x7 x8 (wrap64 (x9 + 1))) else (some (x4, x6)))
end
def qeb.f (k : Nat) (l0 : List (S55)) : Option (Int × Int) := qeb.l0 k l0 l0 (l0.length : Int) 0
theorem qeb.mono_l : ∀ k, (∀ y0 y1 y2 y3, LeO (qeb.l0 k y0 y1 y2 y3) (qeb.l0 (k + 1) y0 y1 y2 y3)) ∧ (∀ y0 y1 y2 y3 y4 y5 y6 y7 y8, LeO (qeb.j1 k y0 y1 y2 y3 y4 y5 y6 y7 y8) (qeb.j1 (k + 1) y0 y1 y2 y3 y4 y5 y6 y7 y8)) ∧ (∀ y0 y1 y2 y3 y4 y5 y6, LeO (qeb.j2 k y0 y1 y2 y3 y4 y5 y6) (qeb.j2 (k + 1) y0 y1 y2 y3 y4 y5 y6))
 | 0 => ⟨fun _ _ _ _ r h => by simp [qeb.l0] at h, fun _ _ _ _ _ _ _ _ _ r h => by simp [qeb.j1] at h, fun _ _ _ _ _ _ _ r h => by simp [qeb.j2] at h⟩
 | k + 1 => by
  obtain ⟨ih0, ih1, ih2⟩ := qeb.mono_l k
  refine ⟨?_, ?_, ?_⟩
  ·intro y0 y1 y2 y3
   unfold qeb.l0
   repeat' first
   | (with_reducible exact ih0 _ _ _ _)
   | (with_reducible exact ih1 _ _ _ _ _ _ _ _ _)
   | (with_reducible exact ih2 _ _ _ _ _ _ _)
   | (with_reducible exact qdc.mono _ _)
   | (with_reducible exact LeO.refl _)
   | (with_reducible exact LeO.none _)
   | (with_reducible refine LeO.ite ?_ ?_)
   | (with_reducible refine LeO.bind ?_ (fun _ => ?_))
   | exact ih0 _ _ _ _
   | exact ih1 _ _ _ _ _ _ _ _ _
   | exact ih2 _ _ _ _ _ _ _
   | exact qdc.mono _ _
   | exact LeO.none _
   | refine LeO.ite ?_ ?_
   | refine LeO.bind ?_ (fun _ => ?_)
  ·intro y0 y1 y2 y3 y4 y5 y6 y7 y8
   unfold qeb.j1
   repeat' first
   | (with_reducible exact ih0 _ _ _ _)
   | (with_reducible exact ih1 _ _ _ _ _ _ _ _ _)
   | (with_reducible exact ih2 _ _ _ _ _ _ _)
   | (with_reducible exact qdc.mono _ _)
   | (with_reducible exact LeO.refl _)
   | (with_reducible exact LeO.none _)
   | (with_reducible refine LeO.ite ?_ ?_)
   | (with_reducible refine LeO.bind ?_ (fun _ => ?_))
   | exact ih0 _ _ _ _
   | exact ih1 _ _ _ _ _ _ _ _ _
   | exact ih2 _ _ _ _ _ _ _
   | exact qdc.mono _ _
   | exact LeO.none _
   | refine LeO.ite ?_ ?_
   | refine LeO.bind ?_ (fun _ => ?_)
  ·intro y0 y1 y2 y3 y4 y5 y6
   unfold qeb.j2
   repeat' first
   | (with_reducible exact ih0 _ _ _ _)
   | (with_reducible exact ih1 _ _ _ _ _ _ _ _ _)
   | (with_reducible exact ih2 _ _ _ _ _ _ _)
   | (with_reducible exact qdc.mono _ _)
   | (with_reducible exact LeO.refl _)
   | (with_reducible exact LeO.none _)
   | (with_reducible refine LeO.ite ?_ ?_)
   | (with_reducible refine LeO.bind ?_ (fun _ => ?_))
   | exact ih0 _ _ _ _
   | exact ih1 _ _ _ _ _ _ _ _ _
   | exact ih2 _ _ _ _ _ _ _
   | exact qdc.mono _ _
   | exact LeO.none _
   | refine LeO.ite ?_ ?_
   | refine LeO.bind ?_ (fun _ => ?_)
theorem qeb.mono : ∀ a0 k, LeO (qeb.f k a0) (qeb.f (k + 1) a0) := by
 intro a0 k
 obtain ⟨ih0, ih1, ih2⟩ := qeb.mono_l k
 unfold qeb.f
 repeat' first
   | (with_reducible exact ih0 _ _ _ _)
   | (with_reducible exact ih1 _ _ _ _ _ _ _ _ _)
   | (with_reducible exact ih2 _ _ _ _ _ _ _)
   | (with_reducible exact qdc.mono _ _)
   | (with_reducible exact LeO.refl _)
   | (with_reducible exact LeO.none _)
   | (with_reducible refine LeO.ite ?_ ?_)
   | (with_reducible refine LeO.bind ?_ (fun _ => ?_))
   | exact ih0 _ _ _ _
   | exact ih1 _ _ _ _ _ _ _ _ _
   | exact ih2 _ _ _ _ _ _ _
   | exact qdc.mono _ _
   | exact LeO.none _
   | refine LeO.ite ?_ ?_
   | refine LeO.bind ?_ (fun _ => ?_)
set_option maxHeartbeats 8000000 in
set_option maxRecDepth 100000 in
theorem qeb.calls (k : Nat) (A0 : Option Addr) (c0 : Nat) (l0 : List (S55)) (r1 : Int) (r2 : Int) (w : World) (hr0 : Kd.C k55 w A0 l0.length l0) (hc0 : l0.length ≤ c0) (h : qeb.f k l0 = some (r1, r2)) :
  Calls Tryz.prog 96 #[.slice A0 l0.length c0] w fun e w' => e = .returned (.tuple #[.int .i64 r1, .int .i64 r2]) ∧ Below w.heap.size w w' := by
 have hu55 := Tryz.underlying55
 have HR0 := qa.mk hr0
 have HC0 := qa.mk hc0
 clear hr0 hc0
 have HB := qa.mk (Below.refl w.heap.size w)
 have H : (qeb.l0 k l0 l0 (l0.length : Int) 0) = some (r1, r2) := h
 clear h
 have H' := qa.mk H
 clear H
 go_enter Tryz.func96, Tryz.ntmps96
 go_wp2
 repeat (go_quiet (fail); try go_wp2)
 go_loopg [9] k (fun kq v9 w' => ∃ (x9_1 : Int), v9 = .int .i64 x9_1 ∧ qa (qeb.l0 kq l0 l0 (l0.length : Int) x9_1 = some (r1, r2)) ∧ qa (kq ≤ k) ∧ qa (Below w.heap.size w w'))
 case atStart => exact ⟨(0), zz7, H', ⟨Nat.le_refl _⟩, ⟨zz52⟩⟩
 case round =>
  clear H'
  obtain ⟨x9_1, rfl, HA, HK1, HB⟩ := hrel
  cases gk with
  | zero => exact absurd HA.out (by simp [qeb.l0])
  | succ k1 =>
   have H := HA.out
   clear HA
   simp only [qeb.l0] at H
   by_cases c2 : x9_1 < (l0.length : Int)
   ·rw [if_pos c2] at H
    have c2b0 : decide (x9_1 < (l0.length : Int)) = true := decide_eq_true c2
    clear c2
    by_cases c3 : 0 ≤ x9_1
    ·rw [if_pos c3] at H
     have c3b0 : decide (0 ≤ x9_1) = true := decide_eq_true c3
     clear c3
     by_cases c4 : x9_1 < (l0.length : Int)
     ·rw [if_pos c4] at H
      have c4b0 : decide (x9_1 < (l0.length : Int)) = true := decide_eq_true c4
      clear c4
      by_cases c5 : x9_1 = 64
      ·rw [if_pos c5] at H
       have c5b0 : (x9_1 == 64) = true := beq_iff_eq.mpr c5
       have c5b1 : (x9_1 != 64) = false := bne_eq_false_iff_eq.mpr c5
       clear c5
       simp only [Option.some.injEq, Prod.mk.injEq] at H
       obtain ⟨rfl, rfl⟩ := H
       have p235 : 0 ≤ (x9_1 : Int) := of_decide_eq_true zz12
       have q235 : x9_1 < (l0.length : Int) := of_decide_eq_true zz12
       obtain ⟨ad235, e235, hx235_0, hx235_1⟩ := at_T55 HR0.out x9_1 p235 q235
       cases e235
       replace hx235_0 := (HB.out.cell (qwc w _ hx235_0)).trans hx235_0
       replace hx235_1 := (HB.out.cell (qwc w _ hx235_1)).trans hx235_1
       replace p235 := eq_true p235
       replace q235 := eq_true q235
       go_wp2_with (first | ((with_reducible refine qfb (N := 5) rfl ?_); refine qlb ?hg (N := 5) ?hd (cs := #[.string (⟨#[]⟩ : ByteArray), .string (⟨#[]⟩ : ByteArray)]) (t := 55) ?hr ?_; (case hd => rfl); (case hg => rfl); (case hr => exact zz6); intro gb236 hg w6 hbox hb; have n0_ := qa.mk (qp zz52 hb); have n1_ := qa.mk (hbox); have n2_ := qa.mk ((by rw [hg]; exact (qo zz52) : w.heap.size ≤ gb236)); have n3_ := qa.mk ((by rw [hg]; exact (qo zz52) : w.heap.size ≤ gb236)); clear HB; have HB := n0_; have BK236 := n1_; have GW236 := n2_; have GE236 := n3_; clear n0_ n1_ n2_ n3_; clear hb hbox hg; have hcz7_0 : w6.cell? ⟨gb236, 0, none⟩ = some (.string (⟨#[]⟩ : ByteArray)) := (qh BK236.out 0).trans rfl; have hcz7_1 : w6.cell? ⟨gb236, 1, none⟩ = some (.string (⟨#[]⟩ : ByteArray)) := (qh BK236.out 1).trans rfl; have hfz7_0 := qf BK236.out 0; have hfz7_1 := qf BK236.out 1))
       repeat (go_quiet (first | ((with_reducible refine qfb (N := 5) rfl ?_); refine qlb ?hg (N := 5) ?hd (cs := #[.string (⟨#[]⟩ : ByteArray), .string (⟨#[]⟩ : ByteArray)]) (t := 55) ?hr ?_; (case hd => rfl); (case hg => rfl); (case hr => exact zz6); intro gb236 hg w6 hbox hb; have n0_ := qa.mk (qp zz52 hb); have n1_ := qa.mk (hbox); have n2_ := qa.mk ((by rw [hg]; exact (qo zz52) : w.heap.size ≤ gb236)); have n3_ := qa.mk ((by rw [hg]; exact (qo zz52) : w.heap.size ≤ gb236)); clear HB; have HB := n0_; have BK236 := n1_; have GW236 := n2_; have GE236 := n3_; clear n0_ n1_ n2_ n3_; clear hb hbox hg; have hcz7_0 : w6.cell? ⟨gb236, 0, none⟩ = some (.string (⟨#[]⟩ : ByteArray)) := (qh BK236.out 0).trans rfl; have hcz7_1 : w6.cell? ⟨gb236, 1, none⟩ = some (.string (⟨#[]⟩ : ByteArray)) := (qh BK236.out 1).trans rfl; have hfz7_0 := qf BK236.out 0; have hfz7_1 := qf BK236.out 1)); try go_wp2_with (first | ((with_reducible refine qfb (N := 5) rfl ?_); refine qlb ?hg (N := 5) ?hd (cs := #[.string (⟨#[]⟩ : ByteArray), .string (⟨#[]⟩ : ByteArray)]) (t := 55) ?hr ?_; (case hd => rfl); (case hg => rfl); (case hr => exact zz6); intro gb236 hg w6 hbox hb; have n0_ := qa.mk (qp zz52 hb); have n1_ := qa.mk (hbox); have n2_ := qa.mk ((by rw [hg]; exact (qo zz52) : w.heap.size ≤ gb236)); have n3_ := qa.mk ((by rw [hg]; exact (qo zz52) : w.heap.size ≤ gb236)); clear HB; have HB := n0_; have BK236 := n1_; have GW236 := n2_; have GE236 := n3_; clear n0_ n1_ n2_ n3_; clear hb hbox hg; have hcz7_0 : w6.cell? ⟨gb236, 0, none⟩ = some (.string (⟨#[]⟩ : ByteArray)) := (qh BK236.out 0).trans rfl; have hcz7_1 : w6.cell? ⟨gb236, 1, none⟩ = some (.string (⟨#[]⟩ : ByteArray)) := (qh BK236.out 1).trans rfl; have hfz7_0 := qf BK236.out 0; have hfz7_1 := qf BK236.out 1)))
       go_ret2
       exact ⟨zz102, zz79⟩
      ·rw [if_neg c5] at H
       have c5b0 : (x9_1 == 64) = false := beq_eq_false_iff_ne.mpr c5
       have c5b1 : (x9_1 != 64) = true := bne_iff_ne.mpr c5
       replace H := Option.bind_eq_some_iff.mp H
       obtain ⟨t237, A80, H⟩ := H
       replace H : (if t237 = true then ((qxb.f ((qkb l0 x9_1).f1)).bind fun t238 => (if t238 = true then (if x9_1 > 0 then (if 0 ≤ (wrap64 (x9_1 - 1)) then (if (wrap64 (x9_1 - 1)) < (l0.length : Int) then (qeb.j1 k1 l0 x9_1 0 l0 (l0.length : Int) x9_1 (((qkb l0 (wrap64 (x9_1 - 1))).f0).toList == ((qkb l0 x9_1).f0).toList) ((qkb l0 x9_1).f0) ((qkb l0 x9_1).f1)) else (none)) else (none)) else (qeb.j1 k1 l0 x9_1 0 l0 (l0.length : Int) x9_1 false ((qkb l0 x9_1).f0) ((qkb l0 x9_1).f1))) else (some (x9_1, 3)))) else (some (x9_1, 8))) = some (r1, r2) := H
       have A8 := qa.mk A80
       clear A80
       by_cases c9 : t237 = true
       ·subst c9
        have H1 : ((qxb.f ((qkb l0 x9_1).f1)).bind fun t238 => (if t238 = true then (if x9_1 > 0 then (if 0 ≤ (wrap64 (x9_1 - 1)) then (if (wrap64 (x9_1 - 1)) < (l0.length : Int) then (qeb.j1 k1 l0 x9_1 0 l0 (l0.length : Int) x9_1 (((qkb l0 (wrap64 (x9_1 - 1))).f0).toList == ((qkb l0 x9_1).f0).toList) ((qkb l0 x9_1).f0) ((qkb l0 x9_1).f1)) else (none)) else (none)) else (qeb.j1 k1 l0 x9_1 0 l0 (l0.length : Int) x9_1 false ((qkb l0 x9_1).f0) ((qkb l0 x9_1).f1))) else (some (x9_1, 3)))) = some (r1, r2) := by rw [if_pos rfl] at H; exact H
        clear H
        have H := H1
        clear H1
        replace H := Option.bind_eq_some_iff.mp H
        obtain ⟨t238, A100, H⟩ := H
        replace H : (if t238 = true then (if x9_1 > 0 then (if 0 ≤ (wrap64 (x9_1 - 1)) then (if (wrap64 (x9_1 - 1)) < (l0.length : Int) then (qeb.j1 k1 l0 x9_1 0 l0 (l0.length : Int) x9_1 (((qkb l0 (wrap64 (x9_1 - 1))).f0).toList == ((qkb l0 x9_1).f0).toList) ((qkb l0 x9_1).f0) ((qkb l0 x9_1).f1)) else (none)) else (none)) else (qeb.j1 k1 l0 x9_1 0 l0 (l0.length : Int) x9_1 false ((qkb l0 x9_1).f0) ((qkb l0 x9_1).f1))) else (some (x9_1, 3))) = some (r1, r2) := H
        have A10 := qa.mk A100
        clear A100
        by_cases c11 : t238 = true
        ·subst c11
         have H1 : (if x9_1 > 0 then (if 0 ≤ (wrap64 (x9_1 - 1)) then (if (wrap64 (x9_1 - 1)) < (l0.length : Int) then (qeb.j1 k1 l0 x9_1 0 l0 (l0.length : Int) x9_1 (((qkb l0 (wrap64 (x9_1 - 1))).f0).toList == ((qkb l0 x9_1).f0).toList) ((qkb l0 x9_1).f0) ((qkb l0 x9_1).f1)) else (none)) else (none)) else (qeb.j1 k1 l0 x9_1 0 l0 (l0.length : Int) x9_1 false ((qkb l0 x9_1).f0) ((qkb l0 x9_1).f1))) = some (r1, r2) := by rw [if_pos rfl] at H; exact H
         clear H
         have H := H1
         clear H1
         have HC12 := qa.mk H
         clear H
         have p235 : 0 ≤ (x9_1 : Int) := of_decide_eq_true zz12
         have q235 : x9_1 < (l0.length : Int) := of_decide_eq_true zz12
         obtain ⟨ad235, e235, hx235_0, hx235_1⟩ := at_T55 HR0.out x9_1 p235 q235
         cases e235
         replace hx235_0 := (HB.out.cell (qwc w _ hx235_0)).trans hx235_0
         replace hx235_1 := (HB.out.cell (qwc w _ hx235_1)).trans hx235_1
         replace p235 := eq_true p235
         replace q235 := eq_true q235
         go_upto_region 11 with (first | ((with_reducible refine qfb (N := 5) rfl ?_); refine qlb ?hg (N := 5) ?hd (cs := #[.string (⟨#[]⟩ : ByteArray), .string (⟨#[]⟩ : ByteArray)]) (t := 55) ?hr ?_; (case hd => rfl); (case hg => rfl); (case hr => exact zz6); intro gb236 hg w13 hbox hb; have n0_ := qa.mk (qp zz52 hb); have n1_ := qa.mk (hbox); have n2_ := qa.mk ((by rw [hg]; exact (qo zz52) : w.heap.size ≤ gb236)); have n3_ := qa.mk ((by rw [hg]; exact (qo zz52) : w.heap.size ≤ gb236)); clear HB; have HB := n0_; have BK236 := n1_; have GW236 := n2_; have GE236 := n3_; clear n0_ n1_ n2_ n3_; clear hb hbox hg; have hcz14_0 : w13.cell? ⟨gb236, 0, none⟩ = some (.string (⟨#[]⟩ : ByteArray)) := (qh BK236.out 0).trans rfl; have hcz14_1 : w13.cell? ⟨gb236, 1, none⟩ = some (.string (⟨#[]⟩ : ByteArray)) := (qh BK236.out 1).trans rfl; have hfz14_0 := qf BK236.out 0; have hfz14_1 := qf BK236.out 1) | (go_at_call 43; (with_reducible refine (qdc.calls k1 ((qkb l0 x9_1).f0) true _ A8.out).mono ?_); rintro e w' ⟨rfl, ⟨nd, rfl⟩⟩; (try first | exact ⟨rfl, _, World.drewN_drewN _ _ _⟩ | exact ⟨rfl, _, Eq.trans (World.drewN_drewN _ _ _) (congrArg (World.drewN _) (Nat.add_assoc _ _ _))⟩)) | (go_at_call 40; (with_reducible refine (qxb.calls ((qkb l0 x9_1).f1) true _ A10.out).mono ?_); rintro e w' ⟨rfl, ⟨nd, rfl⟩⟩; (try first | exact ⟨rfl, _, World.drewN_drewN _ _ _⟩ | exact ⟨rfl, _, Eq.trans (World.drewN_drewN _ _ _) (congrArg (World.drewN _) (Nat.add_assoc _ _ _))⟩)))
         repeat (go_quiet (first | ((with_reducible refine qfb (N := 5) rfl ?_); refine qlb ?hg (N := 5) ?hd (cs := #[.string (⟨#[]⟩ : ByteArray), .string (⟨#[]⟩ : ByteArray)]) (t := 55) ?hr ?_; (case hd => rfl); (case hg => rfl); (case hr => exact zz6); intro gb236 hg w13 hbox hb; have n0_ := qa.mk (qp zz52 hb); have n1_ := qa.mk (hbox); have n2_ := qa.mk ((by rw [hg]; exact (qo zz52) : w.heap.size ≤ gb236)); have n3_ := qa.mk ((by rw [hg]; exact (qo zz52) : w.heap.size ≤ gb236)); clear HB; have HB := n0_; have BK236 := n1_; have GW236 := n2_; have GE236 := n3_; clear n0_ n1_ n2_ n3_; clear hb hbox hg; have hcz14_0 : w13.cell? ⟨gb236, 0, none⟩ = some (.string (⟨#[]⟩ : ByteArray)) := (qh BK236.out 0).trans rfl; have hcz14_1 : w13.cell? ⟨gb236, 1, none⟩ = some (.string (⟨#[]⟩ : ByteArray)) := (qh BK236.out 1).trans rfl; have hfz14_0 := qf BK236.out 0; have hfz14_1 := qf BK236.out 1) | (go_at_call 43; (with_reducible refine (qdc.calls k1 ((qkb l0 x9_1).f0) true _ A8.out).mono ?_); rintro e w' ⟨rfl, ⟨nd, rfl⟩⟩; (try first | exact ⟨rfl, _, World.drewN_drewN _ _ _⟩ | exact ⟨rfl, _, Eq.trans (World.drewN_drewN _ _ _) (congrArg (World.drewN _) (Nat.add_assoc _ _ _))⟩)) | (go_at_call 40; (with_reducible refine (qxb.calls ((qkb l0 x9_1).f1) true _ A10.out).mono ?_); rintro e w' ⟨rfl, ⟨nd, rfl⟩⟩; (try first | exact ⟨rfl, _, World.drewN_drewN _ _ _⟩ | exact ⟨rfl, _, Eq.trans (World.drewN_drewN _ _ _) (congrArg (World.drewN _) (Nat.add_assoc _ _ _))⟩))); go_upto_region 11 with (first | ((with_reducible refine qfb (N := 5) rfl ?_); refine qlb ?hg (N := 5) ?hd (cs := #[.string (⟨#[]⟩ : ByteArray), .string (⟨#[]⟩ : ByteArray)]) (t := 55) ?hr ?_; (case hd => rfl); (case hg => rfl); (case hr => exact zz6); intro gb236 hg w13 hbox hb; have n0_ := qa.mk (qp zz52 hb); have n1_ := qa.mk (hbox); have n2_ := qa.mk ((by rw [hg]; exact (qo zz52) : w.heap.size ≤ gb236)); have n3_ := qa.mk ((by rw [hg]; exact (qo zz52) : w.heap.size ≤ gb236)); clear HB; have HB := n0_; have BK236 := n1_; have GW236 := n2_; have GE236 := n3_; clear n0_ n1_ n2_ n3_; clear hb hbox hg; have hcz14_0 : w13.cell? ⟨gb236, 0, none⟩ = some (.string (⟨#[]⟩ : ByteArray)) := (qh BK236.out 0).trans rfl; have hcz14_1 : w13.cell? ⟨gb236, 1, none⟩ = some (.string (⟨#[]⟩ : ByteArray)) := (qh BK236.out 1).trans rfl; have hfz14_0 := qf BK236.out 0; have hfz14_1 := qf BK236.out 1) | (go_at_call 43; (with_reducible refine (qdc.calls k1 ((qkb l0 x9_1).f0) true _ A8.out).mono ?_); rintro e w' ⟨rfl, ⟨nd, rfl⟩⟩; (try first | exact ⟨rfl, _, World.drewN_drewN _ _ _⟩ | exact ⟨rfl, _, Eq.trans (World.drewN_drewN _ _ _) (congrArg (World.drewN _) (Nat.add_assoc _ _ _))⟩)) | (go_at_call 40; (with_reducible refine (qxb.calls ((qkb l0 x9_1).f1) true _ A10.out).mono ?_); rintro e w' ⟨rfl, ⟨nd, rfl⟩⟩; (try first | exact ⟨rfl, _, World.drewN_drewN _ _ _⟩ | exact ⟨rfl, _, Eq.trans (World.drewN_drewN _ _ _) (congrArg (World.drewN _) (Nat.add_assoc _ _ _))⟩))))
         (try simp only [Act.put, List.setIfInBounds_toArray, List.set_cons_zero, List.set_cons_succ])
         go_cut [27] (fun v27 wc => ∃ (kq : Nat) (x27_11 : Bool), v27 = .bool x27_11 ∧ qa (qeb.j1 kq l0 x9_1 0 l0 (l0.length : Int) x9_1 x27_11 ((qkb l0 x9_1).f0) ((qkb l0 x9_1).f1) = some (r1, r2)) ∧ qa (kq ≤ k1) ∧ qa (wc.heap[gb236]? = some (.cells #[.string ((qkb l0 x9_1).f0), .string ((qkb l0 x9_1).f1)] 55 (0, 0))) ∧ qa (Below w.heap.size w wc))
         case first =>
          have H := HC12.out
          clear HC12
          by_cases c15 : x9_1 > 0
          ·rw [if_pos c15] at H
           have c15b0 : decide (0 < x9_1) = true := decide_eq_true c15
           clear c15
           (first | rw [c15b0] | (simp only [i64_w, i32_w]; rw [c15b0]) | rw [c15b2] | skip)
           obtain ⟨ji16, hji16⟩ : ∃ j_ : Int, (wrap64 (x9_1 - 1)) = j_ := ⟨_, rfl⟩
           replace H : (if 0 ≤ (ji16) then (if (ji16) < (l0.length : Int) then (qeb.j1 k1 l0 x9_1 0 l0 (l0.length : Int) x9_1 (((qkb l0 (ji16)).f0).toList == ((qkb l0 x9_1).f0).toList) ((qkb l0 x9_1).f0) ((qkb l0 x9_1).f1)) else (none)) else (none)) = some (r1, r2) := by first | (rw [hji16] at H; exact H) | (simp only [hji16] at H ⊢; exact H)
           have hji16w : (IntKind.i64.wrap (x9_1 - 1)) = ji16 := (i64_w _).trans hji16
           by_cases c17 : 0 ≤ (ji16)
           ·rw [if_pos c17] at H
            have c17b0 : decide (0 ≤ (ji16)) = true := decide_eq_true c17
            clear c17
            by_cases c18 : (ji16) < (l0.length : Int)
            ·rw [if_pos c18] at H
             have c18b0 : decide ((ji16) < (l0.length : Int)) = true := decide_eq_true c18
             clear c18
             have H' := qa.mk H
             clear H
             have p239 : 0 ≤ ((ji16) : Int) := of_decide_eq_true zz12
             have q239 : (ji16) < (l0.length : Int) := of_decide_eq_true zz12
             obtain ⟨ad239, e239, hx239_0, hx239_1⟩ := at_T55 HR0.out (ji16) p239 q239
             obtain rfl : ad235 = ad239 := (by injection e239)
             have hn239_0 : ad235.block ≠ gb236 := qyc (qxc (by have := qwc _ _ hx239_0; first | rwa [qe] at this | exact this) GW236.out)
             have hn239_1 : ad235.block ≠ gb236 := qyc (qxc (by have := qwc _ _ hx239_0; first | rwa [qe] at this | exact this) GW236.out)
             replace hx239_0 := (HB.out.cell (qwc w _ hx239_0)).trans hx239_0
             replace hx239_1 := (HB.out.cell (qwc w _ hx239_1)).trans hx239_1
             replace hx239_0 := (qv (p := ⟨gb236, 0, none⟩) zz66 (.string ((qkb l0 x9_1).f0))).trans hx239_0
             replace hx239_1 := (qv (p := ⟨gb236, 0, none⟩) zz66 (.string ((qkb l0 x9_1).f0))).trans hx239_1
             replace hx239_0 := (qv (p := ⟨gb236, 1, none⟩) zz67 (.string ((qkb l0 x9_1).f1))).trans hx239_0
             replace hx239_1 := (qv (p := ⟨gb236, 1, none⟩) zz67 (.string ((qkb l0 x9_1).f1))).trans hx239_1
             (try have hy239_0 := fun (n_ : Nat) => (show ((((w13.drewN n_).setCell ⟨gb236, 0, none⟩ (.string ((qkb l0 x9_1).f0))).setCell ⟨gb236, 1, none⟩ (.string ((qkb l0 x9_1).f1)))).cell? _ = some _ from hx239_0))
             (try have hy239_1 := fun (n_ : Nat) => (show ((((w13.drewN n_).setCell ⟨gb236, 0, none⟩ (.string ((qkb l0 x9_1).f0))).setCell ⟨gb236, 1, none⟩ (.string ((qkb l0 x9_1).f1)))).cell? _ = some _ from hx239_1))
             clear hn239_0
             clear hn239_1
             replace p239 := eq_true p239
             replace q239 := eq_true q239
             have hcz19_0 : w13.cell? ⟨gb236, 0, none⟩ = some (.string (⟨#[]⟩ : ByteArray)) := (qh BK236.out 0).trans rfl
             have hcz19_1 : w13.cell? ⟨gb236, 1, none⟩ = some (.string (⟨#[]⟩ : ByteArray)) := (qh BK236.out 1).trans rfl
             have hfz19_0 := qf BK236.out 0
             have hfz19_1 := qf BK236.out 1
             go_wp2
             repeat (go_quiet (fail); try go_wp2)
             go_meet
             case rel => exact ⟨_, ((((qkb l0 (ji16)).f0).toList == ((qkb l0 x9_1).f0).toList)), (by first | rfl | (simp; done) | (simp only [← hji16] <;> (first | rfl | simp)) | (simp [*]; done)), H', ⟨zz13⟩, ⟨zz147⟩, ⟨zz79⟩⟩
            ·rw [if_neg c18] at H
             exact absurd H (by simp)
           ·rw [if_neg c17] at H
            exact absurd H (by simp)
          ·rw [if_neg c15] at H
           have c15b0 : decide (0 < x9_1) = false := decide_eq_false c15
           clear c15
           (first | rw [c15b0] | (simp only [i64_w, i32_w]; rw [c15b0]) | rw [c15b2] | skip)
           have H' := qa.mk H
           clear H
           go_wp2
           repeat (go_quiet (fail); try go_wp2)
           go_meet
           case rel => exact ⟨_, (false), zz7, H', ⟨zz13⟩, ⟨zz147⟩, ⟨zz79⟩⟩
         case rest =>
          clear HC12
          try clear c1
          try clear c2
          try clear c2b0
          try clear p2
          try clear q2
          try clear hx2
          try clear c3
          try clear c3b0
          try clear c4
          try clear c4b0
          try clear c5
          try clear c5b0
          try clear c5b1
          try clear p6
          try clear c9
          try clear c11
          try clear c15
          try clear c15b0
          try clear c15b2
          try clear c17
          try clear c17b0
          try clear c18
          try clear c18b0
          try clear hcz14_0
          try clear hcz14_1
          try clear hcz19_0
          try clear hcz19_1
          try clear hcz7_0
          try clear hcz7_1
          try clear hfz14_0
          try clear hfz14_1
          try clear hfz19_0
          try clear hfz19_1
          try clear hfz7_0
          try clear hfz7_1
          try clear hx235_0
          try clear hx235_1
          try clear hx239_0
          try clear hx239_1
          try clear p235
          try clear p239
          try clear q235
          try clear q239
          obtain ⟨kq, x27_11, rfl, HA, HJ11, BK236, HB⟩ := hcut
          cases kq with
          | zero => exact absurd HA.out (by simp [qeb.j1])
          | succ kj11 =>
           have H := HA.out
           clear HA
           simp only [qeb.j1] at H
           by_cases c20 : x27_11 = true
           ·subst c20
            have H1 : (some (x9_1, 10)) = some (r1, r2) := by rw [if_pos rfl] at H; exact H
            clear H
            have H := H1
            clear H1
            simp only [Option.some.injEq, Prod.mk.injEq] at H
            obtain ⟨rfl, rfl⟩ := H
            go_wp2
            repeat (go_quiet (fail); try go_wp2)
            go_ret2
            exact ⟨zz102, zz79⟩
           ·replace c20 := Bool.eq_false_iff.mpr c20
            subst c20
            have H1 : (if x9_1 > 0 then (if 0 ≤ (wrap64 (x9_1 - 1)) then (if (wrap64 (x9_1 - 1)) < (l0.length : Int) then (qeb.j2 kj11 l0 x9_1 0 l0 (l0.length : Int) x9_1 (!(Op.bytesLess (((qkb l0 (wrap64 (x9_1 - 1))).f0).toList) ((qkb l0 x9_1).f0).toList || (((qkb l0 (wrap64 (x9_1 - 1))).f0).toList) == ((qkb l0 x9_1).f0).toList))) else (none)) else (none)) else (qeb.j2 kj11 l0 x9_1 0 l0 (l0.length : Int) x9_1 false)) = some (r1, r2) := by rw [if_neg (show ¬ (false = true) by decide)] at H; exact H
            clear H
            have H := H1
            clear H1
            have HC21 := qa.mk H
            clear H
            go_upto_region 13 with (fail)
            repeat (go_quiet (fail); go_upto_region 13 with (fail))
            go_cut [41] (fun v41 wc => ∃ (kq : Nat) (x41_20 : Bool), v41 = .bool x41_20 ∧ qa (qeb.j2 kq l0 x9_1 0 l0 (l0.length : Int) x9_1 x41_20 = some (r1, r2)) ∧ qa (kq ≤ kj11) ∧ qa (wc.heap[gb236]? = some (.cells #[.string ((qkb l0 x9_1).f0), .string ((qkb l0 x9_1).f1)] 55 (0, 0))) ∧ qa (Below w.heap.size w wc))
            case first =>
             have H := HC21.out
             clear HC21
             by_cases c22 : x9_1 > 0
             ·rw [if_pos c22] at H
              have c22b0 : decide (0 < x9_1) = true := decide_eq_true c22
              clear c22
              (first | rw [c22b0] | (simp only [i64_w, i32_w]; rw [c22b0]) | rw [c22b2] | skip)
              obtain ⟨ji23, hji23⟩ : ∃ j_ : Int, (wrap64 (x9_1 - 1)) = j_ := ⟨_, rfl⟩
              replace H : (if 0 ≤ (ji23) then (if (ji23) < (l0.length : Int) then (qeb.j2 kj11 l0 x9_1 0 l0 (l0.length : Int) x9_1 (!(Op.bytesLess (((qkb l0 (ji23)).f0).toList) ((qkb l0 x9_1).f0).toList || (((qkb l0 (ji23)).f0).toList) == ((qkb l0 x9_1).f0).toList))) else (none)) else (none)) = some (r1, r2) := by first | (rw [hji23] at H; exact H) | (simp only [hji23] at H ⊢; exact H)
              have hji23w : (IntKind.i64.wrap (x9_1 - 1)) = ji23 := (i64_w _).trans hji23
              by_cases c24 : 0 ≤ (ji23)
              ·rw [if_pos c24] at H
               have c24b0 : decide (0 ≤ (ji23)) = true := decide_eq_true c24
               clear c24
               by_cases c25 : (ji23) < (l0.length : Int)
               ·rw [if_pos c25] at H
                have c25b0 : decide ((ji23) < (l0.length : Int)) = true := decide_eq_true c25
                clear c25
                have H' := qa.mk H
                clear H
                have p240 : 0 ≤ ((ji23) : Int) := of_decide_eq_true zz12
                have q240 : (ji23) < (l0.length : Int) := of_decide_eq_true zz12
                obtain ⟨ad240, e240, hx240_0, hx240_1⟩ := at_T55 HR0.out (ji23) p240 q240
                obtain rfl : ad235 = ad240 := (by injection e240)
                replace hx240_0 := (HB.out.cell (qwc w _ hx240_0)).trans hx240_0
                replace hx240_1 := (HB.out.cell (qwc w _ hx240_1)).trans hx240_1
                replace p240 := eq_true p240
                replace q240 := eq_true q240
                have hcz26_0 : wc.cell? ⟨gb236, 0, none⟩ = some (.string ((qkb l0 x9_1).f0)) := (qh BK236.out 0).trans rfl
                have hcz26_1 : wc.cell? ⟨gb236, 1, none⟩ = some (.string ((qkb l0 x9_1).f1)) := (qh BK236.out 1).trans rfl
                have hfz26_0 := qf BK236.out 0
                have hfz26_1 := qf BK236.out 1
                go_wp2
                repeat (go_quiet (fail); try go_wp2)
                go_meet
                case rel => exact ⟨_, (!(Op.bytesLess (((qkb l0 (ji23)).f0).toList) ((qkb l0 x9_1).f0).toList || (((qkb l0 (ji23)).f0).toList) == ((qkb l0 x9_1).f0).toList)), (by first | rfl | (simp; done) | (simp only [← hji23] <;> (first | rfl | simp)) | (simp [*]; done)), H', ⟨by have := HK1.out; have := HJ11.out; first | omega | exact Nat.le_refl _⟩, ⟨by (with_reducible repeat (first | refine qk ?_ _ | refine ql ?_ | refine qj ?_ _)); exact BK236.out⟩, ⟨zz79⟩⟩
               ·rw [if_neg c25] at H
                exact absurd H (by simp)
              ·rw [if_neg c24] at H
               exact absurd H (by simp)
             ·rw [if_neg c22] at H
              have c22b0 : decide (0 < x9_1) = false := decide_eq_false c22
              clear c22
              (first | rw [c22b0] | (simp only [i64_w, i32_w]; rw [c22b0]) | rw [c22b2] | skip)
              have H' := qa.mk H
              clear H
              go_wp2
              repeat (go_quiet (fail); try go_wp2)
              go_meet
              case rel => exact ⟨_, (false), zz7, H', ⟨by have := HK1.out; have := HJ11.out; first | omega | exact Nat.le_refl _⟩, ⟨by (with_reducible repeat (first | refine qk ?_ _ | refine ql ?_ | refine qj ?_ _)); exact BK236.out⟩, ⟨zz79⟩⟩
            case rest =>
             clear HC21
             try clear c1
             try clear c2
             try clear c2b0
             try clear p2
             try clear q2
             try clear hx2
             try clear c3
             try clear c3b0
             try clear c4
             try clear c4b0
             try clear c5
             try clear c5b0
             try clear c5b1
             try clear p6
             try clear c9
             try clear c11
             try clear c15
             try clear c15b0
             try clear c15b2
             try clear c17
             try clear c17b0
             try clear c18
             try clear c18b0
             try clear c20
             try clear c22
             try clear c22b0
             try clear c22b2
             try clear p23
             try clear q23
             try clear hx23
             try clear c24
             try clear c24b0
             try clear p24
             try clear q24
             try clear hx24
             try clear c25
             try clear c25b0
             try clear hcz14_0
             try clear hcz14_1
             try clear hcz19_0
             try clear hcz19_1
             try clear hcz26_0
             try clear hcz26_1
             try clear hcz7_0
             try clear hcz7_1
             try clear hfz14_0
             try clear hfz14_1
             try clear hfz19_0
             try clear hfz19_1
             try clear hfz26_0
             try clear hfz26_1
             try clear hfz7_0
             try clear hfz7_1
             try clear hx235_0
             try clear hx235_1
             try clear hx239_0
             try clear hx239_1
             try clear hx240_0
             try clear hx240_1
             try clear p2
             try clear p235
             try clear p239
             try clear p240
             try clear p6
             try clear q2
             try clear q235
             try clear q239
             try clear q240
             obtain ⟨kq, x41_20, rfl, HA, HJ20, BK236, HB⟩ := hcut
             cases kq with
             | zero => exact absurd HA.out (by simp [qeb.j2])
             | succ kj20 =>
              have H := HA.out
              clear HA
              simp only [qeb.j2] at H
              by_cases c27 : x41_20 = true
              ·subst c27
               have H1 : (some (x9_1, 9)) = some (r1, r2) := by rw [if_pos rfl] at H; exact H
               clear H
               have H := H1
               clear H1
               simp only [Option.some.injEq, Prod.mk.injEq] at H
               obtain ⟨rfl, rfl⟩ := H
               go_wp2
               repeat (go_quiet (fail); try go_wp2)
               go_ret2
               exact ⟨zz102, zz79⟩
              ·replace c27 := Bool.eq_false_iff.mpr c27
               subst c27
               have H1 : (if 0 = 0 then (qeb.l0 kj20 l0 l0 (l0.length : Int) (wrap64 (x9_1 + 1))) else (some (x9_1, 0))) = some (r1, r2) := by rw [if_neg (show ¬ (false = true) by decide)] at H; exact H
               clear H
               have H := H1
               clear H1
               by_cases c28 : 0 = 0
               ·rw [if_pos c28] at H
                have c28b0 : (0 == 0) = true := beq_iff_eq.mpr c28
                have c28b1 : (0 != 0) = false := bne_eq_false_iff_eq.mpr c28
                clear c28
                have H' := qa.mk H
                clear H
                go_wp2
                repeat (go_quiet (fail); try go_wp2)
                go_roundg kj20
                case measure => have := HK1.out; have := HJ11.out; have := HJ20.out; omega
                case rel => exact ⟨(wrap64 (x9_1 + 1)), zz7, H', ⟨by have := HK1.out; have := HJ11.out; have := HJ20.out; omega⟩, ⟨zz79⟩⟩
               ·exact absurd (by decide) c28
        ·replace c11 := Bool.eq_false_iff.mpr c11
         subst c11
         have H1 : (some (x9_1, 3)) = some (r1, r2) := by rw [if_neg (show ¬ (false = true) by decide)] at H; exact H
         clear H
         have H := H1
         clear H1
         simp only [Option.some.injEq, Prod.mk.injEq] at H
         obtain ⟨rfl, rfl⟩ := H
         have p235 : 0 ≤ (x9_1 : Int) := of_decide_eq_true zz12
         have q235 : x9_1 < (l0.length : Int) := of_decide_eq_true zz12
         obtain ⟨ad235, e235, hx235_0, hx235_1⟩ := at_T55 HR0.out x9_1 p235 q235
         cases e235
         replace hx235_0 := (HB.out.cell (qwc w _ hx235_0)).trans hx235_0
         replace hx235_1 := (HB.out.cell (qwc w _ hx235_1)).trans hx235_1
         replace p235 := eq_true p235
         replace q235 := eq_true q235
         go_wp2_with (first | ((with_reducible refine qfb (N := 5) rfl ?_); refine qlb ?hg (N := 5) ?hd (cs := #[.string (⟨#[]⟩ : ByteArray), .string (⟨#[]⟩ : ByteArray)]) (t := 55) ?hr ?_; (case hd => rfl); (case hg => rfl); (case hr => exact zz6); intro gb236 hg w29 hbox hb; have n0_ := qa.mk (qp zz52 hb); have n1_ := qa.mk (hbox); have n2_ := qa.mk ((by rw [hg]; exact (qo zz52) : w.heap.size ≤ gb236)); have n3_ := qa.mk ((by rw [hg]; exact (qo zz52) : w.heap.size ≤ gb236)); clear HB; have HB := n0_; have BK236 := n1_; have GW236 := n2_; have GE236 := n3_; clear n0_ n1_ n2_ n3_; clear hb hbox hg; have hcz30_0 : w29.cell? ⟨gb236, 0, none⟩ = some (.string (⟨#[]⟩ : ByteArray)) := (qh BK236.out 0).trans rfl; have hcz30_1 : w29.cell? ⟨gb236, 1, none⟩ = some (.string (⟨#[]⟩ : ByteArray)) := (qh BK236.out 1).trans rfl; have hfz30_0 := qf BK236.out 0; have hfz30_1 := qf BK236.out 1) | (go_at_call 43; (with_reducible refine (qdc.calls k1 ((qkb l0 x9_1).f0) true _ A8.out).mono ?_); rintro e w' ⟨rfl, ⟨nd, rfl⟩⟩; (try first | exact ⟨rfl, _, World.drewN_drewN _ _ _⟩ | exact ⟨rfl, _, Eq.trans (World.drewN_drewN _ _ _) (congrArg (World.drewN _) (Nat.add_assoc _ _ _))⟩)) | (go_at_call 40; (with_reducible refine (qxb.calls ((qkb l0 x9_1).f1) false _ A10.out).mono ?_); rintro e w' ⟨rfl, ⟨nd, rfl⟩⟩; (try first | exact ⟨rfl, _, World.drewN_drewN _ _ _⟩ | exact ⟨rfl, _, Eq.trans (World.drewN_drewN _ _ _) (congrArg (World.drewN _) (Nat.add_assoc _ _ _))⟩)))
         repeat (go_quiet (first | ((with_reducible refine qfb (N := 5) rfl ?_); refine qlb ?hg (N := 5) ?hd (cs := #[.string (⟨#[]⟩ : ByteArray), .string (⟨#[]⟩ : ByteArray)]) (t := 55) ?hr ?_; (case hd => rfl); (case hg => rfl); (case hr => exact zz6); intro gb236 hg w29 hbox hb; have n0_ := qa.mk (qp zz52 hb); have n1_ := qa.mk (hbox); have n2_ := qa.mk ((by rw [hg]; exact (qo zz52) : w.heap.size ≤ gb236)); have n3_ := qa.mk ((by rw [hg]; exact (qo zz52) : w.heap.size ≤ gb236)); clear HB; have HB := n0_; have BK236 := n1_; have GW236 := n2_; have GE236 := n3_; clear n0_ n1_ n2_ n3_; clear hb hbox hg; have hcz30_0 : w29.cell? ⟨gb236, 0, none⟩ = some (.string (⟨#[]⟩ : ByteArray)) := (qh BK236.out 0).trans rfl; have hcz30_1 : w29.cell? ⟨gb236, 1, none⟩ = some (.string (⟨#[]⟩ : ByteArray)) := (qh BK236.out 1).trans rfl; have hfz30_0 := qf BK236.out 0; have hfz30_1 := qf BK236.out 1) | (go_at_call 43; (with_reducible refine (qdc.calls k1 ((qkb l0 x9_1).f0) true _ A8.out).mono ?_); rintro e w' ⟨rfl, ⟨nd, rfl⟩⟩; (try first | exact ⟨rfl, _, World.drewN_drewN _ _ _⟩ | exact ⟨rfl, _, Eq.trans (World.drewN_drewN _ _ _) (congrArg (World.drewN _) (Nat.add_assoc _ _ _))⟩)) | (go_at_call 40; (with_reducible refine (qxb.calls ((qkb l0 x9_1).f1) false _ A10.out).mono ?_); rintro e w' ⟨rfl, ⟨nd, rfl⟩⟩; (try first | exact ⟨rfl, _, World.drewN_drewN _ _ _⟩ | exact ⟨rfl, _, Eq.trans (World.drewN_drewN _ _ _) (congrArg (World.drewN _) (Nat.add_assoc _ _ _))⟩))); try go_wp2_with (first | ((with_reducible refine qfb (N := 5) rfl ?_); refine qlb ?hg (N := 5) ?hd (cs := #[.string (⟨#[]⟩ : ByteArray), .string (⟨#[]⟩ : ByteArray)]) (t := 55) ?hr ?_; (case hd => rfl); (case hg => rfl); (case hr => exact zz6); intro gb236 hg w29 hbox hb; have n0_ := qa.mk (qp zz52 hb); have n1_ := qa.mk (hbox); have n2_ := qa.mk ((by rw [hg]; exact (qo zz52) : w.heap.size ≤ gb236)); have n3_ := qa.mk ((by rw [hg]; exact (qo zz52) : w.heap.size ≤ gb236)); clear HB; have HB := n0_; have BK236 := n1_; have GW236 := n2_; have GE236 := n3_; clear n0_ n1_ n2_ n3_; clear hb hbox hg; have hcz30_0 : w29.cell? ⟨gb236, 0, none⟩ = some (.string (⟨#[]⟩ : ByteArray)) := (qh BK236.out 0).trans rfl; have hcz30_1 : w29.cell? ⟨gb236, 1, none⟩ = some (.string (⟨#[]⟩ : ByteArray)) := (qh BK236.out 1).trans rfl; have hfz30_0 := qf BK236.out 0; have hfz30_1 := qf BK236.out 1) | (go_at_call 43; (with_reducible refine (qdc.calls k1 ((qkb l0 x9_1).f0) true _ A8.out).mono ?_); rintro e w' ⟨rfl, ⟨nd, rfl⟩⟩; (try first | exact ⟨rfl, _, World.drewN_drewN _ _ _⟩ | exact ⟨rfl, _, Eq.trans (World.drewN_drewN _ _ _) (congrArg (World.drewN _) (Nat.add_assoc _ _ _))⟩)) | (go_at_call 40; (with_reducible refine (qxb.calls ((qkb l0 x9_1).f1) false _ A10.out).mono ?_); rintro e w' ⟨rfl, ⟨nd, rfl⟩⟩; (try first | exact ⟨rfl, _, World.drewN_drewN _ _ _⟩ | exact ⟨rfl, _, Eq.trans (World.drewN_drewN _ _ _) (congrArg (World.drewN _) (Nat.add_assoc _ _ _))⟩))))
         go_ret2
         exact ⟨zz102, zz79⟩
       ·replace c9 := Bool.eq_false_iff.mpr c9
        subst c9
        have H1 : (some (x9_1, 8)) = some (r1, r2) := by rw [if_neg (show ¬ (false = true) by decide)] at H; exact H
        clear H
        have H := H1
        clear H1
        simp only [Option.some.injEq, Prod.mk.injEq] at H
        obtain ⟨rfl, rfl⟩ := H
        have p235 : 0 ≤ (x9_1 : Int) := of_decide_eq_true zz12
        have q235 : x9_1 < (l0.length : Int) := of_decide_eq_true zz12
        obtain ⟨ad235, e235, hx235_0, hx235_1⟩ := at_T55 HR0.out x9_1 p235 q235
        cases e235
        replace hx235_0 := (HB.out.cell (qwc w _ hx235_0)).trans hx235_0
        replace hx235_1 := (HB.out.cell (qwc w _ hx235_1)).trans hx235_1
        replace p235 := eq_true p235
        replace q235 := eq_true q235
        go_wp2_with (first | ((with_reducible refine qfb (N := 5) rfl ?_); refine qlb ?hg (N := 5) ?hd (cs := #[.string (⟨#[]⟩ : ByteArray), .string (⟨#[]⟩ : ByteArray)]) (t := 55) ?hr ?_; (case hd => rfl); (case hg => rfl); (case hr => exact zz6); intro gb236 hg w31 hbox hb; have n0_ := qa.mk (qp zz52 hb); have n1_ := qa.mk (hbox); have n2_ := qa.mk ((by rw [hg]; exact (qo zz52) : w.heap.size ≤ gb236)); have n3_ := qa.mk ((by rw [hg]; exact (qo zz52) : w.heap.size ≤ gb236)); clear HB; have HB := n0_; have BK236 := n1_; have GW236 := n2_; have GE236 := n3_; clear n0_ n1_ n2_ n3_; clear hb hbox hg; have hcz32_0 : w31.cell? ⟨gb236, 0, none⟩ = some (.string (⟨#[]⟩ : ByteArray)) := (qh BK236.out 0).trans rfl; have hcz32_1 : w31.cell? ⟨gb236, 1, none⟩ = some (.string (⟨#[]⟩ : ByteArray)) := (qh BK236.out 1).trans rfl; have hfz32_0 := qf BK236.out 0; have hfz32_1 := qf BK236.out 1) | (go_at_call 43; (with_reducible refine (qdc.calls k1 ((qkb l0 x9_1).f0) false _ A8.out).mono ?_); rintro e w' ⟨rfl, ⟨nd, rfl⟩⟩; (try first | exact ⟨rfl, _, World.drewN_drewN _ _ _⟩ | exact ⟨rfl, _, Eq.trans (World.drewN_drewN _ _ _) (congrArg (World.drewN _) (Nat.add_assoc _ _ _))⟩)))
        repeat (go_quiet (first | ((with_reducible refine qfb (N := 5) rfl ?_); refine qlb ?hg (N := 5) ?hd (cs := #[.string (⟨#[]⟩ : ByteArray), .string (⟨#[]⟩ : ByteArray)]) (t := 55) ?hr ?_; (case hd => rfl); (case hg => rfl); (case hr => exact zz6); intro gb236 hg w31 hbox hb; have n0_ := qa.mk (qp zz52 hb); have n1_ := qa.mk (hbox); have n2_ := qa.mk ((by rw [hg]; exact (qo zz52) : w.heap.size ≤ gb236)); have n3_ := qa.mk ((by rw [hg]; exact (qo zz52) : w.heap.size ≤ gb236)); clear HB; have HB := n0_; have BK236 := n1_; have GW236 := n2_; have GE236 := n3_; clear n0_ n1_ n2_ n3_; clear hb hbox hg; have hcz32_0 : w31.cell? ⟨gb236, 0, none⟩ = some (.string (⟨#[]⟩ : ByteArray)) := (qh BK236.out 0).trans rfl; have hcz32_1 : w31.cell? ⟨gb236, 1, none⟩ = some (.string (⟨#[]⟩ : ByteArray)) := (qh BK236.out 1).trans rfl; have hfz32_0 := qf BK236.out 0; have hfz32_1 := qf BK236.out 1) | (go_at_call 43; (with_reducible refine (qdc.calls k1 ((qkb l0 x9_1).f0) false _ A8.out).mono ?_); rintro e w' ⟨rfl, ⟨nd, rfl⟩⟩; (try first | exact ⟨rfl, _, World.drewN_drewN _ _ _⟩ | exact ⟨rfl, _, Eq.trans (World.drewN_drewN _ _ _) (congrArg (World.drewN _) (Nat.add_assoc _ _ _))⟩))); try go_wp2_with (first | ((with_reducible refine qfb (N := 5) rfl ?_); refine qlb ?hg (N := 5) ?hd (cs := #[.string (⟨#[]⟩ : ByteArray), .string (⟨#[]⟩ : ByteArray)]) (t := 55) ?hr ?_; (case hd => rfl); (case hg => rfl); (case hr => exact zz6); intro gb236 hg w31 hbox hb; have n0_ := qa.mk (qp zz52 hb); have n1_ := qa.mk (hbox); have n2_ := qa.mk ((by rw [hg]; exact (qo zz52) : w.heap.size ≤ gb236)); have n3_ := qa.mk ((by rw [hg]; exact (qo zz52) : w.heap.size ≤ gb236)); clear HB; have HB := n0_; have BK236 := n1_; have GW236 := n2_; have GE236 := n3_; clear n0_ n1_ n2_ n3_; clear hb hbox hg; have hcz32_0 : w31.cell? ⟨gb236, 0, none⟩ = some (.string (⟨#[]⟩ : ByteArray)) := (qh BK236.out 0).trans rfl; have hcz32_1 : w31.cell? ⟨gb236, 1, none⟩ = some (.string (⟨#[]⟩ : ByteArray)) := (qh BK236.out 1).trans rfl; have hfz32_0 := qf BK236.out 0; have hfz32_1 := qf BK236.out 1) | (go_at_call 43; (with_reducible refine (qdc.calls k1 ((qkb l0 x9_1).f0) false _ A8.out).mono ?_); rintro e w' ⟨rfl, ⟨nd, rfl⟩⟩; (try first | exact ⟨rfl, _, World.drewN_drewN _ _ _⟩ | exact ⟨rfl, _, Eq.trans (World.drewN_drewN _ _ _) (congrArg (World.drewN _) (Nat.add_assoc _ _ _))⟩))))
        go_ret2
        exact ⟨zz102, zz79⟩
     ·rw [if_neg c4] at H
      exact absurd H (by simp)
    ·rw [if_neg c3] at H
     exact absurd H (by simp)
   ·rw [if_neg c2] at H
    have c2b0 : decide (x9_1 < (l0.length : Int)) = false := decide_eq_false c2
    clear c2
    simp only [Option.some.injEq, Prod.mk.injEq] at H
    obtain ⟨rfl, rfl⟩ := H
    go_wp2
    repeat (go_quiet (fail); try go_wp2)
    go_ret2
    exact ⟨zz102, zz52⟩
def vtree_wrong.f (k : Nat) (a0_0 : ByteArray) (a0_1 : ByteArray) (a0_2 : ByteArray) (l0_3 : List (S55)) (l0_4 : List (S86)) : Option (Int) := (qrc.f k a0_0).bind fun t242 => (if t242 = true then ((qxb.f a0_1).bind fun t243 => (if t243 = true then ((qxb.f a0_2).bind fun t244 => (if t244 = true then ((qeb.f k l0_3).bind fun bt245 => (some bt245.2)) else (some 3))) else (some 3))) else (some 7))
theorem vtree_wrong.mono : ∀ a0 a1 a2 a3 a4 k, LeO (vtree_wrong.f k a0 a1 a2 a3 a4) (vtree_wrong.f (k + 1) a0 a1 a2 a3 a4) := by
 intro a0 a1 a2 a3 a4 k
 unfold vtree_wrong.f
 repeat' first
   | (with_reducible exact qeb.mono _ _)
   | (with_reducible exact qrc.mono _ _)
   | (with_reducible exact LeO.refl _)
   | (with_reducible exact LeO.none _)
   | (with_reducible refine LeO.ite ?_ ?_)
   | (with_reducible refine LeO.bind ?_ (fun _ => ?_))
   | exact qeb.mono _ _
   | exact qrc.mono _ _
   | exact LeO.none _
   | refine LeO.ite ?_ ?_
   | refine LeO.bind ?_ (fun _ => ?_)
set_option maxHeartbeats 8000000 in
set_option maxRecDepth 100000 in
theorem vtree_wrong.calls (k : Nat) (a0_0 : ByteArray) (a0_1 : ByteArray) (a0_2 : ByteArray) (A0_3 : Option Addr) (c0_3 : Nat) (l0_3 : List (S55)) (A0_4 : Option Addr) (c0_4 : Nat) (l0_4 : List (S86)) (r : Int) (w : World) (hr0_3 : Kd.C k55 w A0_3 l0_3.length l0_3) (hc0_3 : l0_3.length ≤ c0_3) (hr0_4 : Kd.C k86 w A0_4 l0_4.length l0_4) (hc0_4 : l0_4.length ≤ c0_4) (h : vtree_wrong.f k a0_0 a0_1 a0_2 l0_3 l0_4 = some r) :
  Calls Tryz.prog 88 #[.agg #[.string a0_0, .string a0_1, .string a0_2, .slice A0_3 l0_3.length c0_3, .slice A0_4 l0_4.length c0_4]] w fun e w' => e = .returned (.int .i64 r) ∧ Below w.heap.size w w' := by
 have hu86 := Tryz.underlying86
 have HR0_3 := qa.mk hr0_3
 have HC0_3 := qa.mk hc0_3
 clear hr0_3 hc0_3
 have HR0_4 := qa.mk hr0_4
 have HC0_4 := qa.mk hc0_4
 clear hr0_4 hc0_4
 have HB := qa.mk (Below.refl w.heap.size w)
 have H : ((qrc.f k a0_0).bind fun t242 => (if t242 = true then ((qxb.f a0_1).bind fun t243 => (if t243 = true then ((qxb.f a0_2).bind fun t244 => (if t244 = true then ((qeb.f k l0_3).bind fun bt245 => (some bt245.2)) else (some 3))) else (some 3))) else (some 7))) = some r := h
 clear h
 replace H := Option.bind_eq_some_iff.mp H
 obtain ⟨t242, A20, H⟩ := H
 replace H : (if t242 = true then ((qxb.f a0_1).bind fun t243 => (if t243 = true then ((qxb.f a0_2).bind fun t244 => (if t244 = true then ((qeb.f k l0_3).bind fun bt245 => (some bt245.2)) else (some 3))) else (some 3))) else (some 7)) = some r := H
 have A2 := qa.mk A20
 clear A20
 by_cases c3 : t242 = true
 ·subst c3
  have H1 : ((qxb.f a0_1).bind fun t243 => (if t243 = true then ((qxb.f a0_2).bind fun t244 => (if t244 = true then ((qeb.f k l0_3).bind fun bt245 => (some bt245.2)) else (some 3))) else (some 3))) = some r := by rw [if_pos rfl] at H; exact H
  clear H
  have H := H1
  clear H1
  replace H := Option.bind_eq_some_iff.mp H
  obtain ⟨t243, A40, H⟩ := H
  replace H : (if t243 = true then ((qxb.f a0_2).bind fun t244 => (if t244 = true then ((qeb.f k l0_3).bind fun bt245 => (some bt245.2)) else (some 3))) else (some 3)) = some r := H
  have A4 := qa.mk A40
  clear A40
  by_cases c5 : t243 = true
  ·subst c5
   have H1 : ((qxb.f a0_2).bind fun t244 => (if t244 = true then ((qeb.f k l0_3).bind fun bt245 => (some bt245.2)) else (some 3))) = some r := by rw [if_pos rfl] at H; exact H
   clear H
   have H := H1
   clear H1
   replace H := Option.bind_eq_some_iff.mp H
   obtain ⟨t244, A60, H⟩ := H
   replace H : (if t244 = true then ((qeb.f k l0_3).bind fun bt245 => (some bt245.2)) else (some 3)) = some r := H
   have A6 := qa.mk A60
   clear A60
   by_cases c7 : t244 = true
   ·subst c7
    have H1 : ((qeb.f k l0_3).bind fun bt245 => (some bt245.2)) = some r := by rw [if_pos rfl] at H; exact H
    clear H
    have H := H1
    clear H1
    replace H := Option.bind_eq_some_iff.mp H
    obtain ⟨⟨t245, t246⟩, A80, H⟩ := H
    replace H : (some t246) = some r := H
    have A8 := qa.mk A80
    clear A80
    obtain rfl := Option.some.inj H
    go_enter Tryz.func88, Tryz.ntmps88
    go_wp2_with (first | ((with_reducible refine qfb (N := 1) rfl ?_); refine qlb ?hg (N := 1) ?hd (cs := #[.string a0_0, .string a0_1, .string a0_2, .slice A0_3 l0_3.length c0_3, .slice A0_4 l0_4.length c0_4]) (t := 86) ?hr ?_; (case hd => rfl); (case hg => rfl); (case hr => exact zz6); intro gb241 hg w9 hbox hb; have n0_ := qa.mk (qp zz52 hb); have n1_ := qa.mk (hbox); have n2_ := qa.mk ((by rw [hg]; exact (qo zz52) : w.heap.size ≤ gb241)); have n3_ := qa.mk ((by rw [hg]; exact (qo zz52) : w.heap.size ≤ gb241)); clear HB; have HB := n0_; have BK241 := n1_; have GW241 := n2_; have GE241 := n3_; clear n0_ n1_ n2_ n3_; clear hb hbox hg; have hcz10_0 : w9.cell? ⟨gb241, 0, none⟩ = some (.string a0_0) := (qh BK241.out 0).trans rfl; have hcz10_1 : w9.cell? ⟨gb241, 1, none⟩ = some (.string a0_1) := (qh BK241.out 1).trans rfl; have hcz10_2 : w9.cell? ⟨gb241, 2, none⟩ = some (.string a0_2) := (qh BK241.out 2).trans rfl; have hcz10_3 : w9.cell? ⟨gb241, 3, none⟩ = some (.slice A0_3 l0_3.length c0_3) := (qh BK241.out 3).trans rfl; have hcz10_4 : w9.cell? ⟨gb241, 4, none⟩ = some (.slice A0_4 l0_4.length c0_4) := (qh BK241.out 4).trans rfl; have hfz10_0 := qf BK241.out 0; have hfz10_1 := qf BK241.out 1; have hfz10_2 := qf BK241.out 2; have hfz10_3 := qf BK241.out 3; have hfz10_4 := qf BK241.out 4) | ((with_reducible refine qy (f := 39) rfl ?_); refine qrb (some 8) rfl rfl Tryz.func39 (by kernel_rfl) rfl #[.string a0_0] rfl zz93 ?_; (with_reducible refine (qrc.calls k a0_0 true _ A2.out).mono ?_); rintro e w' ⟨rfl, ⟨nd, rfl⟩⟩; refine ⟨_, rfl, ?_⟩) | ((with_reducible refine qy (f := 40) rfl ?_); refine qrb (some 13) rfl rfl Tryz.func40 (by kernel_rfl) rfl #[.string a0_1] rfl zz93 ?_; (with_reducible refine (qxb.calls a0_1 true _ A4.out).mono ?_); rintro e w' ⟨rfl, ⟨nd, rfl⟩⟩; refine ⟨_, rfl, ?_⟩) | (go_at_call 40; (with_reducible refine (qxb.calls a0_2 true _ A6.out).mono ?_); rintro e w' ⟨rfl, ⟨nd, rfl⟩⟩) | ((with_reducible refine qy (f := 96) rfl ?_); refine qrb (some 24) rfl rfl Tryz.func96 (by kernel_rfl) rfl #[.slice A0_3 l0_3.length c0_3] rfl zz93 ?_; (with_reducible refine (qeb.calls k _ _ l0_3 t245 t246 _ ?side1 ?side2 A8.out).mono ?_); (case side1 => repeat (first | exact (Kd.C_below HR0_3.out zz80) | (with_reducible refine Kd.C_alloc ?_ _) | (with_reducible refine Kd.C_drewN ?_ _) | (with_reducible refine Kd.C_drew ?_))); (case side2 => exact HC0_3.out); rintro e w11 ⟨rfl, hb⟩; refine ⟨_, rfl, ?_⟩; have n0_ := qa.mk (qnb (g := gb241) (o := .cells #[.string a0_0, .string a0_1, .string a0_2, .slice A0_3 l0_3.length c0_3, .slice A0_4 l0_4.length c0_4] 86 (0, 0)) (by (with_reducible repeat (first | refine qk ?_ _ | refine ql ?_ | refine qj ?_ _)); exact BK241.out) hb); have n1_ := qa.mk (qp zz80 hb); clear BK241; clear HB; have BK241 := n0_; have HB := n1_; clear n0_ n1_; (try clear hb); (try clear hb2); (try clear hk); (try clear hi)))
    go_ret
    exact ⟨zz102, zz80⟩
   ·replace c7 := Bool.eq_false_iff.mpr c7
    subst c7
    have H1 : (some 3) = some r := by rw [if_neg (show ¬ (false = true) by decide)] at H; exact H
    clear H
    have H := H1
    clear H1
    obtain rfl := Option.some.inj H
    go_enter Tryz.func88, Tryz.ntmps88
    go_wp2_with (first | ((with_reducible refine qfb (N := 1) rfl ?_); refine qlb ?hg (N := 1) ?hd (cs := #[.string a0_0, .string a0_1, .string a0_2, .slice A0_3 l0_3.length c0_3, .slice A0_4 l0_4.length c0_4]) (t := 86) ?hr ?_; (case hd => rfl); (case hg => rfl); (case hr => exact zz6); intro gb241 hg w12 hbox hb; have n0_ := qa.mk (qp zz52 hb); have n1_ := qa.mk (hbox); have n2_ := qa.mk ((by rw [hg]; exact (qo zz52) : w.heap.size ≤ gb241)); have n3_ := qa.mk ((by rw [hg]; exact (qo zz52) : w.heap.size ≤ gb241)); clear HB; have HB := n0_; have BK241 := n1_; have GW241 := n2_; have GE241 := n3_; clear n0_ n1_ n2_ n3_; clear hb hbox hg; have hcz13_0 : w12.cell? ⟨gb241, 0, none⟩ = some (.string a0_0) := (qh BK241.out 0).trans rfl; have hcz13_1 : w12.cell? ⟨gb241, 1, none⟩ = some (.string a0_1) := (qh BK241.out 1).trans rfl; have hcz13_2 : w12.cell? ⟨gb241, 2, none⟩ = some (.string a0_2) := (qh BK241.out 2).trans rfl; have hcz13_3 : w12.cell? ⟨gb241, 3, none⟩ = some (.slice A0_3 l0_3.length c0_3) := (qh BK241.out 3).trans rfl; have hcz13_4 : w12.cell? ⟨gb241, 4, none⟩ = some (.slice A0_4 l0_4.length c0_4) := (qh BK241.out 4).trans rfl; have hfz13_0 := qf BK241.out 0; have hfz13_1 := qf BK241.out 1; have hfz13_2 := qf BK241.out 2; have hfz13_3 := qf BK241.out 3; have hfz13_4 := qf BK241.out 4) | ((with_reducible refine qy (f := 39) rfl ?_); refine qrb (some 8) rfl rfl Tryz.func39 (by kernel_rfl) rfl #[.string a0_0] rfl zz93 ?_; (with_reducible refine (qrc.calls k a0_0 true _ A2.out).mono ?_); rintro e w' ⟨rfl, ⟨nd, rfl⟩⟩; refine ⟨_, rfl, ?_⟩) | ((with_reducible refine qy (f := 40) rfl ?_); refine qrb (some 13) rfl rfl Tryz.func40 (by kernel_rfl) rfl #[.string a0_1] rfl zz93 ?_; (with_reducible refine (qxb.calls a0_1 true _ A4.out).mono ?_); rintro e w' ⟨rfl, ⟨nd, rfl⟩⟩; refine ⟨_, rfl, ?_⟩) | (go_at_call 40; (with_reducible refine (qxb.calls a0_2 false _ A6.out).mono ?_); rintro e w' ⟨rfl, ⟨nd, rfl⟩⟩))
    go_ret
    exact ⟨zz102, zz80⟩
  ·replace c5 := Bool.eq_false_iff.mpr c5
   subst c5
   have H1 : (some 3) = some r := by rw [if_neg (show ¬ (false = true) by decide)] at H; exact H
   clear H
   have H := H1
   clear H1
   obtain rfl := Option.some.inj H
   go_enter Tryz.func88, Tryz.ntmps88
   go_wp2_with (first | ((with_reducible refine qfb (N := 1) rfl ?_); refine qlb ?hg (N := 1) ?hd (cs := #[.string a0_0, .string a0_1, .string a0_2, .slice A0_3 l0_3.length c0_3, .slice A0_4 l0_4.length c0_4]) (t := 86) ?hr ?_; (case hd => rfl); (case hg => rfl); (case hr => exact zz6); intro gb241 hg w14 hbox hb; have n0_ := qa.mk (qp zz52 hb); have n1_ := qa.mk (hbox); have n2_ := qa.mk ((by rw [hg]; exact (qo zz52) : w.heap.size ≤ gb241)); have n3_ := qa.mk ((by rw [hg]; exact (qo zz52) : w.heap.size ≤ gb241)); clear HB; have HB := n0_; have BK241 := n1_; have GW241 := n2_; have GE241 := n3_; clear n0_ n1_ n2_ n3_; clear hb hbox hg; have hcz15_0 : w14.cell? ⟨gb241, 0, none⟩ = some (.string a0_0) := (qh BK241.out 0).trans rfl; have hcz15_1 : w14.cell? ⟨gb241, 1, none⟩ = some (.string a0_1) := (qh BK241.out 1).trans rfl; have hcz15_2 : w14.cell? ⟨gb241, 2, none⟩ = some (.string a0_2) := (qh BK241.out 2).trans rfl; have hcz15_3 : w14.cell? ⟨gb241, 3, none⟩ = some (.slice A0_3 l0_3.length c0_3) := (qh BK241.out 3).trans rfl; have hcz15_4 : w14.cell? ⟨gb241, 4, none⟩ = some (.slice A0_4 l0_4.length c0_4) := (qh BK241.out 4).trans rfl; have hfz15_0 := qf BK241.out 0; have hfz15_1 := qf BK241.out 1; have hfz15_2 := qf BK241.out 2; have hfz15_3 := qf BK241.out 3; have hfz15_4 := qf BK241.out 4) | ((with_reducible refine qy (f := 39) rfl ?_); refine qrb (some 8) rfl rfl Tryz.func39 (by kernel_rfl) rfl #[.string a0_0] rfl zz93 ?_; (with_reducible refine (qrc.calls k a0_0 true _ A2.out).mono ?_); rintro e w' ⟨rfl, ⟨nd, rfl⟩⟩; refine ⟨_, rfl, ?_⟩) | ((with_reducible refine qy (f := 40) rfl ?_); refine qrb (some 13) rfl rfl Tryz.func40 (by kernel_rfl) rfl #[.string a0_1] rfl zz93 ?_; (with_reducible refine (qxb.calls a0_1 false _ A4.out).mono ?_); rintro e w' ⟨rfl, ⟨nd, rfl⟩⟩; refine ⟨_, rfl, ?_⟩))
   go_ret
   exact ⟨zz102, zz80⟩
 ·replace c3 := Bool.eq_false_iff.mpr c3
  subst c3
  have H1 : (some 7) = some r := by rw [if_neg (show ¬ (false = true) by decide)] at H; exact H
  clear H
  have H := H1
  clear H1
  obtain rfl := Option.some.inj H
  go_enter Tryz.func88, Tryz.ntmps88
  go_wp2_with (first | ((with_reducible refine qfb (N := 1) rfl ?_); refine qlb ?hg (N := 1) ?hd (cs := #[.string a0_0, .string a0_1, .string a0_2, .slice A0_3 l0_3.length c0_3, .slice A0_4 l0_4.length c0_4]) (t := 86) ?hr ?_; (case hd => rfl); (case hg => rfl); (case hr => exact zz6); intro gb241 hg w16 hbox hb; have n0_ := qa.mk (qp zz52 hb); have n1_ := qa.mk (hbox); have n2_ := qa.mk ((by rw [hg]; exact (qo zz52) : w.heap.size ≤ gb241)); have n3_ := qa.mk ((by rw [hg]; exact (qo zz52) : w.heap.size ≤ gb241)); clear HB; have HB := n0_; have BK241 := n1_; have GW241 := n2_; have GE241 := n3_; clear n0_ n1_ n2_ n3_; clear hb hbox hg; have hcz17_0 : w16.cell? ⟨gb241, 0, none⟩ = some (.string a0_0) := (qh BK241.out 0).trans rfl; have hcz17_1 : w16.cell? ⟨gb241, 1, none⟩ = some (.string a0_1) := (qh BK241.out 1).trans rfl; have hcz17_2 : w16.cell? ⟨gb241, 2, none⟩ = some (.string a0_2) := (qh BK241.out 2).trans rfl; have hcz17_3 : w16.cell? ⟨gb241, 3, none⟩ = some (.slice A0_3 l0_3.length c0_3) := (qh BK241.out 3).trans rfl; have hcz17_4 : w16.cell? ⟨gb241, 4, none⟩ = some (.slice A0_4 l0_4.length c0_4) := (qh BK241.out 4).trans rfl; have hfz17_0 := qf BK241.out 0; have hfz17_1 := qf BK241.out 1; have hfz17_2 := qf BK241.out 2; have hfz17_3 := qf BK241.out 3; have hfz17_4 := qf BK241.out 4) | ((with_reducible refine qy (f := 39) rfl ?_); refine qrb (some 8) rfl rfl Tryz.func39 (by kernel_rfl) rfl #[.string a0_0] rfl zz93 ?_; (with_reducible refine (qrc.calls k a0_0 false _ A2.out).mono ?_); rintro e w' ⟨rfl, ⟨nd, rfl⟩⟩; refine ⟨_, rfl, ?_⟩))
  go_ret
  exact ⟨zz102, zz80⟩
def qmb.kids (v : S86 → Int → Int → List ByteArray → Option (Bool × Int × Int × Int × List ByteArray)) : List S86 → Int → Int → Int → List ByteArray → Option (Bool × Int × Int × Int)
 | [], nu, de, er, _ => some (true, nu, de, er)
 | y :: r, nu, de, _, met => (v y nu de met).bind fun t => if t.1 = true then qmb.kids v r t.2.1 t.2.2.1 t.2.2.2.1 t.2.2.2.2 else some (false, t.2.1, t.2.2.1, t.2.2.2.1)
def qmb.has (met : List ByteArray) (s : ByteArray) : Bool := met.any fun t => t.data.toList == s.data.toList
def qmb.add (met : List ByteArray) (s : ByteArray) : List ByteArray := if s.data.toList = [] then met else met ++ [s]
def qmb.visit : Nat → S86 → Int → Int → Int → List ByteArray → Option (Bool × Int × Int × Int × List ByteArray)
 | 0, _, _, _, _, _ => none
 | k + 1, x, d, nu, de, met =>
  if 0 ≤ nu ∧ nu ≤ 4096 ∧ 0 ≤ d ∧ d ≤ 65 ∧ met.length ≤ 4096 ∧ x.f1.size ≤ 1000000000 then
   (if nu = 4096 then some 12 else if d > 64 then some 11 else vtree_wrong.f k x.f0 x.f1 x.f2 x.f3 x.f4).bind fun e =>
    if e = 0 then
     if qmb.has met x.f1 = true then some (false, nu, mx de d, 10, met)
     else (qmb.kids (fun y a b m => qmb.visit k y (d + 1) a b m) x.f4 (nu + 1) (mx de d) 0 []).bind fun t => some (t.1, t.2.1, t.2.2.1, t.2.2.2, qmb.add met x.f1)
    else some (false, nu, mx de d, e, met)
  else none
def qmb.f (k : Nat) (a0_0 : ByteArray) (a0_1 : ByteArray) (a0_2 : ByteArray) (l0_3 : List S55) (l0_4 : List S86) : Option (Int × Int × Int) :=
 (qmb.visit k ⟨a0_0, a0_1, a0_2, l0_3, l0_4⟩ 1 0 0 []).bind fun t => some (t.2.1, t.2.2.1, t.2.2.2.1)
theorem qmb.kids_mono {v v' : S86 → Int → Int → List ByteArray → Option (Bool × Int × Int × Int × List ByteArray)} (h : ∀ y a b m, LeO (v y a b m) (v' y a b m)) : ∀ (l : List S86) (nu de er : Int) (m : List ByteArray), LeO (qmb.kids v l nu de er m) (qmb.kids v' l nu de er m)
 | [], _, _, _, _ => LeO.refl _
 | y :: r, nu, de, er, m => by
  unfold qmb.kids
  exact LeO.bind (h _ _ _ _) (fun t => LeO.ite (qmb.kids_mono h r _ _ _ _) (LeO.refl _))
theorem qmb.visit_mono : ∀ (k : Nat) (x : S86) (d nu de : Int) (m : List ByteArray), LeO (qmb.visit k x d nu de m) (qmb.visit (k + 1) x d nu de m)
 | 0, _, _, _, _, _ => LeO.none _
 | k + 1, x, d, nu, de, m => by
  unfold qmb.visit
  exact LeO.ite (LeO.bind (LeO.ite (LeO.refl _) (LeO.ite (LeO.refl _) (vtree_wrong.mono _ _ _ _ _ _))) (fun e => LeO.ite (LeO.ite (LeO.refl _) (LeO.bind (qmb.kids_mono (fun y a b q => qmb.visit_mono k y (d + 1) a b q) _ _ _ _ _) (fun _ => LeO.refl _))) (LeO.refl _))) (LeO.refl _)
theorem qmb.mono : ∀ a0 a1 a2 a3 a4 k, LeO (qmb.f k a0 a1 a2 a3 a4) (qmb.f (k + 1) a0 a1 a2 a3 a4) := fun _ _ _ _ _ k => LeO.bind (qmb.visit_mono k _ _ _ _ _) (fun _ => LeO.refl _)
def mset (met : List ByteArray) : DataW Unit := Maps.setOf (.agg []) (met.map fun s => Lit.string s.data.toList)
def OM (W : World) (b : Nat) (met : List ByteArray) : Prop := W.ownsMap Tryz.prog 9 (unitElem (H := Unit)) b met.length (mset met)
theorem OM.frame {W W1 : World} {b : Nat} {met : List ByteArray} (h : OM W b met) (e : W1.heap[b]? = W.heap[b]?) : OM W1 b met := by
 obtain ⟨es, clock, hb, r⟩ := h
 exact ⟨es, clock, e.trans hb, r⟩
theorem OM.ne {W : World} {b g : Nat} {met : List ByteArray} {cs : Array Value} {t : TypeId} (h : OM W b met) (hg : W.heap[g]? = some (.cells cs t (0, 0))) : b ≠ g := by
 obtain ⟨es, clock, hb, r⟩ := h
 rintro rfl
 rw [hb] at hg
 cases hg
theorem OM.has (met : List ByteArray) (s : ByteArray) : Maps.has (mset met) (.string s.data.toList) = qmb.has met s := by
 unfold mset
 rw [Maps.has_setOf]
 ·simp only [List.any_map, qmb.has]
  rfl
 ·intro x hx
  obtain ⟨t, _, rfl⟩ := List.mem_map.1 hx
  trivial
theorem OM.put (met : List ByteArray) (s : ByteArray) : (mset met).put (.string s.data.toList) (.agg []) = mset (met ++ [s]) := by
 unfold mset
 rw [List.map_append, List.map_cons, List.map_nil, Maps.setOf_snoc]
def vfn (bl bv : Nat) : Value := .func (.func 87) #[] #[.pointer (some ⟨bl, 0, none⟩), .pointer (some ⟨bv, 0, none⟩)]
structure VS (w0 w : World) (bl bv bm : Nat) (nu de er : Int) (met : List ByteArray) (W : World) : Prop where
 hl : W.heap[bl]? = some (.cells #[.int .i64 nu, .int .i64 de, .int .i64 er] 124 (0, 0))
 hv : W.heap[bv]? = some (.cells #[vfn bl bv] 130 (0, 0))
 hm : OM W bm met
 gl : w0.heap.size ≤ bl
 gm : w0.heap.size ≤ bm
 hb : Below w0.heap.size w0 W
 hk : KeepBut w W bl (some bm)
section
variable {w0 w W W1 : World} {bl bv bm : Nat} {nu de er : Int} {met : List ByteArray}
theorem VS.ne (h : VS w0 w bl bv bm nu de er met W) : bl ≠ bv ∧ bm ≠ bl ∧ bm ≠ bv := ⟨blk_ne h.hl h.hv (by decide), h.hm.ne h.hl, h.hm.ne h.hv⟩
theorem VS.lt (h : VS w0 w bl bv bm nu de er met W) : bl < W.heap.size ∧ bv < W.heap.size ∧ bm < W.heap.size := ⟨qbc h.hl, qbc h.hv, h.hm.lt⟩
theorem VS.below (h : VS w0 w bl bv bm nu de er met W) (hb : Below W.heap.size W W1) : VS w0 w bl bv bm nu de er met W1 :=
 ⟨qnb h.hl hb, qnb h.hv hb, h.hm.frame (hb.block _ h.lt.2.2), h.gl, h.gm, below_then h.hb h.hb.size hb, h.hk.trans (KeepBut.of_below hb bl (some bm)) (.inl rfl)⟩
theorem VS.put (h : VS w0 w bl bv bm nu de er met W) (j : Nat) (u : Value) {nu1 de1 er1 : Int} (e : #[Value.int .i64 nu, .int .i64 de, .int .i64 er].setIfInBounds j u = #[Value.int .i64 nu1, .int .i64 de1, .int .i64 er1]) : VS w0 w bl bv bm nu1 de1 er1 met (W.setCell ⟨bl, j, none⟩ u) :=
 ⟨qr h.hl j u e, qqb h.hv (Ne.symm h.ne.1) _, h.hm.frame (Below.heap_setCell W _ _ _ h.ne.2.1), h.gl, h.gm, h.hb.setCell h.gl _, h.hk.set_ j u⟩
theorem VS.set0 (h : VS w0 w bl bv bm nu de er met W) (x : Int) : VS w0 w bl bv bm x de er met (W.setCell ⟨bl, 0, none⟩ (.int .i64 x)) := h.put 0 _ rfl
theorem VS.set1 (h : VS w0 w bl bv bm nu de er met W) (x : Int) : VS w0 w bl bv bm nu x er met (W.setCell ⟨bl, 1, none⟩ (.int .i64 x)) := h.put 1 _ rfl
theorem VS.set2 (h : VS w0 w bl bv bm nu de er met W) (x : Int) : VS w0 w bl bv bm nu de x met (W.setCell ⟨bl, 2, none⟩ (.int .i64 x)) := h.put 2 _ rfl
theorem VS.map (h : VS w0 w bl bv bm nu de er met W) {met1 : List ByteArray} (hm : OM W1 bm met1) (hg : W.grownBy W1 (some bm)) : VS w0 w bl bv bm nu de er met1 W1 :=
 ⟨blk_grown h.hl hg (fun e => h.ne.2.1 (Option.some.inj e).symm), blk_grown h.hv hg (fun e => h.ne.2.2 (Option.some.inj e).symm), hm, h.gl, h.gm, h.hb.grown hg h.hb.size (fun k e => by cases e; exact h.gm), h.hk.trans (KeepBut.of_grown hg bl) (.inl rfl)⟩
theorem VS.look (h : VS w0 w bl bv bm nu de er met W) : W.cell? ⟨bl, 0, none⟩ = some (.int .i64 nu) ∧ W.cell? ⟨bl, 1, none⟩ = some (.int .i64 de) ∧ W.cell? ⟨bl, 2, none⟩ = some (.int .i64 er) ∧ W.cell? ⟨bv, 0, none⟩ = some (vfn bl bv) ∧ W.frozen? ⟨bl, 0, none⟩ = false ∧ W.frozen? ⟨bl, 1, none⟩ = false ∧ W.frozen? ⟨bl, 2, none⟩ = false :=
 ⟨(qh h.hl 0).trans rfl, (qh h.hl 1).trans rfl, (qh h.hl 2).trans rfl, (qh h.hv 0).trans rfl, qf h.hl 0, qf h.hl 1, qf h.hl 2⟩
end
structure VX (w0 w : World) (bl bv bm : Nat) (nu de er : Int) (met : List ByteArray) (x : S86) (A3 : Option Addr) (c3 : Nat) (A4 : Option Addr) (c4 : Nat) (W : World) : Prop where
 vs : VS w0 w bl bv bm nu de er met W
 hx : W.heap[w.heap.size]? = some (.cells #[.string x.f0, .string x.f1, .string x.f2, .slice A3 x.f3.length c3, .slice A4 x.f4.length c4] 86 (0, 0))
section
variable {w0 w W W1 : World} {bl bv bm : Nat} {nu de er : Int} {met : List ByteArray} {x : S86} {A3 A4 : Option Addr} {c3 c4 : Nat}
theorem VX.below (h : VX w0 w bl bv bm nu de er met x A3 c3 A4 c4 W) (hb : Below W.heap.size W W1) : VX w0 w bl bv bm nu de er met x A3 c3 A4 c4 W1 := ⟨h.vs.below hb, qnb h.hx hb⟩
theorem VX.ne (h : VX w0 w bl bv bm nu de er met x A3 c3 A4 c4 W) : w.heap.size ≠ bl := blk_ne h.hx h.vs.hl (by decide)
theorem VX.set0 (h : VX w0 w bl bv bm nu de er met x A3 c3 A4 c4 W) (y : Int) : VX w0 w bl bv bm y de er met x A3 c3 A4 c4 (W.setCell ⟨bl, 0, none⟩ (.int .i64 y)) := ⟨h.vs.set0 y, qqb h.hx h.ne _⟩
theorem VX.set1 (h : VX w0 w bl bv bm nu de er met x A3 c3 A4 c4 W) (y : Int) : VX w0 w bl bv bm nu y er met x A3 c3 A4 c4 (W.setCell ⟨bl, 1, none⟩ (.int .i64 y)) := ⟨h.vs.set1 y, qqb h.hx h.ne _⟩
theorem VX.set2 (h : VX w0 w bl bv bm nu de er met x A3 c3 A4 c4 W) (y : Int) : VX w0 w bl bv bm nu de y met x A3 c3 A4 c4 (W.setCell ⟨bl, 2, none⟩ (.int .i64 y)) := ⟨h.vs.set2 y, qqb h.hx h.ne _⟩
theorem VX.map (h : VX w0 w bl bv bm nu de er met x A3 c3 A4 c4 W) {met1 : List ByteArray} (hm : OM W1 bm met1) (hg : W.grownBy W1 (some bm)) : VX w0 w bl bv bm nu de er met1 x A3 c3 A4 c4 W1 :=
 ⟨h.vs.map hm hg, blk_grown h.hx hg (fun e => h.vs.hm.ne h.hx (Option.some.inj e).symm)⟩
theorem VX.look (h : VX w0 w bl bv bm nu de er met x A3 c3 A4 c4 W) : W.cell? ⟨w.heap.size, 0, none⟩ = some (.string x.f0) ∧ W.cell? ⟨w.heap.size, 1, none⟩ = some (.string x.f1) ∧ W.cell? ⟨w.heap.size, 2, none⟩ = some (.string x.f2) ∧ W.cell? ⟨w.heap.size, 3, none⟩ = some (.slice A3 x.f3.length c3) ∧ W.cell? ⟨w.heap.size, 4, none⟩ = some (.slice A4 x.f4.length c4) :=
 ⟨(qh h.hx 0).trans rfl, (qh h.hx 1).trans rfl, (qh h.hx 2).trans rfl, (qh h.hx 3).trans rfl, (qh h.hx 4).trans rfl⟩
theorem VX.fresh (h : VX w0 w bl bv bm nu de er met x A3 c3 A4 c4 W) {bn : Nat} {mm : List ByteArray} (hn : bm < w.heap.size ∧ w.heap.size < bn) (hm : OM W bn mm) : VS w0 W bl bv bn nu de er mm W :=
 ⟨h.vs.hl, h.vs.hv, hm, h.vs.gl, by have := h.vs.gm; omega, h.vs.hb, KeepBut.refl _ _ _⟩
theorem VX.call (h : VX w0 w bl bv bm nu de er met x A3 c3 A4 c4 W) {bn : Nat} {nu2 de2 er2 : Int} {mm : List ByteArray} (hn : bm < w.heap.size ∧ w.heap.size < bn) (h2 : VS w0 W bl bv bn nu2 de2 er2 mm W1) : VX w0 w bl bv bm nu2 de2 er2 met x A3 c3 A4 c4 W1 :=
 ⟨⟨h2.hl, h2.hv, h.vs.hm.frame (h2.hk.2 bm h.vs.lt.2.2 h.vs.ne.2.1 (fun e => by have := Option.some.inj e; omega)), h.vs.gl, h.vs.gm, h2.hb, h.vs.hk.trans h2.hk (.inr ⟨bn, rfl, by omega⟩)⟩, h2.hk.blk h.hx h.ne (fun e => by have := Option.some.inj e; omega)⟩
end
set_option maxHeartbeats 8000000 in
set_option maxRecDepth 100000 in
theorem qmb.visit_calls (bl bv : Nat) (w0 : World) : ∀ (k : Nat) (x : S86) (A3 : Option Addr) (c3 : Nat) (A4 : Option Addr) (c4 : Nat) (d nu de er : Int) (met : List ByteArray) (bm : Nat) (b : Bool) (nu1 de1 er1 : Int) (met1 : List ByteArray) (w : World),
  Kd.C k55 w0 A3 x.f3.length x.f3 → x.f3.length ≤ c3 → Kd.C k86 w0 A4 x.f4.length x.f4 → x.f4.length ≤ c4 → VS w0 w bl bv bm nu de er met w → qmb.visit k x d nu de met = some (b, nu1, de1, er1, met1) →
  Calls Tryz.prog 87 #[.agg #[.string x.f0, .string x.f1, .string x.f2, .slice A3 x.f3.length c3, .slice A4 x.f4.length c4], .int .i64 d, .map (some bm), .pointer (some ⟨bl, 0, none⟩), .pointer (some ⟨bv, 0, none⟩)] w fun e w' => e = .returned (.bool b) ∧ VS w0 w bl bv bm nu1 de1 er1 met1 w' := by
 intro k
 induction k with
 | zero => intro x A3 c3 A4 c4 d nu de er met bm b nu1 de1 er1 met1 w _ _ _ _ _ h; cases h
 | succ k ih =>
  intro x A3 c3 A4 c4 d nu de er met bm b nu1 de1 er1 met1 w hr3 hc3 hr4 hc4 hvs h
  obtain ⟨x0, x1, x2, x3, x4⟩ := x
  dsimp only at *
  unfold qmb.visit at h
  dsimp only at h
  by_cases hg : 0 ≤ nu ∧ nu ≤ 4096 ∧ 0 ≤ d ∧ d ≤ 65 ∧ met.length ≤ 4096 ∧ x1.size ≤ 1000000000
  rotate_left
  ·rw [if_neg hg] at h
   cases h
  rw [if_pos hg] at h
  obtain ⟨hnu0, hnu1, hd0, hd1, hml, hxs⟩ := hg
  obtain ⟨e, he, h2⟩ := Option.bind_eq_some_iff.1 h
  have IH := qa.mk ih
  have HR3 := qa.mk (And.intro hr3 hc3)
  have HR4 := qa.mk (And.intro hr4 hc4)
  have HVS := qa.mk hvs
  have HE := qa.mk he
  have HH := qa.mk h2
  have HXS := qa.mk (And.intro hml hxs)
  clear ih hr3 hc3 hr4 hc4 hvs he h h2 hml hxs
  have hu86 := Tryz.underlying86
  have hu124 := Tryz.underlying124
  have HX0 := qa.mk (show VX w0 w bl bv bm nu de er met ⟨x0, x1, x2, x3, x4⟩ A3 c3 A4 c4 (w.alloc (.cells #[.string x0, .string x1, .string x2, .slice A3 x3.length c3, .slice A4 x4.length c4] 86)) from ⟨HVS.out.below (qc (Below.refl _ _) _), blk_new _ _⟩)
  obtain ⟨hp0, hp1, hp2, hp3, hp4, hp5, hp6⟩ := HX0.out.vs.look
  obtain ⟨hq0, hq1, hq2, hq3, hq4⟩ := HX0.out.look
  go_enter Tryz.func87, Tryz.ntmps87
  go_upto_block 0 with fail
  have HX1 := qa.mk (HX0.out.set1 (mx de d))
  have HBM := qa.mk HVS.out.lt.2.2
  clear hp0 hp1 hp2 hp3 hp4 hp5 hp6 hq0 hq1 hq2 hq3 hq4 HX0 HVS
  unfold mx at HX1 HH
  generalize (if de < d then d else de) = de2 at *
  generalize ((w.alloc (.cells #[.string x0, .string x1, .string x2, .slice A3 x3.length c3, .slice A4 x4.length c4] 86)).setCell ⟨bl, 1, none⟩ (.int .i64 de2)) = w1 at *
  obtain ⟨hp0, hp1, hp2, hp3, hp4, hp5, hp6⟩ := HX1.out.vs.look
  obtain ⟨hq0, hq1, hq2, hq3, hq4⟩ := HX1.out.look
  go_cut [] (fun wc => qa (VX w0 w bl bv bm nu de2 e met ⟨x0, x1, x2, x3, x4⟩ A3 c3 A4 c4 wc))
  case first =>
   have he := HE.out
   clear HE HH
   by_cases h1 : nu = 4096
   ·rw [if_pos h1] at he
    obtain rfl := Option.some.inj he
    subst h1
    go_wp2_with fail
    go_meet
    exact ⟨HX1.out.set2 12⟩
   ·rw [if_neg h1] at he
    have h1b : (nu == 4096) = false := by simpa using h1
    by_cases h2 : d > 64
    ·rw [if_pos h2] at he
     obtain rfl := Option.some.inj he
     go_wp2_with fail
     go_meet
     exact ⟨HX1.out.set2 11⟩
    ·rw [if_neg h2] at he
     have HE := qa.mk he
     clear he
     go_wp2_with (go_at_call 88; refine (vtree_wrong.calls k _ _ _ _ _ _ _ _ _ _ _ (Kd.C_below HR3.out.1 HX1.out.vs.hb) HR3.out.2 (Kd.C_below HR4.out.1 HX1.out.vs.hb) HR4.out.2 HE.out).mono ?_; rintro e2 w2 ⟨rfl, hb2⟩; have HX2 := qa.mk (HX1.out.below hb2); obtain ⟨hr0, hr1, hr2, hr3, hr4, hr5, hr6⟩ := HX2.out.vs.look; clear hb2)
     go_meet
     exact ⟨HX2.out.set2 e⟩
  case rest =>
   clear hp0 hp1 hp2 hp3 hp4 hp5 hp6 hq0 hq1 hq2 hq3 hq4 HX1 HE
   have HX1 := hcut
   clear hcut
   obtain ⟨hp0, hp1, hp2, hp3, hp4, hp5, hp6⟩ := HX1.out.vs.look
   obtain ⟨hq0, hq1, hq2, hq3, hq4⟩ := HX1.out.look
   have hz : ∀ w, (zeroValue 133).run Tryz.prog w = .ok (.agg #[]) w := fun w => by kernel_rfl
   have hlen : x1.size ≤ maxLen := by have := HXS.out.2; unfold maxLen; omega
   have HLEN := qa.mk hlen
   have HZ := qa.mk hz
   clear hz hlen
   go_upto_region 8 with (at_lookup; refine wpList_lookup_own_unit _ rfl _ _ 131 rfl 9 133 (Maps.string_keyed Tryz.underlying9) Tryz.underlying131 (HZ.out _) bm _ (mset met) rfl HX1.out.vs.hm _ (.string x1.data.toList) rfl (WideMaps.keyOf_string_mk Tryz.underlying9 HLEN.out) ?_)
   have HHAS := qa.mk (OM.has met x1)
   have HX2 := qa.mk (HX1.out.below (qc (Below.refl _ _) (.cells #[] 133)))
   clear hp0 hp1 hp2 hp3 hp4 hp5 hp6 hq0 hq1 hq2 hq3 hq4 HX1 HZ HLEN
   generalize wc.alloc (.cells #[] 133) = w2 at *
   generalize Maps.has (mset met) (.string x1.data.toList) = hs at *
   obtain ⟨hp0, hp1, hp2, hp3, hp4, hp5, hp6⟩ := HX2.out.vs.look
   obtain ⟨hq0, hq1, hq2, hq3, hq4⟩ := HX2.out.look
   have hh := HH.out
   rw [← HHAS.out] at hh
   clear HHAS HH
   by_cases he0 : e = 0
   rotate_left
   ·rw [if_neg he0] at hh
    simp only [Option.some.injEq, Prod.mk.injEq] at hh
    obtain ⟨rfl, rfl, rfl, rfl, rfl⟩ := hh
    have heb : (e == 0) = false := by simpa using he0
    have hen : (e != 0) = true := by simpa using he0
    go_wp2_with fail
    go_ret
    exact ⟨rfl, HX2.out.vs⟩
   subst he0
   rw [if_pos rfl] at hh
   cases hs
   rotate_left
   ·rw [if_pos rfl] at hh
    simp only [Option.some.injEq, Prod.mk.injEq] at hh
    obtain ⟨rfl, rfl, rfl, rfl, rfl⟩ := hh
    go_wp2_with fail
    go_ret
    exact ⟨rfl, (HX2.out.set2 10).vs⟩
   rw [if_neg Bool.false_ne_true] at hh
   obtain ⟨⟨tb, tn, td, te⟩, htk, hq⟩ := Option.bind_eq_some_iff.1 hh
   clear hh
   dsimp only at hq
   simp only [Option.some.injEq, Prod.mk.injEq] at hq
   obtain ⟨rfl, rfl, rfl, rfl, rfl⟩ := hq
   have HTK := qa.mk htk
   clear htk
   go_upto_if 50 with fail
   go_cut [] (fun wc => qa (VX w0 w bl bv bm nu de2 0 (qmb.add met x1) ⟨x0, x1, x2, x3, x4⟩ A3 c3 A4 c4 wc))
   case first =>
    clear hp0 hp1 hp2 hp3 hp4 hp5 hp6 HTK IH
    have HEM := qa.mk (show x1.toList.isEmpty = x1.data.toList.isEmpty by rw [Lib.toList_data])
    have HLEN := qa.mk (show x1.size ≤ maxLen by have := HXS.out.2; unfold maxLen; omega)
    have HLM := qa.mk (show met.length < maxLen by have := HXS.out.1; unfold maxLen; omega)
    generalize x1.toList.isEmpty = em at *
    cases em
    ·have hk : ¬ x1.data.toList = [] := by have := HEM.out; intro h; rw [h] at this; cases this
     go_wp2_with (at_mapUpdate; refine wpList_mapUpdate_own _ rfl _ _ _ 131 rfl 9 133 (Maps.string_keyed Tryz.underlying9) Tryz.underlying131 (unitElem (H := Unit)) bm met.length (mset met) rfl HX2.out.vs.hm HLM.out _ _ (.string x1.data.toList) rfl rfl (WideMaps.keyOf_string_mk Tryz.underlying9 HLEN.out) (.agg []) [] unitElem_mk ?_; intro w3 hown3 hgrow3)
     go_meet
     refine ⟨?_⟩
     unfold qmb.add
     rw [if_neg hk]
     rw [OM.put] at hown3
     exact HX2.out.map (by unfold OM; rw [List.length_append]; exact hown3) hgrow3
    ·have hk : x1.data.toList = [] := by have := HEM.out; rw [eq_comm, List.isEmpty_iff] at this; exact this
     go_wp2_with fail
     go_meet
     refine ⟨?_⟩
     unfold qmb.add
     rw [if_pos hk]
     exact HX2.out
   case rest =>
    clear hp0 hp1 hp2 hp3 hp4 hp5 hp6 hq0 hq1 hq2 hq3 hq4 HX2 HXS
    have HX3 := hcut
    clear hcut
    obtain ⟨hp0, hp1, hp2, hp3, hp4, hp5, hp6⟩ := HX3.out.vs.look
    obtain ⟨hq0, hq1, hq2, hq3, hq4⟩ := HX3.out.look
    go_upto_region 15 with fail
    have HX4 := qa.mk (HX3.out.set0 (nu + 1))
    clear hp0 hp1 hp2 hp3 hp4 hp5 hp6 hq0 hq1 hq2 hq3 hq4 HX3
    generalize wc.setCell ⟨bl, 0, none⟩ (.int .i64 (nu + 1)) = w4 at *
    have hmm := @run_makeMap Tryz.prog
    go_upto_region 16 with fail
    have HM5 := qa.mk (show OM (w4.alloc (.map #[] 0)) w4.heap.size [] from World.ownsMap_made _ _ _ _)
    have HX5 := qa.mk (HX4.out.below (qc (Below.refl _ _) (.map #[] 0)))
    have HLT := qa.mk (And.intro HBM.out (show w.heap.size < w4.heap.size from qbc HX4.out.hx))
    generalize w4.alloc (.map #[] 0) = w5 at *
    generalize w4.heap.size = bn at *
    clear HX4 hmm
    obtain ⟨hq0, hq1, hq2, hq3, hq4⟩ := HX5.out.look
    go_wp2_with fail
    clear hq0 hq1 hq2 hq3 hq4
    have hlx := Kd.C_max HR4.out.1
    go_loopg [63] (x4.length + 1) (fun kq v63 w' => ∃ (i : Nat) (nn dd ee : Int) (mm : List ByteArray), v63 = .int .i64 (i : Int) ∧ qa (i ≤ x4.length ∧ kq = x4.length + 1 - i) ∧ qa (qmb.kids (fun y a b m => qmb.visit k y (d + 1) a b m) (x4.drop i) nn dd ee mm = some (tb, tn, td, te)) ∧ qa (VX w0 w bl bv bm nn dd ee (qmb.add met x1) ⟨x0, x1, x2, x3, x4⟩ A3 c3 A4 c4 w' ∧ OM w' bn mm))
    case atStart => exact ⟨0, _, _, _, _, rfl, ⟨Nat.zero_le _, rfl⟩, HTK, ⟨HX5.out, HM5.out⟩⟩
    case round =>
     clear HX5 HM5 HTK
     obtain ⟨i, nn, dd, ee, mm, rfl, HK, HKD, HXM⟩ := hrel
     obtain ⟨hk1, hk2⟩ := HK.out
     clear HK
     subst hk2
     by_cases hi : i < x4.length
     ·obtain ⟨ad, B3, e3, B4, e4, eA, hy0, hy1, hy2, hy3, hy4, hl3, hg3, hl4, hg4⟩ := at_T86 HR4.out.1 (i : Int) (by omega) (by omega)
      cases eA
      replace hy0 := (HXM.out.1.vs.hb.cell (qwc w0 _ hy0)).trans hy0
      replace hy1 := (HXM.out.1.vs.hb.cell (qwc w0 _ hy1)).trans hy1
      replace hy2 := (HXM.out.1.vs.hb.cell (qwc w0 _ hy2)).trans hy2
      replace hy3 := (HXM.out.1.vs.hb.cell (qwc w0 _ hy3)).trans hy3
      replace hy4 := (HXM.out.1.vs.hb.cell (qwc w0 _ hy4)).trans hy4
      rw [Int.toNat_natCast] at hy0 hy1 hy2 hy3 hy4
      have hkd := HKD.out
      have hdr : x4.drop i = rd_T86 x4 (i : Int) :: x4.drop (i + 1) := by
       rw [List.drop_eq_getElem_cons hi]
       unfold rd_T86
       rw [Int.toNat_natCast, List.getD_eq_getElem?_getD, List.getElem?_eq_getElem hi]
       rfl
      rw [hdr] at hkd
      have HG3 := qa.mk (And.intro hg3 hl3)
      have HG4 := qa.mk (And.intro hg4 hl4)
      clear hdr HKD hg3 hl3 hg4 hl4
      generalize rd_T86 x4 (i : Int) = y at *
      obtain ⟨y0, y1, y2, y3, y4⟩ := y
      dsimp only at *
      unfold qmb.kids at hkd
      obtain ⟨⟨vb, vn, vd, ve, vm⟩, hvis, hkd2⟩ := Option.bind_eq_some_iff.1 hkd
      dsimp only at hkd2
      have HVIS := qa.mk hvis
      have HKD := qa.mk hkd2
      clear hvis hkd hkd2
      have HX6 := qa.mk (HXM.out.1.below (qc (Below.refl _ _) (.cells #[.string y0, .string y1, .string y2, .slice B3 y3.length e3, .slice B4 y4.length e4] 86)))
      have HM6 := qa.mk (HXM.out.2.frame (Below.heap_alloc wr (.cells #[.string y0, .string y1, .string y2, .slice B3 y3.length e3, .slice B4 y4.length e4] 86) bn HXM.out.2.lt))
      have hil : (i : Int) < (x4.length : Int) := by omega
      go_upto_region 19 with fail
      have HZ := qa.mk (blk_new wr (.cells #[.string y0, .string y1, .string y2, .slice B3 y3.length e3, .slice B4 y4.length e4] 86))
      clear hy0 hy1 hy2 hy3 hy4 HXM
      generalize wr.alloc (.cells #[.string y0, .string y1, .string y2, .slice B3 y3.length e3, .slice B4 y4.length e4] 86) = w6 at *
      have hz0 : _ = some (Value.string y0) := qh HZ.out 0
      have hz1 : _ = some (Value.string y1) := qh HZ.out 1
      have hz2 : _ = some (Value.string y2) := qh HZ.out 2
      have hz3 : _ = some (Value.slice B3 y3.length e3) := qh HZ.out 3
      have hz4 : _ = some (Value.slice B4 y4.length e4) := qh HZ.out 4
      have hfv : w6.cell? ⟨bv, 0, none⟩ = some (.func (.func 87) #[] #[.pointer (some ⟨bl, 0, none⟩), .pointer (some ⟨bv, 0, none⟩)]) := HX6.out.vs.look.2.2.2.1
      have hcall := IH.out ⟨y0, y1, y2, y3, y4⟩ B3 e3 B4 e4 (d + 1) nn dd ee mm bn vb vn vd ve vm w6 HG3.out.1 HG3.out.2 HG4.out.1 HG4.out.2 (HX6.out.fresh HLT.out HM6.out) HVIS.out
      dsimp only at hcall
      have HCALL := qa.mk hcall
      clear hcall
      cases vb
      ·go_wp2_with (go_at_call 87; go_loud (refine HCALL.out.mono ?_); rintro e w7 ⟨rfl, hvs7⟩; have HVS7 := qa.mk hvs7; clear hvs7)
       have hkd := HKD.out
       rw [if_neg Bool.false_ne_true] at hkd
       simp only [Option.some.injEq, Prod.mk.injEq] at hkd
       obtain ⟨rfl, rfl, rfl, rfl⟩ := hkd
       go_ret
       exact ⟨rfl, (HX6.out.call HLT.out HVS7.out).vs⟩
      ·go_wp2_with (go_at_call 87; refine HCALL.out.mono ?_; rintro e w7 ⟨rfl, hvs7⟩; have HVS7 := qa.mk hvs7; clear hvs7)
       go_roundg (x4.length + 1 - (i + 1))
       case measure => omega
       case rel =>
        have hkd := HKD.out
        simp only [if_true] at hkd
        exact ⟨i + 1, _, _, _, _, by go_num, ⟨by omega, rfl⟩, ⟨hkd⟩, ⟨HX6.out.call HLT.out HVS7.out, HVS7.out.hm⟩⟩
     ·have hie : i = x4.length := by omega
      subst hie
      have hkd := HKD.out
      rw [List.drop_eq_nil_of_le (Nat.le_refl _)] at hkd
      unfold qmb.kids at hkd
      simp only [Option.some.injEq, Prod.mk.injEq] at hkd
      obtain ⟨rfl, rfl, rfl, rfl⟩ := hkd
      go_wp2_with fail
      go_ret
      exact ⟨rfl, HXM.out.1.vs⟩
set_option maxHeartbeats 8000000 in
set_option maxRecDepth 100000 in
theorem qmb.calls (k : Nat) (a0_0 : ByteArray) (a0_1 : ByteArray) (a0_2 : ByteArray) (A0_3 : Option Addr) (c0_3 : Nat) (l0_3 : List S55) (A0_4 : Option Addr) (c0_4 : Nat) (l0_4 : List S86) (r1 : Int) (r2 : Int) (r3 : Int) (w : World) (hr0_3 : Kd.C k55 w A0_3 l0_3.length l0_3) (hc0_3 : l0_3.length ≤ c0_3) (hr0_4 : Kd.C k86 w A0_4 l0_4.length l0_4) (hc0_4 : l0_4.length ≤ c0_4) (h : qmb.f k a0_0 a0_1 a0_2 l0_3 l0_4 = some (r1, r2, r3)) :
  Calls Tryz.prog 80 #[.agg #[.string a0_0, .string a0_1, .string a0_2, .slice A0_3 l0_3.length c0_3, .slice A0_4 l0_4.length c0_4]] w fun e w' => e = .returned (.agg #[.int .i64 r1, .int .i64 r2, .int .i64 r3]) ∧ Below w.heap.size w w' := by
 obtain ⟨⟨vb, vn, vd, ve, vm⟩, hv, hq⟩ := Option.bind_eq_some_iff.1 h
 simp only [Option.some.injEq, Prod.mk.injEq] at hq
 obtain ⟨rfl, rfl, rfl⟩ := hq
 have HV := qa.mk hv
 have HR3 := qa.mk (And.intro hr0_3 hc0_3)
 have HR4 := qa.mk (And.intro hr0_4 hc0_4)
 clear h hv hr0_3 hc0_3 hr0_4 hc0_4
 have hu86 := Tryz.underlying86
 have hu124 := Tryz.underlying124
 have hmm := @run_makeMap Tryz.prog
 go_enter Tryz.func80, Tryz.ntmps80
 have hst := fun (w : World) (a : Addr) (fn : Fn) (first captured : Array Value) (m : Mode) => run_store Tryz.prog w a (.func fn first captured) m rfl
 go_upto_region 4 with fail
 have z1 : ∀ (W : World) (ob : Obj), (W.alloc ob).heap.size = W.heap.size + 1 := fun W ob => by simp
 have eX := qj (qj (qj (blk_new w (.cells #[.string a0_0, .string a0_1, .string a0_2, .slice A0_3 l0_3.length c0_3, .slice A0_4 l0_4.length c0_4] 86)) (.cells #[.int .i64 0, .int .i64 0, .int .i64 0] 124)) (.cells #[.int .i64 0, .int .i64 0, .int .i64 0] 124)) (.cells #[vfn (w.heap.size + 1 + 1) (w.heap.size + 1 + 1 + 1)] 130)
 have eR := qj (qj (blk_new (w.alloc (.cells #[.string a0_0, .string a0_1, .string a0_2, .slice A0_3 l0_3.length c0_3, .slice A0_4 l0_4.length c0_4] 86)) (.cells #[.int .i64 0, .int .i64 0, .int .i64 0] 124)) (.cells #[.int .i64 0, .int .i64 0, .int .i64 0] 124)) (.cells #[vfn (w.heap.size + 1 + 1) (w.heap.size + 1 + 1 + 1)] 130)
 have eL := qj (blk_new ((w.alloc (.cells #[.string a0_0, .string a0_1, .string a0_2, .slice A0_3 l0_3.length c0_3, .slice A0_4 l0_4.length c0_4] 86)).alloc (.cells #[.int .i64 0, .int .i64 0, .int .i64 0] 124)) (.cells #[.int .i64 0, .int .i64 0, .int .i64 0] 124)) (.cells #[vfn (w.heap.size + 1 + 1) (w.heap.size + 1 + 1 + 1)] 130)
 have eV := blk_new (((w.alloc (.cells #[.string a0_0, .string a0_1, .string a0_2, .slice A0_3 l0_3.length c0_3, .slice A0_4 l0_4.length c0_4] 86)).alloc (.cells #[.int .i64 0, .int .i64 0, .int .i64 0] 124)).alloc (.cells #[.int .i64 0, .int .i64 0, .int .i64 0] 124)) (.cells #[vfn (w.heap.size + 1 + 1) (w.heap.size + 1 + 1 + 1)] 130)
 have eB := qc (qc (qc (qc (Below.refl w.heap.size w) (.cells #[.string a0_0, .string a0_1, .string a0_2, .slice A0_3 l0_3.length c0_3, .slice A0_4 l0_4.length c0_4] 86)) (.cells #[.int .i64 0, .int .i64 0, .int .i64 0] 124)) (.cells #[.int .i64 0, .int .i64 0, .int .i64 0] 124)) (.cells #[vfn (w.heap.size + 1 + 1) (w.heap.size + 1 + 1 + 1)] 130)
 rw [z1] at eR
 rw [z1, z1] at eL
 rw [z1, z1, z1] at eV
 unfold vfn at eX eR eL eV eB
 generalize ((((w.alloc (.cells #[.string a0_0, .string a0_1, .string a0_2, .slice A0_3 l0_3.length c0_3, .slice A0_4 l0_4.length c0_4] 86)).alloc (.cells #[.int .i64 0, .int .i64 0, .int .i64 0] 124)).alloc (.cells #[.int .i64 0, .int .i64 0, .int .i64 0] 124)).alloc (.cells #[.func (.func 87) #[] #[.pointer (some ⟨w.heap.size + 1 + 1, 0, none⟩), .pointer (some ⟨w.heap.size + 1 + 1 + 1, 0, none⟩)]] 130)) = W at *
 clear z1
 have hx0 : _ = some (Value.string a0_0) := qh eX 0
 have hx1 : _ = some (Value.string a0_1) := qh eX 1
 have hx2 : _ = some (Value.string a0_2) := qh eX 2
 have hx3 : _ = some (Value.slice A0_3 l0_3.length c0_3) := qh eX 3
 have hx4 : _ = some (Value.slice A0_4 l0_4.length c0_4) := qh eX 4
 have hv0 : _ = some (Value.func (.func 87) #[] #[.pointer (some ⟨w.heap.size + 1 + 1, 0, none⟩), .pointer (some ⟨w.heap.size + 1 + 1 + 1, 0, none⟩)]) := qh eV 0
 have HVS := qa.mk (show VS w (W.alloc (.map #[] 0)) (w.heap.size + 1 + 1) (w.heap.size + 1 + 1 + 1) W.heap.size 0 0 0 [] (W.alloc (.map #[] 0)) from
  ⟨qj eL _, qj eV _, World.ownsMap_made _ _ _ _, by omega, eB.size, qc eB _, KeepBut.refl _ _ _⟩)
 have ER := qa.mk (And.intro (qj eR (.map #[] 0)) (qbc eR))
 clear eX eR eL eV eB
 go_upto_region 5 with (go_at_call 87; refine (qmb.visit_calls _ _ w k ⟨a0_0, a0_1, a0_2, l0_3, l0_4⟩ _ _ _ _ 1 0 0 0 [] _ _ _ _ _ _ _ HR3.out.1 HR3.out.2 HR4.out.1 HR4.out.2 HVS.out HV.out).mono ?_; rintro e w7 ⟨rfl, hvs7⟩; have HVS7 := qa.mk hvs7; clear hvs7)
 obtain ⟨hp0, hp1, hp2, hp3, hp4, hp5, hp6⟩ := HVS7.out.look
 have eR7 := HVS7.out.hk.blk ER.out.1 (by omega) (fun e => by have := Option.some.inj e; have := ER.out.2; omega)
 have ER7 := qa.mk eR7
 have hr0 := qf eR7 0
 have hr1 := qf eR7 1
 have hr2 := qf eR7 2
 have hr3 : _ = some (Value.int .i64 0) := qh eR7 0
 have hr4 : _ = some (Value.int .i64 0) := qh eR7 1
 have hr5 : _ = some (Value.int .i64 0) := qh eR7 2
 clear eR7 ER hx0 hx1 hx2 hx3 hx4 hv0
 go_wp2_with fail
 (try simp only [Exit.inBlock, Exit.then])
 refine bodyPost_ret (v := .agg #[.int .i64 vn, .int .i64 vd, .int .i64 ve]) ?_ rfl ?_
 ·exact results_cell_row rfl _ _ (w.heap.size + 1) 124 #[.int .i64 vn, .int .i64 vd, .int .i64 ve] (0, 0) _ rfl (qr (qr (qr ER7.out 0 _ rfl) 1 _ rfl) 2 _ rfl) Tryz.underlying124 rfl (by kernel_rfl)
 ·exact ⟨rfl, qm (qm (qm HVS7.out.hb (by omega)) (by omega)) (by omega)⟩
def vtree_Check.f (k : Nat) (a0_0 : ByteArray) (a0_1 : ByteArray) (a0_2 : ByteArray) (l0_3 : List (S55)) (l0_4 : List (S86)) : Option (Int × Int) := (qmb.f k a0_0 a0_1 a0_2 l0_3 l0_4).bind fun bt248 => (if bt248.2.2 = 0 then (some (0, 0)) else (some (bt248.1, bt248.2.2)))
theorem vtree_Check.mono : ∀ a0 a1 a2 a3 a4 k, LeO (vtree_Check.f k a0 a1 a2 a3 a4) (vtree_Check.f (k + 1) a0 a1 a2 a3 a4) := by
 intro a0 a1 a2 a3 a4 k
 unfold vtree_Check.f
 repeat' first
   | (with_reducible exact qmb.mono _ _ _ _ _ _)
   | (with_reducible exact LeO.refl _)
   | (with_reducible exact LeO.none _)
   | (with_reducible refine LeO.ite ?_ ?_)
   | (with_reducible refine LeO.bind ?_ (fun _ => ?_))
   | exact qmb.mono _ _ _ _ _ _
   | exact LeO.none _
   | refine LeO.ite ?_ ?_
   | refine LeO.bind ?_ (fun _ => ?_)
set_option maxHeartbeats 8000000 in
set_option maxRecDepth 100000 in
theorem vtree_Check.calls (k : Nat) (a0_0 : ByteArray) (a0_1 : ByteArray) (a0_2 : ByteArray) (A0_3 : Option Addr) (c0_3 : Nat) (l0_3 : List (S55)) (A0_4 : Option Addr) (c0_4 : Nat) (l0_4 : List (S86)) (r1 : Int) (r2 : Int) (w : World) (hr0_3 : Kd.C k55 w A0_3 l0_3.length l0_3) (hc0_3 : l0_3.length ≤ c0_3) (hr0_4 : Kd.C k86 w A0_4 l0_4.length l0_4) (hc0_4 : l0_4.length ≤ c0_4) (h : vtree_Check.f k a0_0 a0_1 a0_2 l0_3 l0_4 = some (r1, r2)) :
  Calls Tryz.prog 68 #[.agg #[.string a0_0, .string a0_1, .string a0_2, .slice A0_3 l0_3.length c0_3, .slice A0_4 l0_4.length c0_4]] w fun e w' => e = .returned (.tuple #[.int .i64 r1, .int .i64 r2]) ∧ Below w.heap.size w w' := by
 have hu86 := Tryz.underlying86
 have hu124 := Tryz.underlying124
 have HR0_3 := qa.mk hr0_3
 have HC0_3 := qa.mk hc0_3
 clear hr0_3 hc0_3
 have HR0_4 := qa.mk hr0_4
 have HC0_4 := qa.mk hc0_4
 clear hr0_4 hc0_4
 have HB := qa.mk (Below.refl w.heap.size w)
 have H : ((qmb.f k a0_0 a0_1 a0_2 l0_3 l0_4).bind fun bt248 => (if bt248.2.2 = 0 then (some (0, 0)) else (some (bt248.1, bt248.2.2)))) = some (r1, r2) := h
 clear h
 replace H := Option.bind_eq_some_iff.mp H
 obtain ⟨⟨t248, t249, t250⟩, A20, H⟩ := H
 replace H : (if t250 = 0 then (some (0, 0)) else (some (t248, t250))) = some (r1, r2) := H
 have A2 := qa.mk A20
 clear A20
 by_cases c3 : t250 = 0
 ·rw [if_pos c3] at H
  have c3b0 : (t250 == 0) = true := beq_iff_eq.mpr c3
  have c3b1 : (t250 != 0) = false := bne_eq_false_iff_eq.mpr c3
  clear c3
  simp only [Option.some.injEq, Prod.mk.injEq] at H
  obtain ⟨rfl, rfl⟩ := H
  go_enter Tryz.func68, Tryz.ntmps68
  go_wp2_with (first | ((with_reducible refine qfb (N := 1) rfl ?_); refine qlb ?hg (N := 1) ?hd (cs := #[.string a0_0, .string a0_1, .string a0_2, .slice A0_3 l0_3.length c0_3, .slice A0_4 l0_4.length c0_4]) (t := 86) ?hr ?_; (case hd => rfl); (case hg => rfl); (case hr => exact zz6); intro gb247 hg w4 hbox hb; have n0_ := qa.mk (qp zz52 hb); have n1_ := qa.mk (hbox); have n2_ := qa.mk ((by rw [hg]; exact (qo zz52) : w.heap.size ≤ gb247)); have n3_ := qa.mk ((by rw [hg]; exact (qo zz52) : w.heap.size ≤ gb247)); clear HB; have HB := n0_; have BK247 := n1_; have GW247 := n2_; have GE247 := n3_; clear n0_ n1_ n2_ n3_; clear hb hbox hg; have hcz5_0 : w4.cell? ⟨gb247, 0, none⟩ = some (.string a0_0) := (qh BK247.out 0).trans rfl; have hcz5_1 : w4.cell? ⟨gb247, 1, none⟩ = some (.string a0_1) := (qh BK247.out 1).trans rfl; have hcz5_2 : w4.cell? ⟨gb247, 2, none⟩ = some (.string a0_2) := (qh BK247.out 2).trans rfl; have hcz5_3 : w4.cell? ⟨gb247, 3, none⟩ = some (.slice A0_3 l0_3.length c0_3) := (qh BK247.out 3).trans rfl; have hcz5_4 : w4.cell? ⟨gb247, 4, none⟩ = some (.slice A0_4 l0_4.length c0_4) := (qh BK247.out 4).trans rfl; have hfz5_0 := qf BK247.out 0; have hfz5_1 := qf BK247.out 1; have hfz5_2 := qf BK247.out 2; have hfz5_3 := qf BK247.out 3; have hfz5_4 := qf BK247.out 4) | (go_at_call 80; (with_reducible refine (qmb.calls k a0_0 a0_1 a0_2 _ _ l0_3 _ _ l0_4 t248 t249 t250 _ ?side1 ?side2 ?side3 ?side4 A2.out).mono ?_); (case side1 => exact zz129); (case side2 => exact HC0_3.out); (case side3 => exact zz130); (case side4 => exact HC0_4.out); rintro e w6 ⟨rfl, hb⟩; have n0_ := qa.mk (qnb (g := gb247) (o := .cells #[.string a0_0, .string a0_1, .string a0_2, .slice A0_3 l0_3.length c0_3, .slice A0_4 l0_4.length c0_4] 86 (0, 0)) zz47 hb); have n1_ := qa.mk (qp zz81 hb); clear BK247; clear HB; have BK247 := n0_; have HB := n1_; clear n0_ n1_; (try clear hb); (try clear hb2); (try clear hk); (try clear hi)) | ((with_reducible refine qfb (N := 4) rfl ?_); refine qlb ?hg (N := 4) ?hd (cs := #[.int .i64 0, .int .i64 0, .int .i64 0]) (t := 124) ?hr ?_; (case hd => rfl); (case hg => rfl); (case hr => exact zz6); intro gb251 hg w7 hbox hb; have n0_ := qa.mk (qnb (g := gb247) (o := .cells #[.string a0_0, .string a0_1, .string a0_2, .slice A0_3 l0_3.length c0_3, .slice A0_4 l0_4.length c0_4] 86 (0, 0)) zz47 hb); have n1_ := qa.mk (qp zz81 hb); have n2_ := qa.mk (hbox); have n3_ := qa.mk ((by rw [hg]; exact (qo zz81) : w.heap.size ≤ gb251)); have n4_ := qa.mk ((by rw [hg]; exact (qo zz81) : w.heap.size ≤ gb251)); have n5_ := qa.mk ((by rw [hg]; exact qyc (qbc (g := gb247) (o := .cells #[.string a0_0, .string a0_1, .string a0_2, .slice A0_3 l0_3.length c0_3, .slice A0_4 l0_4.length c0_4] 86 (0, 0)) zz47) : gb247 ≠ gb251)); have n6_ := qa.mk ((by rw [hg]; exact Nat.ne_of_gt (qbc (g := gb247) (o := .cells #[.string a0_0, .string a0_1, .string a0_2, .slice A0_3 l0_3.length c0_3, .slice A0_4 l0_4.length c0_4] 86 (0, 0)) zz47) : gb251 ≠ gb247)); clear BK247; clear HB; have BK247 := n0_; have HB := n1_; have BK251 := n2_; have GW251 := n3_; have GE251 := n4_; have NB247_251 := n5_; have NB251_247 := n6_; clear n0_ n1_ n2_ n3_ n4_ n5_ n6_; clear hb hbox hg; have hnb8 := NB251_247.out; have hnc8 := NB247_251.out; have hcz9_0 : w7.cell? ⟨gb251, 0, none⟩ = some (.int .i64 0) := (qh BK251.out 0).trans rfl; have hcz9_1 : w7.cell? ⟨gb251, 1, none⟩ = some (.int .i64 0) := (qh BK251.out 1).trans rfl; have hcz9_2 : w7.cell? ⟨gb251, 2, none⟩ = some (.int .i64 0) := (qh BK251.out 2).trans rfl; have hfz9_0 := qf BK251.out 0; have hfz9_1 := qf BK251.out 1; have hfz9_2 := qf BK251.out 2))
  repeat (go_quiet (first | ((with_reducible refine qfb (N := 1) rfl ?_); refine qlb ?hg (N := 1) ?hd (cs := #[.string a0_0, .string a0_1, .string a0_2, .slice A0_3 l0_3.length c0_3, .slice A0_4 l0_4.length c0_4]) (t := 86) ?hr ?_; (case hd => rfl); (case hg => rfl); (case hr => exact zz6); intro gb247 hg w4 hbox hb; have n0_ := qa.mk (qp zz52 hb); have n1_ := qa.mk (hbox); have n2_ := qa.mk ((by rw [hg]; exact (qo zz52) : w.heap.size ≤ gb247)); have n3_ := qa.mk ((by rw [hg]; exact (qo zz52) : w.heap.size ≤ gb247)); clear HB; have HB := n0_; have BK247 := n1_; have GW247 := n2_; have GE247 := n3_; clear n0_ n1_ n2_ n3_; clear hb hbox hg; have hcz5_0 : w4.cell? ⟨gb247, 0, none⟩ = some (.string a0_0) := (qh BK247.out 0).trans rfl; have hcz5_1 : w4.cell? ⟨gb247, 1, none⟩ = some (.string a0_1) := (qh BK247.out 1).trans rfl; have hcz5_2 : w4.cell? ⟨gb247, 2, none⟩ = some (.string a0_2) := (qh BK247.out 2).trans rfl; have hcz5_3 : w4.cell? ⟨gb247, 3, none⟩ = some (.slice A0_3 l0_3.length c0_3) := (qh BK247.out 3).trans rfl; have hcz5_4 : w4.cell? ⟨gb247, 4, none⟩ = some (.slice A0_4 l0_4.length c0_4) := (qh BK247.out 4).trans rfl; have hfz5_0 := qf BK247.out 0; have hfz5_1 := qf BK247.out 1; have hfz5_2 := qf BK247.out 2; have hfz5_3 := qf BK247.out 3; have hfz5_4 := qf BK247.out 4) | (go_at_call 80; (with_reducible refine (qmb.calls k a0_0 a0_1 a0_2 _ _ l0_3 _ _ l0_4 t248 t249 t250 _ ?side1 ?side2 ?side3 ?side4 A2.out).mono ?_); (case side1 => exact zz129); (case side2 => exact HC0_3.out); (case side3 => exact zz130); (case side4 => exact HC0_4.out); rintro e w6 ⟨rfl, hb⟩; have n0_ := qa.mk (qnb (g := gb247) (o := .cells #[.string a0_0, .string a0_1, .string a0_2, .slice A0_3 l0_3.length c0_3, .slice A0_4 l0_4.length c0_4] 86 (0, 0)) zz47 hb); have n1_ := qa.mk (qp zz81 hb); clear BK247; clear HB; have BK247 := n0_; have HB := n1_; clear n0_ n1_; (try clear hb); (try clear hb2); (try clear hk); (try clear hi)) | ((with_reducible refine qfb (N := 4) rfl ?_); refine qlb ?hg (N := 4) ?hd (cs := #[.int .i64 0, .int .i64 0, .int .i64 0]) (t := 124) ?hr ?_; (case hd => rfl); (case hg => rfl); (case hr => exact zz6); intro gb251 hg w7 hbox hb; have n0_ := qa.mk (qnb (g := gb247) (o := .cells #[.string a0_0, .string a0_1, .string a0_2, .slice A0_3 l0_3.length c0_3, .slice A0_4 l0_4.length c0_4] 86 (0, 0)) zz47 hb); have n1_ := qa.mk (qp zz81 hb); have n2_ := qa.mk (hbox); have n3_ := qa.mk ((by rw [hg]; exact (qo zz81) : w.heap.size ≤ gb251)); have n4_ := qa.mk ((by rw [hg]; exact (qo zz81) : w.heap.size ≤ gb251)); have n5_ := qa.mk ((by rw [hg]; exact qyc (qbc (g := gb247) (o := .cells #[.string a0_0, .string a0_1, .string a0_2, .slice A0_3 l0_3.length c0_3, .slice A0_4 l0_4.length c0_4] 86 (0, 0)) zz47) : gb247 ≠ gb251)); have n6_ := qa.mk ((by rw [hg]; exact Nat.ne_of_gt (qbc (g := gb247) (o := .cells #[.string a0_0, .string a0_1, .string a0_2, .slice A0_3 l0_3.length c0_3, .slice A0_4 l0_4.length c0_4] 86 (0, 0)) zz47) : gb251 ≠ gb247)); clear BK247; clear HB; have BK247 := n0_; have HB := n1_; have BK251 := n2_; have GW251 := n3_; have GE251 := n4_; have NB247_251 := n5_; have NB251_247 := n6_; clear n0_ n1_ n2_ n3_ n4_ n5_ n6_; clear hb hbox hg; have hnb8 := NB251_247.out; have hnc8 := NB247_251.out; have hcz9_0 : w7.cell? ⟨gb251, 0, none⟩ = some (.int .i64 0) := (qh BK251.out 0).trans rfl; have hcz9_1 : w7.cell? ⟨gb251, 1, none⟩ = some (.int .i64 0) := (qh BK251.out 1).trans rfl; have hcz9_2 : w7.cell? ⟨gb251, 2, none⟩ = some (.int .i64 0) := (qh BK251.out 2).trans rfl; have hfz9_0 := qf BK251.out 0; have hfz9_1 := qf BK251.out 1; have hfz9_2 := qf BK251.out 2)); try go_wp2_with (first | ((with_reducible refine qfb (N := 1) rfl ?_); refine qlb ?hg (N := 1) ?hd (cs := #[.string a0_0, .string a0_1, .string a0_2, .slice A0_3 l0_3.length c0_3, .slice A0_4 l0_4.length c0_4]) (t := 86) ?hr ?_; (case hd => rfl); (case hg => rfl); (case hr => exact zz6); intro gb247 hg w4 hbox hb; have n0_ := qa.mk (qp zz52 hb); have n1_ := qa.mk (hbox); have n2_ := qa.mk ((by rw [hg]; exact (qo zz52) : w.heap.size ≤ gb247)); have n3_ := qa.mk ((by rw [hg]; exact (qo zz52) : w.heap.size ≤ gb247)); clear HB; have HB := n0_; have BK247 := n1_; have GW247 := n2_; have GE247 := n3_; clear n0_ n1_ n2_ n3_; clear hb hbox hg; have hcz5_0 : w4.cell? ⟨gb247, 0, none⟩ = some (.string a0_0) := (qh BK247.out 0).trans rfl; have hcz5_1 : w4.cell? ⟨gb247, 1, none⟩ = some (.string a0_1) := (qh BK247.out 1).trans rfl; have hcz5_2 : w4.cell? ⟨gb247, 2, none⟩ = some (.string a0_2) := (qh BK247.out 2).trans rfl; have hcz5_3 : w4.cell? ⟨gb247, 3, none⟩ = some (.slice A0_3 l0_3.length c0_3) := (qh BK247.out 3).trans rfl; have hcz5_4 : w4.cell? ⟨gb247, 4, none⟩ = some (.slice A0_4 l0_4.length c0_4) := (qh BK247.out 4).trans rfl; have hfz5_0 := qf BK247.out 0; have hfz5_1 := qf BK247.out 1; have hfz5_2 := qf BK247.out 2; have hfz5_3 := qf BK247.out 3; have hfz5_4 := qf BK247.out 4) | (go_at_call 80; (with_reducible refine (qmb.calls k a0_0 a0_1 a0_2 _ _ l0_3 _ _ l0_4 t248 t249 t250 _ ?side1 ?side2 ?side3 ?side4 A2.out).mono ?_); (case side1 => exact zz129); (case side2 => exact HC0_3.out); (case side3 => exact zz130); (case side4 => exact HC0_4.out); rintro e w6 ⟨rfl, hb⟩; have n0_ := qa.mk (qnb (g := gb247) (o := .cells #[.string a0_0, .string a0_1, .string a0_2, .slice A0_3 l0_3.length c0_3, .slice A0_4 l0_4.length c0_4] 86 (0, 0)) zz47 hb); have n1_ := qa.mk (qp zz81 hb); clear BK247; clear HB; have BK247 := n0_; have HB := n1_; clear n0_ n1_; (try clear hb); (try clear hb2); (try clear hk); (try clear hi)) | ((with_reducible refine qfb (N := 4) rfl ?_); refine qlb ?hg (N := 4) ?hd (cs := #[.int .i64 0, .int .i64 0, .int .i64 0]) (t := 124) ?hr ?_; (case hd => rfl); (case hg => rfl); (case hr => exact zz6); intro gb251 hg w7 hbox hb; have n0_ := qa.mk (qnb (g := gb247) (o := .cells #[.string a0_0, .string a0_1, .string a0_2, .slice A0_3 l0_3.length c0_3, .slice A0_4 l0_4.length c0_4] 86 (0, 0)) zz47 hb); have n1_ := qa.mk (qp zz81 hb); have n2_ := qa.mk (hbox); have n3_ := qa.mk ((by rw [hg]; exact (qo zz81) : w.heap.size ≤ gb251)); have n4_ := qa.mk ((by rw [hg]; exact (qo zz81) : w.heap.size ≤ gb251)); have n5_ := qa.mk ((by rw [hg]; exact qyc (qbc (g := gb247) (o := .cells #[.string a0_0, .string a0_1, .string a0_2, .slice A0_3 l0_3.length c0_3, .slice A0_4 l0_4.length c0_4] 86 (0, 0)) zz47) : gb247 ≠ gb251)); have n6_ := qa.mk ((by rw [hg]; exact Nat.ne_of_gt (qbc (g := gb247) (o := .cells #[.string a0_0, .string a0_1, .string a0_2, .slice A0_3 l0_3.length c0_3, .slice A0_4 l0_4.length c0_4] 86 (0, 0)) zz47) : gb251 ≠ gb247)); clear BK247; clear HB; have BK247 := n0_; have HB := n1_; have BK251 := n2_; have GW251 := n3_; have GE251 := n4_; have NB247_251 := n5_; have NB251_247 := n6_; clear n0_ n1_ n2_ n3_ n4_ n5_ n6_; clear hb hbox hg; have hnb8 := NB251_247.out; have hnc8 := NB247_251.out; have hcz9_0 : w7.cell? ⟨gb251, 0, none⟩ = some (.int .i64 0) := (qh BK251.out 0).trans rfl; have hcz9_1 : w7.cell? ⟨gb251, 1, none⟩ = some (.int .i64 0) := (qh BK251.out 1).trans rfl; have hcz9_2 : w7.cell? ⟨gb251, 2, none⟩ = some (.int .i64 0) := (qh BK251.out 2).trans rfl; have hfz9_0 := qf BK251.out 0; have hfz9_1 := qf BK251.out 1; have hfz9_2 := qf BK251.out 2)))
  go_ret2
  exact ⟨zz102, zz105⟩
 ·rw [if_neg c3] at H
  have c3b0 : (t250 == 0) = false := beq_eq_false_iff_ne.mpr c3
  have c3b1 : (t250 != 0) = true := bne_iff_ne.mpr c3
  simp only [Option.some.injEq, Prod.mk.injEq] at H
  obtain ⟨rfl, rfl⟩ := H
  go_enter Tryz.func68, Tryz.ntmps68
  go_wp2_with (first | ((with_reducible refine qfb (N := 1) rfl ?_); refine qlb ?hg (N := 1) ?hd (cs := #[.string a0_0, .string a0_1, .string a0_2, .slice A0_3 l0_3.length c0_3, .slice A0_4 l0_4.length c0_4]) (t := 86) ?hr ?_; (case hd => rfl); (case hg => rfl); (case hr => exact zz6); intro gb247 hg w10 hbox hb; have n0_ := qa.mk (qp zz52 hb); have n1_ := qa.mk (hbox); have n2_ := qa.mk ((by rw [hg]; exact (qo zz52) : w.heap.size ≤ gb247)); have n3_ := qa.mk ((by rw [hg]; exact (qo zz52) : w.heap.size ≤ gb247)); clear HB; have HB := n0_; have BK247 := n1_; have GW247 := n2_; have GE247 := n3_; clear n0_ n1_ n2_ n3_; clear hb hbox hg; have hcz11_0 : w10.cell? ⟨gb247, 0, none⟩ = some (.string a0_0) := (qh BK247.out 0).trans rfl; have hcz11_1 : w10.cell? ⟨gb247, 1, none⟩ = some (.string a0_1) := (qh BK247.out 1).trans rfl; have hcz11_2 : w10.cell? ⟨gb247, 2, none⟩ = some (.string a0_2) := (qh BK247.out 2).trans rfl; have hcz11_3 : w10.cell? ⟨gb247, 3, none⟩ = some (.slice A0_3 l0_3.length c0_3) := (qh BK247.out 3).trans rfl; have hcz11_4 : w10.cell? ⟨gb247, 4, none⟩ = some (.slice A0_4 l0_4.length c0_4) := (qh BK247.out 4).trans rfl; have hfz11_0 := qf BK247.out 0; have hfz11_1 := qf BK247.out 1; have hfz11_2 := qf BK247.out 2; have hfz11_3 := qf BK247.out 3; have hfz11_4 := qf BK247.out 4) | (go_at_call 80; (with_reducible refine (qmb.calls k a0_0 a0_1 a0_2 _ _ l0_3 _ _ l0_4 t248 t249 t250 _ ?side1 ?side2 ?side3 ?side4 A2.out).mono ?_); (case side1 => exact zz129); (case side2 => exact HC0_3.out); (case side3 => exact zz130); (case side4 => exact HC0_4.out); rintro e w12 ⟨rfl, hb⟩; have n0_ := qa.mk (qnb (g := gb247) (o := .cells #[.string a0_0, .string a0_1, .string a0_2, .slice A0_3 l0_3.length c0_3, .slice A0_4 l0_4.length c0_4] 86 (0, 0)) zz47 hb); have n1_ := qa.mk (qp zz81 hb); clear BK247; clear HB; have BK247 := n0_; have HB := n1_; clear n0_ n1_; (try clear hb); (try clear hb2); (try clear hk); (try clear hi)) | ((with_reducible refine qfb (N := 4) rfl ?_); refine qlb ?hg (N := 4) ?hd (cs := #[.int .i64 0, .int .i64 0, .int .i64 0]) (t := 124) ?hr ?_; (case hd => rfl); (case hg => rfl); (case hr => exact zz6); intro gb251 hg w13 hbox hb; have n0_ := qa.mk (qnb (g := gb247) (o := .cells #[.string a0_0, .string a0_1, .string a0_2, .slice A0_3 l0_3.length c0_3, .slice A0_4 l0_4.length c0_4] 86 (0, 0)) zz47 hb); have n1_ := qa.mk (qp zz81 hb); have n2_ := qa.mk (hbox); have n3_ := qa.mk ((by rw [hg]; exact (qo zz81) : w.heap.size ≤ gb251)); have n4_ := qa.mk ((by rw [hg]; exact (qo zz81) : w.heap.size ≤ gb251)); have n5_ := qa.mk ((by rw [hg]; exact qyc (qbc (g := gb247) (o := .cells #[.string a0_0, .string a0_1, .string a0_2, .slice A0_3 l0_3.length c0_3, .slice A0_4 l0_4.length c0_4] 86 (0, 0)) zz47) : gb247 ≠ gb251)); have n6_ := qa.mk ((by rw [hg]; exact Nat.ne_of_gt (qbc (g := gb247) (o := .cells #[.string a0_0, .string a0_1, .string a0_2, .slice A0_3 l0_3.length c0_3, .slice A0_4 l0_4.length c0_4] 86 (0, 0)) zz47) : gb251 ≠ gb247)); clear BK247; clear HB; have BK247 := n0_; have HB := n1_; have BK251 := n2_; have GW251 := n3_; have GE251 := n4_; have NB247_251 := n5_; have NB251_247 := n6_; clear n0_ n1_ n2_ n3_ n4_ n5_ n6_; clear hb hbox hg; have hnb14 := NB251_247.out; have hnc14 := NB247_251.out; have hcz15_0 : w13.cell? ⟨gb251, 0, none⟩ = some (.int .i64 0) := (qh BK251.out 0).trans rfl; have hcz15_1 : w13.cell? ⟨gb251, 1, none⟩ = some (.int .i64 0) := (qh BK251.out 1).trans rfl; have hcz15_2 : w13.cell? ⟨gb251, 2, none⟩ = some (.int .i64 0) := (qh BK251.out 2).trans rfl; have hfz15_0 := qf BK251.out 0; have hfz15_1 := qf BK251.out 1; have hfz15_2 := qf BK251.out 2))
  repeat (go_quiet (first | ((with_reducible refine qfb (N := 1) rfl ?_); refine qlb ?hg (N := 1) ?hd (cs := #[.string a0_0, .string a0_1, .string a0_2, .slice A0_3 l0_3.length c0_3, .slice A0_4 l0_4.length c0_4]) (t := 86) ?hr ?_; (case hd => rfl); (case hg => rfl); (case hr => exact zz6); intro gb247 hg w10 hbox hb; have n0_ := qa.mk (qp zz52 hb); have n1_ := qa.mk (hbox); have n2_ := qa.mk ((by rw [hg]; exact (qo zz52) : w.heap.size ≤ gb247)); have n3_ := qa.mk ((by rw [hg]; exact (qo zz52) : w.heap.size ≤ gb247)); clear HB; have HB := n0_; have BK247 := n1_; have GW247 := n2_; have GE247 := n3_; clear n0_ n1_ n2_ n3_; clear hb hbox hg; have hcz11_0 : w10.cell? ⟨gb247, 0, none⟩ = some (.string a0_0) := (qh BK247.out 0).trans rfl; have hcz11_1 : w10.cell? ⟨gb247, 1, none⟩ = some (.string a0_1) := (qh BK247.out 1).trans rfl; have hcz11_2 : w10.cell? ⟨gb247, 2, none⟩ = some (.string a0_2) := (qh BK247.out 2).trans rfl; have hcz11_3 : w10.cell? ⟨gb247, 3, none⟩ = some (.slice A0_3 l0_3.length c0_3) := (qh BK247.out 3).trans rfl; have hcz11_4 : w10.cell? ⟨gb247, 4, none⟩ = some (.slice A0_4 l0_4.length c0_4) := (qh BK247.out 4).trans rfl; have hfz11_0 := qf BK247.out 0; have hfz11_1 := qf BK247.out 1; have hfz11_2 := qf BK247.out 2; have hfz11_3 := qf BK247.out 3; have hfz11_4 := qf BK247.out 4) | (go_at_call 80; (with_reducible refine (qmb.calls k a0_0 a0_1 a0_2 _ _ l0_3 _ _ l0_4 t248 t249 t250 _ ?side1 ?side2 ?side3 ?side4 A2.out).mono ?_); (case side1 => exact zz129); (case side2 => exact HC0_3.out); (case side3 => exact zz130); (case side4 => exact HC0_4.out); rintro e w12 ⟨rfl, hb⟩; have n0_ := qa.mk (qnb (g := gb247) (o := .cells #[.string a0_0, .string a0_1, .string a0_2, .slice A0_3 l0_3.length c0_3, .slice A0_4 l0_4.length c0_4] 86 (0, 0)) zz47 hb); have n1_ := qa.mk (qp zz81 hb); clear BK247; clear HB; have BK247 := n0_; have HB := n1_; clear n0_ n1_; (try clear hb); (try clear hb2); (try clear hk); (try clear hi)) | ((with_reducible refine qfb (N := 4) rfl ?_); refine qlb ?hg (N := 4) ?hd (cs := #[.int .i64 0, .int .i64 0, .int .i64 0]) (t := 124) ?hr ?_; (case hd => rfl); (case hg => rfl); (case hr => exact zz6); intro gb251 hg w13 hbox hb; have n0_ := qa.mk (qnb (g := gb247) (o := .cells #[.string a0_0, .string a0_1, .string a0_2, .slice A0_3 l0_3.length c0_3, .slice A0_4 l0_4.length c0_4] 86 (0, 0)) zz47 hb); have n1_ := qa.mk (qp zz81 hb); have n2_ := qa.mk (hbox); have n3_ := qa.mk ((by rw [hg]; exact (qo zz81) : w.heap.size ≤ gb251)); have n4_ := qa.mk ((by rw [hg]; exact (qo zz81) : w.heap.size ≤ gb251)); have n5_ := qa.mk ((by rw [hg]; exact qyc (qbc (g := gb247) (o := .cells #[.string a0_0, .string a0_1, .string a0_2, .slice A0_3 l0_3.length c0_3, .slice A0_4 l0_4.length c0_4] 86 (0, 0)) zz47) : gb247 ≠ gb251)); have n6_ := qa.mk ((by rw [hg]; exact Nat.ne_of_gt (qbc (g := gb247) (o := .cells #[.string a0_0, .string a0_1, .string a0_2, .slice A0_3 l0_3.length c0_3, .slice A0_4 l0_4.length c0_4] 86 (0, 0)) zz47) : gb251 ≠ gb247)); clear BK247; clear HB; have BK247 := n0_; have HB := n1_; have BK251 := n2_; have GW251 := n3_; have GE251 := n4_; have NB247_251 := n5_; have NB251_247 := n6_; clear n0_ n1_ n2_ n3_ n4_ n5_ n6_; clear hb hbox hg; have hnb14 := NB251_247.out; have hnc14 := NB247_251.out; have hcz15_0 : w13.cell? ⟨gb251, 0, none⟩ = some (.int .i64 0) := (qh BK251.out 0).trans rfl; have hcz15_1 : w13.cell? ⟨gb251, 1, none⟩ = some (.int .i64 0) := (qh BK251.out 1).trans rfl; have hcz15_2 : w13.cell? ⟨gb251, 2, none⟩ = some (.int .i64 0) := (qh BK251.out 2).trans rfl; have hfz15_0 := qf BK251.out 0; have hfz15_1 := qf BK251.out 1; have hfz15_2 := qf BK251.out 2)); try go_wp2_with (first | ((with_reducible refine qfb (N := 1) rfl ?_); refine qlb ?hg (N := 1) ?hd (cs := #[.string a0_0, .string a0_1, .string a0_2, .slice A0_3 l0_3.length c0_3, .slice A0_4 l0_4.length c0_4]) (t := 86) ?hr ?_; (case hd => rfl); (case hg => rfl); (case hr => exact zz6); intro gb247 hg w10 hbox hb; have n0_ := qa.mk (qp zz52 hb); have n1_ := qa.mk (hbox); have n2_ := qa.mk ((by rw [hg]; exact (qo zz52) : w.heap.size ≤ gb247)); have n3_ := qa.mk ((by rw [hg]; exact (qo zz52) : w.heap.size ≤ gb247)); clear HB; have HB := n0_; have BK247 := n1_; have GW247 := n2_; have GE247 := n3_; clear n0_ n1_ n2_ n3_; clear hb hbox hg; have hcz11_0 : w10.cell? ⟨gb247, 0, none⟩ = some (.string a0_0) := (qh BK247.out 0).trans rfl; have hcz11_1 : w10.cell? ⟨gb247, 1, none⟩ = some (.string a0_1) := (qh BK247.out 1).trans rfl; have hcz11_2 : w10.cell? ⟨gb247, 2, none⟩ = some (.string a0_2) := (qh BK247.out 2).trans rfl; have hcz11_3 : w10.cell? ⟨gb247, 3, none⟩ = some (.slice A0_3 l0_3.length c0_3) := (qh BK247.out 3).trans rfl; have hcz11_4 : w10.cell? ⟨gb247, 4, none⟩ = some (.slice A0_4 l0_4.length c0_4) := (qh BK247.out 4).trans rfl; have hfz11_0 := qf BK247.out 0; have hfz11_1 := qf BK247.out 1; have hfz11_2 := qf BK247.out 2; have hfz11_3 := qf BK247.out 3; have hfz11_4 := qf BK247.out 4) | (go_at_call 80; (with_reducible refine (qmb.calls k a0_0 a0_1 a0_2 _ _ l0_3 _ _ l0_4 t248 t249 t250 _ ?side1 ?side2 ?side3 ?side4 A2.out).mono ?_); (case side1 => exact zz129); (case side2 => exact HC0_3.out); (case side3 => exact zz130); (case side4 => exact HC0_4.out); rintro e w12 ⟨rfl, hb⟩; have n0_ := qa.mk (qnb (g := gb247) (o := .cells #[.string a0_0, .string a0_1, .string a0_2, .slice A0_3 l0_3.length c0_3, .slice A0_4 l0_4.length c0_4] 86 (0, 0)) zz47 hb); have n1_ := qa.mk (qp zz81 hb); clear BK247; clear HB; have BK247 := n0_; have HB := n1_; clear n0_ n1_; (try clear hb); (try clear hb2); (try clear hk); (try clear hi)) | ((with_reducible refine qfb (N := 4) rfl ?_); refine qlb ?hg (N := 4) ?hd (cs := #[.int .i64 0, .int .i64 0, .int .i64 0]) (t := 124) ?hr ?_; (case hd => rfl); (case hg => rfl); (case hr => exact zz6); intro gb251 hg w13 hbox hb; have n0_ := qa.mk (qnb (g := gb247) (o := .cells #[.string a0_0, .string a0_1, .string a0_2, .slice A0_3 l0_3.length c0_3, .slice A0_4 l0_4.length c0_4] 86 (0, 0)) zz47 hb); have n1_ := qa.mk (qp zz81 hb); have n2_ := qa.mk (hbox); have n3_ := qa.mk ((by rw [hg]; exact (qo zz81) : w.heap.size ≤ gb251)); have n4_ := qa.mk ((by rw [hg]; exact (qo zz81) : w.heap.size ≤ gb251)); have n5_ := qa.mk ((by rw [hg]; exact qyc (qbc (g := gb247) (o := .cells #[.string a0_0, .string a0_1, .string a0_2, .slice A0_3 l0_3.length c0_3, .slice A0_4 l0_4.length c0_4] 86 (0, 0)) zz47) : gb247 ≠ gb251)); have n6_ := qa.mk ((by rw [hg]; exact Nat.ne_of_gt (qbc (g := gb247) (o := .cells #[.string a0_0, .string a0_1, .string a0_2, .slice A0_3 l0_3.length c0_3, .slice A0_4 l0_4.length c0_4] 86 (0, 0)) zz47) : gb251 ≠ gb247)); clear BK247; clear HB; have BK247 := n0_; have HB := n1_; have BK251 := n2_; have GW251 := n3_; have GE251 := n4_; have NB247_251 := n5_; have NB251_247 := n6_; clear n0_ n1_ n2_ n3_ n4_ n5_ n6_; clear hb hbox hg; have hnb14 := NB251_247.out; have hnc14 := NB247_251.out; have hcz15_0 : w13.cell? ⟨gb251, 0, none⟩ = some (.int .i64 0) := (qh BK251.out 0).trans rfl; have hcz15_1 : w13.cell? ⟨gb251, 1, none⟩ = some (.int .i64 0) := (qh BK251.out 1).trans rfl; have hcz15_2 : w13.cell? ⟨gb251, 2, none⟩ = some (.int .i64 0) := (qh BK251.out 2).trans rfl; have hfz15_0 := qf BK251.out 0; have hfz15_1 := qf BK251.out 1; have hfz15_2 := qf BK251.out 2)))
  go_ret2
  exact ⟨zz102, zz105⟩
def qec.j0 : Nat → List (S53) → Option (ByteArray × ByteArray × ByteArray × (List (S55)) × (List (S86)) × Int)
 | 0, _ => none
 | k + 1, x0 => (qtb.f k x0 0).bind fun bt258 => ((vtree_Check.f k bt258.1 bt258.2.1 bt258.2.2.1 bt258.2.2.2.1 bt258.2.2.2.2.1).bind fun bt269 => (if bt269.2 = 0 then (some (bt258.1, bt258.2.1, bt258.2.2.1, bt258.2.2.2.1, bt258.2.2.2.2.1, 0)) else (some ((⟨#[]⟩ : ByteArray), (⟨#[]⟩ : ByteArray), (⟨#[]⟩ : ByteArray), ([] : List (S55)), ([] : List (S86)), bt269.2))))
def qec.f (k : Nat) (l0 : List (S53)) : Option (ByteArray × ByteArray × ByteArray × (List (S55)) × (List (S86)) × Int) := if (l0.length : Int) = 0 then (some ((⟨#[]⟩ : ByteArray), (⟨#[]⟩ : ByteArray), (⟨#[]⟩ : ByteArray), ([] : List (S55)), ([] : List (S86)), 23)) else ((qub.f k l0).bind fun t253 => (if t253 = true then ((qhc.f k l0).bind fun t254 => (if t254 = true then ((qjc.f k l0).bind fun t255 => (qec.j0 k t255)) else (qec.j0 k l0))) else (some ((⟨#[]⟩ : ByteArray), (⟨#[]⟩ : ByteArray), (⟨#[]⟩ : ByteArray), ([] : List (S55)), ([] : List (S86)), 2))))
theorem qec.mono_l : ∀ k, (∀ y0, LeO (qec.j0 k y0) (qec.j0 (k + 1) y0))
 | 0 => fun _ r h => by simp [qec.j0] at h
 | k + 1 => by
  have ih0 := qec.mono_l k
  ·intro y0
   unfold qec.j0
   repeat' first
   | (with_reducible exact ih0 _)
   | (with_reducible exact qtb.mono _ _ _)
   | (with_reducible exact qjc.mono _ _)
   | (with_reducible exact qhc.mono _ _)
   | (with_reducible exact qub.mono _ _)
   | (with_reducible exact vtree_Check.mono _ _ _ _ _ _)
   | (with_reducible exact LeO.refl _)
   | (with_reducible exact LeO.none _)
   | (with_reducible refine LeO.ite ?_ ?_)
   | (with_reducible refine LeO.bind ?_ (fun _ => ?_))
   | exact ih0 _
   | exact qtb.mono _ _ _
   | exact qjc.mono _ _
   | exact qhc.mono _ _
   | exact qub.mono _ _
   | exact vtree_Check.mono _ _ _ _ _ _
   | exact LeO.none _
   | refine LeO.ite ?_ ?_
   | refine LeO.bind ?_ (fun _ => ?_)
theorem qec.mono : ∀ a0 k, LeO (qec.f k a0) (qec.f (k + 1) a0) := by
 intro a0 k
 have ih0 := qec.mono_l k
 unfold qec.f
 repeat' first
   | (with_reducible exact ih0 _)
   | (with_reducible exact qtb.mono _ _ _)
   | (with_reducible exact qjc.mono _ _)
   | (with_reducible exact qhc.mono _ _)
   | (with_reducible exact qub.mono _ _)
   | (with_reducible exact vtree_Check.mono _ _ _ _ _ _)
   | (with_reducible exact LeO.refl _)
   | (with_reducible exact LeO.none _)
   | (with_reducible refine LeO.ite ?_ ?_)
   | (with_reducible refine LeO.bind ?_ (fun _ => ?_))
   | exact ih0 _
   | exact qtb.mono _ _ _
   | exact qjc.mono _ _
   | exact qhc.mono _ _
   | exact qub.mono _ _
   | exact vtree_Check.mono _ _ _ _ _ _
   | exact LeO.none _
   | refine LeO.ite ?_ ?_
   | refine LeO.bind ?_ (fun _ => ?_)
set_option maxHeartbeats 8000000 in
set_option maxRecDepth 100000 in
theorem qec.calls (k : Nat) (P0_ : Nat → Prop) (A0 : Option Addr) (c0 : Nat) (l0 : List (S53)) (r1 : ByteArray) (r2 : ByteArray) (r3 : ByteArray) (r4 : List (S55)) (r5 : List (S86)) (r6 : Int) (w : World) (hs0 : Kd.V k53 53 w w.heap.size (fun k_ => P0_ k_) (.slice A0 l0.length c0) l0) (h : qec.f k l0 = some (r1, r2, r3, r4, r5, r6)) :
  Calls Tryz.prog 49 #[.slice A0 l0.length c0] w fun e w' => ∃ v3_ v4_ : Value, e = .returned (.tuple #[.agg #[.string r1, .string r2, .string r3, v3_, v4_], .int .i64 r6]) ∧ Kd.R k55 55 w' w.heap.size (fun k_ => (w.heap.size ≤ k_)) v3_ r4 ∧ Kd.R k86 86 w' w.heap.size (fun k_ => (w.heap.size ≤ k_) ∧ some k_ ≠ (v3_ : Value).ownBlock) v4_ r5 ∧ Below w.heap.size w w' := by
 have hu86 := Tryz.underlying86
 have HO0 := qa.mk (show Kd.V k53 53 w w.heap.size (fun k_ => (P0_ k_ ∨ w.heap.size ≤ k_)) (.slice A0 l0.length c0) l0 from Kd.V_mono hs0 (fun k_ hk => .inl hk))
 have HB := qa.mk (Below.refl w.heap.size w)
 have H : (if (l0.length : Int) = 0 then (some ((⟨#[]⟩ : ByteArray), (⟨#[]⟩ : ByteArray), (⟨#[]⟩ : ByteArray), ([] : List (S55)), ([] : List (S86)), 23)) else ((qub.f k l0).bind fun t253 => (if t253 = true then ((qhc.f k l0).bind fun t254 => (if t254 = true then ((qjc.f k l0).bind fun t255 => (qec.j0 k t255)) else (qec.j0 k l0))) else (some ((⟨#[]⟩ : ByteArray), (⟨#[]⟩ : ByteArray), (⟨#[]⟩ : ByteArray), ([] : List (S55)), ([] : List (S86)), 2))))) = some (r1, r2, r3, r4, r5, r6) := h
 clear h
 by_cases c2 : (l0.length : Int) = 0
 ·rw [if_pos c2] at H
  have c2b0 : ((l0.length : Int) == 0) = true := beq_iff_eq.mpr c2
  have c2b1 : ((l0.length : Int) != 0) = false := bne_eq_false_iff_eq.mpr c2
  clear c2
  simp only [Option.some.injEq, Prod.mk.injEq] at H
  obtain ⟨rfl, rfl, rfl, rfl, rfl, rfl⟩ := H
  go_enter Tryz.func49, Tryz.ntmps49
  go_wp2_with (first | ((with_reducible refine qfb (N := 2) rfl ?_); refine qlb ?hg (N := 2) ?hd (cs := #[.string (⟨#[]⟩ : ByteArray), .string (⟨#[]⟩ : ByteArray), .string (⟨#[]⟩ : ByteArray), .slice none 0 0, .slice none 0 0]) (t := 86) ?hr ?_; (case hd => rfl); (case hg => rfl); (case hr => exact zz6); intro gb252 hg w3 hbox hb; have n0_ := qa.mk (Kd.V_below (Kd.V_elderB zz53 gb252 (Nat.le_of_eq hg.symm)) hb); have n1_ := qa.mk (qp zz52 hb); have n2_ := qa.mk (hbox); have n3_ := qa.mk ((by rw [hg]; exact (qo zz52) : w.heap.size ≤ gb252)); have n4_ := qa.mk ((by rw [hg]; exact (qo zz52) : w.heap.size ≤ gb252)); clear HO0; clear HB; have HO0 := n0_; have HB := n1_; have BK252 := n2_; have GW252 := n3_; have GE252 := n4_; clear n0_ n1_ n2_ n3_ n4_; clear hb hbox hg; have hcz4_0 : w3.cell? ⟨gb252, 0, none⟩ = some (.string (⟨#[]⟩ : ByteArray)) := (qh BK252.out 0).trans rfl; have hcz4_1 : w3.cell? ⟨gb252, 1, none⟩ = some (.string (⟨#[]⟩ : ByteArray)) := (qh BK252.out 1).trans rfl; have hcz4_2 : w3.cell? ⟨gb252, 2, none⟩ = some (.string (⟨#[]⟩ : ByteArray)) := (qh BK252.out 2).trans rfl; have hcz4_3 : w3.cell? ⟨gb252, 3, none⟩ = some (.slice none 0 0) := (qh BK252.out 3).trans rfl; have hcz4_4 : w3.cell? ⟨gb252, 4, none⟩ = some (.slice none 0 0) := (qh BK252.out 4).trans rfl; have hfz4_0 := qf BK252.out 0; have hfz4_1 := qf BK252.out 1; have hfz4_2 := qf BK252.out 2; have hfz4_3 := qf BK252.out 3; have hfz4_4 := qf BK252.out 4))
  refine bodyPost_ret (results_ct rfl _ _ gb252 86 #[.string (⟨#[]⟩ : ByteArray), .string (⟨#[]⟩ : ByteArray), .string (⟨#[]⟩ : ByteArray), .slice none 0 0, .slice none 0 0] (0, 0) _ rfl zz188 Tryz.underlying86 rfl (by kernel_rfl)) rfl ?_
  exact ⟨_, _, zz102, zz95, zz95, zz82⟩
 ·rw [if_neg c2] at H
  have c2b0 : ((l0.length : Int) == 0) = false := beq_eq_false_iff_ne.mpr c2
  have c2b1 : ((l0.length : Int) != 0) = true := bne_iff_ne.mpr c2
  have c2b2 : ¬ (l0 = []) := fun h_ => c2 (by rw [h_]; rfl)
  replace H := Option.bind_eq_some_iff.mp H
  obtain ⟨t253, A50, H⟩ := H
  replace H : (if t253 = true then ((qhc.f k l0).bind fun t254 => (if t254 = true then ((qjc.f k l0).bind fun t255 => (qec.j0 k t255)) else (qec.j0 k l0))) else (some ((⟨#[]⟩ : ByteArray), (⟨#[]⟩ : ByteArray), (⟨#[]⟩ : ByteArray), ([] : List (S55)), ([] : List (S86)), 2))) = some (r1, r2, r3, r4, r5, r6) := H
  have A5 := qa.mk A50
  clear A50
  by_cases c6 : t253 = true
  ·subst c6
   have H1 : ((qhc.f k l0).bind fun t254 => (if t254 = true then ((qjc.f k l0).bind fun t255 => (qec.j0 k t255)) else (qec.j0 k l0))) = some (r1, r2, r3, r4, r5, r6) := by rw [if_pos rfl] at H; exact H
   clear H
   have H := H1
   clear H1
   replace H := Option.bind_eq_some_iff.mp H
   obtain ⟨t254, A70, H⟩ := H
   replace H : (if t254 = true then ((qjc.f k l0).bind fun t255 => (qec.j0 k t255)) else (qec.j0 k l0)) = some (r1, r2, r3, r4, r5, r6) := H
   have A7 := qa.mk A70
   clear A70
   have HC8 := qa.mk H
   clear H
   go_enter Tryz.func49, Tryz.ntmps49
   go_upto_if 19 with (first | ((with_reducible refine qfb (N := 2) rfl ?_); refine qlb ?hg (N := 2) ?hd (cs := #[.string (⟨#[]⟩ : ByteArray), .string (⟨#[]⟩ : ByteArray), .string (⟨#[]⟩ : ByteArray), .slice none 0 0, .slice none 0 0]) (t := 86) ?hr ?_; (case hd => rfl); (case hg => rfl); (case hr => exact zz6); intro gb252 hg w9 hbox hb; have n0_ := qa.mk (Kd.V_below (Kd.V_elderB zz53 gb252 (Nat.le_of_eq hg.symm)) hb); have n1_ := qa.mk (qp zz52 hb); have n2_ := qa.mk (hbox); have n3_ := qa.mk ((by rw [hg]; exact (qo zz52) : w.heap.size ≤ gb252)); have n4_ := qa.mk ((by rw [hg]; exact (qo zz52) : w.heap.size ≤ gb252)); clear HO0; clear HB; have HO0 := n0_; have HB := n1_; have BK252 := n2_; have GW252 := n3_; have GE252 := n4_; clear n0_ n1_ n2_ n3_ n4_; clear hb hbox hg) | ((with_reducible refine qy (f := 64) rfl ?_); refine qrb (some 15) rfl rfl Tryz.func64 (by kernel_rfl) rfl #[.slice A0 l0.length c0] rfl zz93 ?_; (with_reducible refine (qub.calls k _ _ l0 true _ ?side1 ?side2 A5.out).mono ?_); (case side1 => exact zz119); (case side2 => exact (Kd.V_reads' HO0.out).2.1); rintro e w10 ⟨rfl, hb⟩; refine ⟨_, rfl, ?_⟩; have n0_ := qa.mk (Kd.V_below zz53 hb); have n1_ := qa.mk (qnb (g := gb252) (o := .cells #[.string (⟨#[]⟩ : ByteArray), .string (⟨#[]⟩ : ByteArray), .string (⟨#[]⟩ : ByteArray), .slice none 0 0, .slice none 0 0] 86 (0, 0)) zz48 hb); have n2_ := qa.mk (qp zz82 hb); clear HO0; clear BK252; clear HB; have HO0 := n0_; have BK252 := n1_; have HB := n2_; clear n0_ n1_ n2_; (try clear hb); (try clear hb2); (try clear hk); (try clear hi)) | ((with_reducible refine qy (f := 65) rfl ?_); refine qrb (some 19) rfl rfl Tryz.func65 (by kernel_rfl) rfl #[.slice A0 l0.length c0] rfl zz93 ?_; (with_reducible refine (qhc.calls k _ _ l0 t254 _ ?side1 ?side2 A7.out).mono ?_); (case side1 => exact zz119); (case side2 => exact (Kd.V_reads' HO0.out).2.1); rintro e w11 ⟨rfl, hb⟩; refine ⟨_, rfl, ?_⟩; have n0_ := qa.mk (Kd.V_below zz53 hb); have n1_ := qa.mk (qnb (g := gb252) (o := .cells #[.string (⟨#[]⟩ : ByteArray), .string (⟨#[]⟩ : ByteArray), .string (⟨#[]⟩ : ByteArray), .slice none 0 0, .slice none 0 0] 86 (0, 0)) zz48 hb); have n2_ := qa.mk (qp zz82 hb); clear HO0; clear BK252; clear HB; have HO0 := n0_; have BK252 := n1_; have HB := n2_; clear n0_ n1_ n2_; (try clear hb); (try clear hb2); (try clear hk); (try clear hi)))
   (try simp only [Act.put, List.setIfInBounds_toArray, List.set_cons_zero, List.set_cons_succ])
   go_cut [0] (fun v0 wc => ∃ (kq : Nat) (x0_7 : List (S53)), qa (qec.j0 kq x0_7 = some (r1, r2, r3, r4, r5, r6)) ∧ qa (kq ≤ k) ∧ qa (Kd.V k53 53 wc w.heap.size (fun k_ => (P0_ k_ ∨ w.heap.size ≤ k_) ∧ k_ ≠ gb252) v0 x0_7) ∧ qa (wc.heap[gb252]? = some (.cells #[.string (⟨#[]⟩ : ByteArray), .string (⟨#[]⟩ : ByteArray), .string (⟨#[]⟩ : ByteArray), (.slice none 0 0), (.slice none 0 0)] 86 (0, 0))) ∧ qa (Below w.heap.size w wc))
   case first =>
    have H := HC8.out
    clear HC8
    by_cases c12 : t254 = true
    ·subst c12
     have H1 : ((qjc.f k l0).bind fun t255 => (qec.j0 k t255)) = some (r1, r2, r3, r4, r5, r6) := by rw [if_pos rfl] at H; exact H
     clear H
     have H := H1
     clear H1
     replace H := Option.bind_eq_some_iff.mp H
     obtain ⟨t255, A130, H⟩ := H
     replace H : (qec.j0 k t255) = some (r1, r2, r3, r4, r5, r6) := H
     have A13 := qa.mk A130
     clear A130
     have H' := qa.mk H
     clear H
     go_wp2_with (first | ((with_reducible refine qy (f := 66) rfl ?_); refine qrb (some 21) rfl rfl Tryz.func66 (by kernel_rfl) rfl #[.slice A0 l0.length c0] rfl zz93 ?_; (with_reducible refine (qjc.calls k (fun k_ => ((P0_ k_ ∨ w.heap.size ≤ k_) ∧ k_ ≠ gb252)) _ _ l0 t255 _ ?side1 A13.out).mono ?_); (case side1 => exact HO0.out); rintro e w14 ⟨v256, rfl, ho0, hb⟩; refine ⟨_, rfl, ?_⟩; have n0_ := qa.mk (Kd.V_below zz53 hb); have n1_ := qa.mk (Kd.V_lower (Kd.V_mono (ok' := fun k_ => (P0_ k_ ∨ w.heap.size ≤ k_) ∧ k_ ≠ gb252) ho0 (fun k_ hk_ => ⟨Or.elim hk_ (fun hs_ => hs_.1) (fun hn_ => (.inr (Nat.le_trans (qo zz82) hn_))), Or.elim hk_ (fun hs_ => hs_.2) (fun hn_ => (Kd.freshB (g := gb252) (o := .cells #[.string (⟨#[]⟩ : ByteArray), .string (⟨#[]⟩ : ByteArray), .string (⟨#[]⟩ : ByteArray), .slice none 0 0, .slice none 0 0] 86 (0, 0)) zz48 k_ hn_))⟩)) (qo zz82)); have n2_ := qa.mk (qnb (g := gb252) (o := .cells #[.string (⟨#[]⟩ : ByteArray), .string (⟨#[]⟩ : ByteArray), .string (⟨#[]⟩ : ByteArray), .slice none 0 0, .slice none 0 0] 86 (0, 0)) zz48 hb); have n3_ := qa.mk (qp zz82 hb); clear HO0; clear BK252; clear HB; have HO0 := n0_; have HO257 := n1_; have BK252 := n2_; have HB := n3_; clear n0_ n1_ n2_ n3_; (try clear hb); (try clear hb2); (try clear hk); (try clear hi); (try clear ho0)))
     go_meet
     case rel => exact ⟨_, (t255), H', ⟨zz3⟩, ⟨by (with_reducible repeat (first | apply Kd.V_alloc | apply Kd.V_drewN | apply Kd.V_drew)); exact HO257.out⟩, ⟨zz48⟩, ⟨zz82⟩⟩
    ·replace c12 := Bool.eq_false_iff.mpr c12
     subst c12
     have H1 : (qec.j0 k l0) = some (r1, r2, r3, r4, r5, r6) := by rw [if_neg (show ¬ (false = true) by decide)] at H; exact H
     clear H
     have H := H1
     clear H1
     have H' := qa.mk H
     clear H
     go_wp2
     go_meet
     case rel => exact ⟨_, (l0), H', ⟨zz3⟩, ⟨zz53⟩, ⟨zz48⟩, ⟨zz82⟩⟩
   case rest =>
    clear HC8
    try clear c1
    try clear c2
    try clear c2b0
    try clear c2b1
    try clear c2b2
    try clear p2
    try clear c4
    try clear c6
    try clear c12
    try clear hcz4_0
    try clear hcz4_1
    try clear hcz4_2
    try clear hcz4_3
    try clear hcz4_4
    try clear hfz4_0
    try clear hfz4_1
    try clear hfz4_2
    try clear hfz4_3
    try clear hfz4_4
    obtain ⟨kq, x0_7, HA, HJ7, HO_0, BK252, HB⟩ := hcut
    cases kq with
    | zero => exact absurd HA.out (by simp [qec.j0])
    | succ kj7 =>
     have H := HA.out
     clear HA
     simp only [qec.j0] at H
     replace H := Option.bind_eq_some_iff.mp H
     obtain ⟨⟨t258, t259, t260, t261, t264, t267⟩, A150, H⟩ := H
     replace H : ((vtree_Check.f kj7 t258 t259 t260 t261 t264).bind fun bt269 => (if bt269.2 = 0 then (some (t258, t259, t260, t261, t264, 0)) else (some ((⟨#[]⟩ : ByteArray), (⟨#[]⟩ : ByteArray), (⟨#[]⟩ : ByteArray), ([] : List (S55)), ([] : List (S86)), bt269.2)))) = some (r1, r2, r3, r4, r5, r6) := H
     have A15 := qa.mk A150
     clear A150
     replace H := Option.bind_eq_some_iff.mp H
     obtain ⟨⟨t269, t270⟩, A160, H⟩ := H
     replace H : (if t270 = 0 then (some (t258, t259, t260, t261, t264, 0)) else (some ((⟨#[]⟩ : ByteArray), (⟨#[]⟩ : ByteArray), (⟨#[]⟩ : ByteArray), ([] : List (S55)), ([] : List (S86)), t270))) = some (r1, r2, r3, r4, r5, r6) := H
     have A16 := qa.mk A160
     clear A160
     by_cases c17 : t270 = 0
     ·rw [if_pos c17] at H
      have c17b0 : (t270 == 0) = true := beq_iff_eq.mpr c17
      have c17b1 : (t270 != 0) = false := bne_eq_false_iff_eq.mpr c17
      clear c17
      simp only [Option.some.injEq, Prod.mk.injEq] at H
      obtain ⟨rfl, rfl, rfl, rfl, rfl, rfl⟩ := H
      obtain ⟨Ao18, co18, eo18⟩ := Kd.V_slice HO_0.out
      subst eo18
      go_wp2_with (first | ((with_reducible refine qy (f := 67) rfl ?_); refine qrb (some 24) rfl rfl Tryz.func67 (by kernel_rfl) rfl #[.slice Ao18 x0_7.length co18, .int .i64 0] rfl zz93 ?_; (with_reducible refine (qtb.calls kj7 _ _ x0_7 0 t258 t259 t260 t261 t264 t267 _ ?side1 ?side2 A15.out).mono ?_); (case side1 => exact zz121); (case side2 => exact (Kd.V_reads' HO_0.out).2.1); rintro e w19 ⟨v262, v265, rfl, ho0, ho1, hb⟩; refine ⟨_, rfl, ?_⟩; have n0_ := qa.mk (Kd.V_mono (Kd.V_told (Kd.V_told (Kd.V_old zz56 hb) (Kd.R_base ho0)) (Kd.R_base ho1)) (fun _ h_ => h_.1)); have n1_ := qa.mk (Kd.R_lower (Kd.R_newM (M := fun k_ => (w.heap.size ≤ k_)) ho0 (qo zz82) (fun k_ h_ => h_)) (qo zz82)); have n2_ := qa.mk (Kd.R_lower (Kd.R_newB (Kd.R_newM (M := fun k_ => (w.heap.size ≤ k_)) ho1 (qo zz82) (fun k_ h_ => h_)) (g := gb252) (o := .cells #[.string (⟨#[]⟩ : ByteArray), .string (⟨#[]⟩ : ByteArray), .string (⟨#[]⟩ : ByteArray), .slice none 0 0, .slice none 0 0] 86 (0, 0)) zz48) (qo zz82)); have n3_ := qa.mk (qnb (g := gb252) (o := .cells #[.string (⟨#[]⟩ : ByteArray), .string (⟨#[]⟩ : ByteArray), .string (⟨#[]⟩ : ByteArray), .slice none 0 0, .slice none 0 0] 86 (0, 0)) zz48 hb); have n4_ := qa.mk (qp zz82 hb); clear HO_0; clear BK252; clear HB; have HO_0 := n0_; have HO263 := n1_; have HO266 := n2_; have BK252 := n3_; have HB := n4_; clear n0_ n1_ n2_ n3_ n4_; (try clear hb); (try clear hb2); (try clear hk); (try clear hi); (try clear ho0); (try clear ho1)) | ((with_reducible refine qfb (N := 4) rfl ?_); refine qlb ?hg (N := 4) ?hd (cs := #[.string (⟨#[]⟩ : ByteArray), .string (⟨#[]⟩ : ByteArray), .string (⟨#[]⟩ : ByteArray), .slice none 0 0, .slice none 0 0]) (t := 86) ?hr ?_; (case hd => rfl); (case hg => rfl); (case hr => exact zz6); intro gb268 hg w20 hbox hb; have n0_ := qa.mk (Kd.V_below (Kd.V_elderB zz56 gb268 (Nat.le_of_eq hg.symm)) hb); have n1_ := qa.mk (Kd.R_below (by (with_reducible repeat (first | apply Kd.R_alloc | apply Kd.R_drewN | apply Kd.R_drew)); exact HO263.out) hb); have n2_ := qa.mk (Kd.R_below (Kd.R_elderB (by (with_reducible repeat (first | apply Kd.R_alloc | apply Kd.R_drewN | apply Kd.R_drew)); exact HO266.out) gb268 (Nat.le_of_eq hg.symm)) hb); have n3_ := qa.mk (qnb (g := gb252) (o := .cells #[.string (⟨#[]⟩ : ByteArray), .string (⟨#[]⟩ : ByteArray), .string (⟨#[]⟩ : ByteArray), .slice none 0 0, .slice none 0 0] 86 (0, 0)) zz48 hb); have n4_ := qa.mk (qp zz82 hb); have n5_ := qa.mk (hbox); have n6_ := qa.mk ((by rw [hg]; exact (qo zz82) : w.heap.size ≤ gb268)); have n7_ := qa.mk ((by rw [hg]; exact (qo zz82) : w.heap.size ≤ gb268)); have n8_ := qa.mk ((by rw [hg]; exact qyc (qbc (g := gb252) (o := .cells #[.string (⟨#[]⟩ : ByteArray), .string (⟨#[]⟩ : ByteArray), .string (⟨#[]⟩ : ByteArray), .slice none 0 0, .slice none 0 0] 86 (0, 0)) zz48) : gb252 ≠ gb268)); have n9_ := qa.mk ((by rw [hg]; exact Nat.ne_of_gt (qbc (g := gb252) (o := .cells #[.string (⟨#[]⟩ : ByteArray), .string (⟨#[]⟩ : ByteArray), .string (⟨#[]⟩ : ByteArray), .slice none 0 0, .slice none 0 0] 86 (0, 0)) zz48) : gb268 ≠ gb252)); clear HO_0; clear HO263; clear HO266; clear BK252; clear HB; have HO_0 := n0_; have HO263 := n1_; have HO266 := n2_; have BK252 := n3_; have HB := n4_; have BK268 := n5_; have GW268 := n6_; have GE268 := n7_; have NB252_268 := n8_; have NB268_252 := n9_; clear n0_ n1_ n2_ n3_ n4_ n5_ n6_ n7_ n8_ n9_; clear hb hbox hg; have hnb21 := NB268_252.out; have hnc21 := NB252_268.out; have hcz22_0 : w20.cell? ⟨gb268, 0, none⟩ = some (.string (⟨#[]⟩ : ByteArray)) := (qh BK268.out 0).trans rfl; have hcz22_1 : w20.cell? ⟨gb268, 1, none⟩ = some (.string (⟨#[]⟩ : ByteArray)) := (qh BK268.out 1).trans rfl; have hcz22_2 : w20.cell? ⟨gb268, 2, none⟩ = some (.string (⟨#[]⟩ : ByteArray)) := (qh BK268.out 2).trans rfl; have hcz22_3 : w20.cell? ⟨gb268, 3, none⟩ = some (.slice none 0 0) := (qh BK268.out 3).trans rfl; have hcz22_4 : w20.cell? ⟨gb268, 4, none⟩ = some (.slice none 0 0) := (qh BK268.out 4).trans rfl; have hfz22_0 := qf BK268.out 0; have hfz22_1 := qf BK268.out 1; have hfz22_2 := qf BK268.out 2; have hfz22_3 := qf BK268.out 3; have hfz22_4 := qf BK268.out 4; obtain ⟨Ao23, co23, eo23⟩ := Kd.R_slice HO263.out; subst eo23; obtain ⟨Ao24, co24, eo24⟩ := Kd.R_slice HO266.out; subst eo24) | ((with_reducible refine qy (f := 68) rfl ?_); refine qrb (some 29) rfl rfl Tryz.func68 (by kernel_rfl) rfl #[.agg #[.string t258, .string t259, .string t260, .slice Ao23 t261.length co23, .slice Ao24 t264.length co24]] rfl zz93 ?_; (with_reducible refine (vtree_Check.calls kj7 t258 t259 t260 _ _ t261 _ _ t264 t269 t270 _ ?side1 ?side2 ?side3 ?side4 A16.out).mono ?_); (case side1 => refine (Kd.R_reads' (e := 55) (base := w.heap.size) (ok := fun k_ => ((w.heap.size ≤ k_) ∧ True)) (n := t261.length) (c := co23) ?_).2.2; exact zz168); (case side2 => exact (Kd.R_reads' HO263.out).2.1); (case side3 => refine (Kd.R_reads' (e := 86) (base := w.heap.size) (ok := fun k_ => ((((w.heap.size ≤ k_) ∧ some k_ ≠ (.slice Ao23 t261.length co23 : Value).ownBlock) ∧ k_ ≠ gb252) ∧ k_ ≠ gb268)) (n := t264.length) (c := co24) ?_).2.2; exact zz170); (case side4 => exact (Kd.R_reads' HO266.out).2.1); rintro e w25 ⟨rfl, hb⟩; refine ⟨_, rfl, ?_⟩; have n0_ := qa.mk (Kd.V_below (by (with_reducible repeat (first | apply Kd.V_alloc | apply Kd.V_drewN | apply Kd.V_drew)); exact (Kd.V_mono (Kd.V_far (p := ⟨gb268, 4, none⟩) (Kd.V_far (p := ⟨gb268, 3, none⟩) (Kd.V_far (p := ⟨gb268, 2, none⟩) (Kd.V_far (p := ⟨gb268, 1, none⟩) (Kd.V_far (p := ⟨gb268, 0, none⟩) (Kd.V_mono HO_0.out (fun k_ hk => (⟨hk, hk.2⟩ : _ ∧ k_ ≠ gb268))) (fun _ hk => hk.2) (.string t258)) (fun _ hk => hk.2) (.string t259)) (fun _ hk => hk.2) (.string t260)) (fun _ hk => hk.2) (.slice Ao23 t261.length co23)) (fun _ hk => hk.2) (.slice Ao24 t264.length co24)) (fun _ h_ => h_.1))) hb); have n1_ := qa.mk (Kd.R_below zz168 hb); have n2_ := qa.mk (Kd.R_below zz170 hb); have n3_ := qa.mk (qnb (g := gb252) (o := .cells #[.string (⟨#[]⟩ : ByteArray), .string (⟨#[]⟩ : ByteArray), .string (⟨#[]⟩ : ByteArray), .slice none 0 0, .slice none 0 0] 86 (0, 0)) zz172 hb); have n4_ := qa.mk (qnb (g := gb268) (o := .cells #[.string t258, .string t259, .string t260, .slice Ao23 t261.length co23, .slice Ao24 t264.length co24] 86 (0, 0)) (by (with_reducible repeat (first | refine qk ?_ _ | refine ql ?_ | refine qj ?_ _)); refine qr (cs := #[.string t258, .string t259, .string t260, .slice Ao23 t261.length co23, .slice none 0 0]) ?_ 4 _ rfl; (with_reducible repeat (first | refine qk ?_ _ | refine ql ?_ | refine qj ?_ _)); refine qr (cs := #[.string t258, .string t259, .string t260, .slice none 0 0, .slice none 0 0]) ?_ 3 _ rfl; (with_reducible repeat (first | refine qk ?_ _ | refine ql ?_ | refine qj ?_ _)); refine qr (cs := #[.string t258, .string t259, .string (⟨#[]⟩ : ByteArray), .slice none 0 0, .slice none 0 0]) ?_ 2 _ rfl; (with_reducible repeat (first | refine qk ?_ _ | refine ql ?_ | refine qj ?_ _)); refine qr (cs := #[.string t258, .string (⟨#[]⟩ : ByteArray), .string (⟨#[]⟩ : ByteArray), .slice none 0 0, .slice none 0 0]) ?_ 1 _ rfl; (with_reducible repeat (first | refine qk ?_ _ | refine ql ?_ | refine qj ?_ _)); refine qr (cs := #[.string (⟨#[]⟩ : ByteArray), .string (⟨#[]⟩ : ByteArray), .string (⟨#[]⟩ : ByteArray), .slice none 0 0, .slice none 0 0]) ?_ 0 _ rfl; (with_reducible repeat (first | refine qk ?_ _ | refine ql ?_ | refine qj ?_ _)); exact BK268.out) hb); have n5_ := qa.mk (qp zz106 hb); clear HO_0; clear HO263; clear HO266; clear BK252; clear BK268; clear HB; have HO_0 := n0_; have HO263 := n1_; have HO266 := n2_; have BK252 := n3_; have BK268 := n4_; have HB := n5_; clear n0_ n1_ n2_ n3_ n4_ n5_; (try clear hb); (try clear hb2); (try clear hk); (try clear hi); have hcz26_0 : w25.cell? ⟨gb268, 0, none⟩ = some (.string t258) := (qh BK268.out 0).trans rfl; have hcz26_1 : w25.cell? ⟨gb268, 1, none⟩ = some (.string t259) := (qh BK268.out 1).trans rfl; have hcz26_2 : w25.cell? ⟨gb268, 2, none⟩ = some (.string t260) := (qh BK268.out 2).trans rfl; have hcz26_3 : w25.cell? ⟨gb268, 3, none⟩ = some (.slice Ao23 t261.length co23) := (qh BK268.out 3).trans rfl; have hcz26_4 : w25.cell? ⟨gb268, 4, none⟩ = some (.slice Ao24 t264.length co24) := (qh BK268.out 4).trans rfl; have hfz26_0 := qf BK268.out 0; have hfz26_1 := qf BK268.out 1; have hfz26_2 := qf BK268.out 2; have hfz26_3 := qf BK268.out 3; have hfz26_4 := qf BK268.out 4; have hcz27_0 : w25.cell? ⟨gb252, 0, none⟩ = some (.string (⟨#[]⟩ : ByteArray)) := (qh BK252.out 0).trans rfl; have hcz27_1 : w25.cell? ⟨gb252, 1, none⟩ = some (.string (⟨#[]⟩ : ByteArray)) := (qh BK252.out 1).trans rfl; have hcz27_2 : w25.cell? ⟨gb252, 2, none⟩ = some (.string (⟨#[]⟩ : ByteArray)) := (qh BK252.out 2).trans rfl; have hcz27_3 : w25.cell? ⟨gb252, 3, none⟩ = some (.slice none 0 0) := (qh BK252.out 3).trans rfl; have hcz27_4 : w25.cell? ⟨gb252, 4, none⟩ = some (.slice none 0 0) := (qh BK252.out 4).trans rfl; have hfz27_0 := qf BK252.out 0; have hfz27_1 := qf BK252.out 1; have hfz27_2 := qf BK252.out 2; have hfz27_3 := qf BK252.out 3; have hfz27_4 := qf BK252.out 4))
      refine bodyPost_ret (results_ct rfl _ _ gb252 86 #[.string t258, .string t259, .string t260, .slice Ao23 t261.length co23, .slice Ao24 t264.length co24] (0, 0) _ rfl (by (with_reducible repeat (first | refine qk ?_ _ | refine ql ?_ | refine qj ?_ _)); refine qr (cs := #[.string t258, .string t259, .string t260, .slice Ao23 t261.length co23, .slice none 0 0]) ?_ 4 _ rfl; (with_reducible repeat (first | refine qk ?_ _ | refine ql ?_ | refine qj ?_ _)); refine qr (cs := #[.string t258, .string t259, .string t260, .slice none 0 0, .slice none 0 0]) ?_ 3 _ rfl; (with_reducible repeat (first | refine qk ?_ _ | refine ql ?_ | refine qj ?_ _)); refine qr (cs := #[.string t258, .string t259, .string (⟨#[]⟩ : ByteArray), .slice none 0 0, .slice none 0 0]) ?_ 2 _ rfl; (with_reducible repeat (first | refine qk ?_ _ | refine ql ?_ | refine qj ?_ _)); refine qr (cs := #[.string t258, .string (⟨#[]⟩ : ByteArray), .string (⟨#[]⟩ : ByteArray), .slice none 0 0, .slice none 0 0]) ?_ 1 _ rfl; (with_reducible repeat (first | refine qk ?_ _ | refine ql ?_ | refine qj ?_ _)); refine qr (cs := #[.string (⟨#[]⟩ : ByteArray), .string (⟨#[]⟩ : ByteArray), .string (⟨#[]⟩ : ByteArray), .slice none 0 0, .slice none 0 0]) ?_ 0 _ rfl; (with_reducible repeat (first | refine qk ?_ _ | refine ql ?_ | refine qj ?_ _)); exact BK252.out) Tryz.underlying86 rfl (by kernel_rfl)) rfl ?_
      exact ⟨_, _, zz102, by (with_reducible repeat (first | apply Kd.R_alloc | apply Kd.R_drewN | apply Kd.R_drew)); exact Kd.R_mono (Kd.R_far (p := ⟨gb252, 4, none⟩) (Kd.R_far (p := ⟨gb252, 3, none⟩) (Kd.R_far (p := ⟨gb252, 2, none⟩) (Kd.R_far (p := ⟨gb252, 1, none⟩) (Kd.R_far (p := ⟨gb252, 0, none⟩) (Kd.R_types HO263.out BK252.out (by decide)) (fun _ hk => hk.2) (.string t258)) (fun _ hk => hk.2) (.string t259)) (fun _ hk => hk.2) (.string t260)) (fun _ hk => hk.2) (.slice Ao23 t261.length co23)) (fun _ hk => hk.2) (.slice Ao24 t264.length co24)) (fun _ hk => hk.1.1), by (with_reducible repeat (first | apply Kd.R_alloc | apply Kd.R_drewN | apply Kd.R_drew)); exact Kd.R_mono (Kd.R_far (p := ⟨gb252, 4, none⟩) (Kd.R_far (p := ⟨gb252, 3, none⟩) (Kd.R_far (p := ⟨gb252, 2, none⟩) (Kd.R_far (p := ⟨gb252, 1, none⟩) (Kd.R_far (p := ⟨gb252, 0, none⟩) (Kd.R_mono HO266.out (fun k_ hk => (⟨hk, hk.1.2⟩ : _ ∧ k_ ≠ gb252))) (fun _ hk => hk.2) (.string t258)) (fun _ hk => hk.2) (.string t259)) (fun _ hk => hk.2) (.string t260)) (fun _ hk => hk.2) (.slice Ao23 t261.length co23)) (fun _ hk => hk.2) (.slice Ao24 t264.length co24)) (fun _ hk => ⟨hk.1.1.1.1, hk.1.1.1.2⟩), zz106⟩
     ·rw [if_neg c17] at H
      have c17b0 : (t270 == 0) = false := beq_eq_false_iff_ne.mpr c17
      have c17b1 : (t270 != 0) = true := bne_iff_ne.mpr c17
      simp only [Option.some.injEq, Prod.mk.injEq] at H
      obtain ⟨rfl, rfl, rfl, rfl, rfl, rfl⟩ := H
      obtain ⟨Ao28, co28, eo28⟩ := Kd.V_slice HO_0.out
      subst eo28
      go_wp2_with (first | ((with_reducible refine qy (f := 67) rfl ?_); refine qrb (some 24) rfl rfl Tryz.func67 (by kernel_rfl) rfl #[.slice Ao28 x0_7.length co28, .int .i64 0] rfl zz93 ?_; (with_reducible refine (qtb.calls kj7 _ _ x0_7 0 t258 t259 t260 t261 t264 t267 _ ?side1 ?side2 A15.out).mono ?_); (case side1 => exact zz121); (case side2 => exact (Kd.V_reads' HO_0.out).2.1); rintro e w29 ⟨v262, v265, rfl, ho0, ho1, hb⟩; refine ⟨_, rfl, ?_⟩; have n0_ := qa.mk (Kd.V_mono (Kd.V_told (Kd.V_told (Kd.V_old zz56 hb) (Kd.R_base ho0)) (Kd.R_base ho1)) (fun _ h_ => h_.1)); have n1_ := qa.mk (Kd.R_lower (Kd.R_newM (M := fun k_ => (w.heap.size ≤ k_)) ho0 (qo zz82) (fun k_ h_ => h_)) (qo zz82)); have n2_ := qa.mk (Kd.R_lower (Kd.R_newB (Kd.R_newM (M := fun k_ => (w.heap.size ≤ k_)) ho1 (qo zz82) (fun k_ h_ => h_)) (g := gb252) (o := .cells #[.string (⟨#[]⟩ : ByteArray), .string (⟨#[]⟩ : ByteArray), .string (⟨#[]⟩ : ByteArray), .slice none 0 0, .slice none 0 0] 86 (0, 0)) zz48) (qo zz82)); have n3_ := qa.mk (qnb (g := gb252) (o := .cells #[.string (⟨#[]⟩ : ByteArray), .string (⟨#[]⟩ : ByteArray), .string (⟨#[]⟩ : ByteArray), .slice none 0 0, .slice none 0 0] 86 (0, 0)) zz48 hb); have n4_ := qa.mk (qp zz82 hb); clear HO_0; clear BK252; clear HB; have HO_0 := n0_; have HO263 := n1_; have HO266 := n2_; have BK252 := n3_; have HB := n4_; clear n0_ n1_ n2_ n3_ n4_; (try clear hb); (try clear hb2); (try clear hk); (try clear hi); (try clear ho0); (try clear ho1)) | ((with_reducible refine qfb (N := 4) rfl ?_); refine qlb ?hg (N := 4) ?hd (cs := #[.string (⟨#[]⟩ : ByteArray), .string (⟨#[]⟩ : ByteArray), .string (⟨#[]⟩ : ByteArray), .slice none 0 0, .slice none 0 0]) (t := 86) ?hr ?_; (case hd => rfl); (case hg => rfl); (case hr => exact zz6); intro gb268 hg w30 hbox hb; have n0_ := qa.mk (Kd.V_below (Kd.V_elderB zz56 gb268 (Nat.le_of_eq hg.symm)) hb); have n1_ := qa.mk (Kd.R_below (by (with_reducible repeat (first | apply Kd.R_alloc | apply Kd.R_drewN | apply Kd.R_drew)); exact HO263.out) hb); have n2_ := qa.mk (Kd.R_below (Kd.R_elderB (by (with_reducible repeat (first | apply Kd.R_alloc | apply Kd.R_drewN | apply Kd.R_drew)); exact HO266.out) gb268 (Nat.le_of_eq hg.symm)) hb); have n3_ := qa.mk (qnb (g := gb252) (o := .cells #[.string (⟨#[]⟩ : ByteArray), .string (⟨#[]⟩ : ByteArray), .string (⟨#[]⟩ : ByteArray), .slice none 0 0, .slice none 0 0] 86 (0, 0)) zz48 hb); have n4_ := qa.mk (qp zz82 hb); have n5_ := qa.mk (hbox); have n6_ := qa.mk ((by rw [hg]; exact (qo zz82) : w.heap.size ≤ gb268)); have n7_ := qa.mk ((by rw [hg]; exact (qo zz82) : w.heap.size ≤ gb268)); have n8_ := qa.mk ((by rw [hg]; exact qyc (qbc (g := gb252) (o := .cells #[.string (⟨#[]⟩ : ByteArray), .string (⟨#[]⟩ : ByteArray), .string (⟨#[]⟩ : ByteArray), .slice none 0 0, .slice none 0 0] 86 (0, 0)) zz48) : gb252 ≠ gb268)); have n9_ := qa.mk ((by rw [hg]; exact Nat.ne_of_gt (qbc (g := gb252) (o := .cells #[.string (⟨#[]⟩ : ByteArray), .string (⟨#[]⟩ : ByteArray), .string (⟨#[]⟩ : ByteArray), .slice none 0 0, .slice none 0 0] 86 (0, 0)) zz48) : gb268 ≠ gb252)); clear HO_0; clear HO263; clear HO266; clear BK252; clear HB; have HO_0 := n0_; have HO263 := n1_; have HO266 := n2_; have BK252 := n3_; have HB := n4_; have BK268 := n5_; have GW268 := n6_; have GE268 := n7_; have NB252_268 := n8_; have NB268_252 := n9_; clear n0_ n1_ n2_ n3_ n4_ n5_ n6_ n7_ n8_ n9_; clear hb hbox hg; have hnb31 := NB268_252.out; have hnc31 := NB252_268.out; have hcz32_0 : w30.cell? ⟨gb268, 0, none⟩ = some (.string (⟨#[]⟩ : ByteArray)) := (qh BK268.out 0).trans rfl; have hcz32_1 : w30.cell? ⟨gb268, 1, none⟩ = some (.string (⟨#[]⟩ : ByteArray)) := (qh BK268.out 1).trans rfl; have hcz32_2 : w30.cell? ⟨gb268, 2, none⟩ = some (.string (⟨#[]⟩ : ByteArray)) := (qh BK268.out 2).trans rfl; have hcz32_3 : w30.cell? ⟨gb268, 3, none⟩ = some (.slice none 0 0) := (qh BK268.out 3).trans rfl; have hcz32_4 : w30.cell? ⟨gb268, 4, none⟩ = some (.slice none 0 0) := (qh BK268.out 4).trans rfl; have hfz32_0 := qf BK268.out 0; have hfz32_1 := qf BK268.out 1; have hfz32_2 := qf BK268.out 2; have hfz32_3 := qf BK268.out 3; have hfz32_4 := qf BK268.out 4; obtain ⟨Ao33, co33, eo33⟩ := Kd.R_slice HO263.out; subst eo33; obtain ⟨Ao34, co34, eo34⟩ := Kd.R_slice HO266.out; subst eo34) | ((with_reducible refine qy (f := 68) rfl ?_); refine qrb (some 29) rfl rfl Tryz.func68 (by kernel_rfl) rfl #[.agg #[.string t258, .string t259, .string t260, .slice Ao33 t261.length co33, .slice Ao34 t264.length co34]] rfl zz93 ?_; (with_reducible refine (vtree_Check.calls kj7 t258 t259 t260 _ _ t261 _ _ t264 t269 t270 _ ?side1 ?side2 ?side3 ?side4 A16.out).mono ?_); (case side1 => refine (Kd.R_reads' (e := 55) (base := w.heap.size) (ok := fun k_ => ((w.heap.size ≤ k_) ∧ True)) (n := t261.length) (c := co33) ?_).2.2; exact zz169); (case side2 => exact (Kd.R_reads' HO263.out).2.1); (case side3 => refine (Kd.R_reads' (e := 86) (base := w.heap.size) (ok := fun k_ => ((((w.heap.size ≤ k_) ∧ some k_ ≠ (.slice Ao33 t261.length co33 : Value).ownBlock) ∧ k_ ≠ gb252) ∧ k_ ≠ gb268)) (n := t264.length) (c := co34) ?_).2.2; exact zz171); (case side4 => exact (Kd.R_reads' HO266.out).2.1); rintro e w35 ⟨rfl, hb⟩; refine ⟨_, rfl, ?_⟩; have n0_ := qa.mk (Kd.V_below (by (with_reducible repeat (first | apply Kd.V_alloc | apply Kd.V_drewN | apply Kd.V_drew)); exact (Kd.V_mono (Kd.V_far (p := ⟨gb268, 4, none⟩) (Kd.V_far (p := ⟨gb268, 3, none⟩) (Kd.V_far (p := ⟨gb268, 2, none⟩) (Kd.V_far (p := ⟨gb268, 1, none⟩) (Kd.V_far (p := ⟨gb268, 0, none⟩) (Kd.V_mono HO_0.out (fun k_ hk => (⟨hk, hk.2⟩ : _ ∧ k_ ≠ gb268))) (fun _ hk => hk.2) (.string t258)) (fun _ hk => hk.2) (.string t259)) (fun _ hk => hk.2) (.string t260)) (fun _ hk => hk.2) (.slice Ao33 t261.length co33)) (fun _ hk => hk.2) (.slice Ao34 t264.length co34)) (fun _ h_ => h_.1))) hb); have n1_ := qa.mk (Kd.R_below zz169 hb); have n2_ := qa.mk (Kd.R_below zz171 hb); have n3_ := qa.mk (qnb (g := gb252) (o := .cells #[.string (⟨#[]⟩ : ByteArray), .string (⟨#[]⟩ : ByteArray), .string (⟨#[]⟩ : ByteArray), .slice none 0 0, .slice none 0 0] 86 (0, 0)) zz172 hb); have n4_ := qa.mk (qnb (g := gb268) (o := .cells #[.string t258, .string t259, .string t260, .slice Ao33 t261.length co33, .slice Ao34 t264.length co34] 86 (0, 0)) (by (with_reducible repeat (first | refine qk ?_ _ | refine ql ?_ | refine qj ?_ _)); refine qr (cs := #[.string t258, .string t259, .string t260, .slice Ao33 t261.length co33, .slice none 0 0]) ?_ 4 _ rfl; (with_reducible repeat (first | refine qk ?_ _ | refine ql ?_ | refine qj ?_ _)); refine qr (cs := #[.string t258, .string t259, .string t260, .slice none 0 0, .slice none 0 0]) ?_ 3 _ rfl; (with_reducible repeat (first | refine qk ?_ _ | refine ql ?_ | refine qj ?_ _)); refine qr (cs := #[.string t258, .string t259, .string (⟨#[]⟩ : ByteArray), .slice none 0 0, .slice none 0 0]) ?_ 2 _ rfl; (with_reducible repeat (first | refine qk ?_ _ | refine ql ?_ | refine qj ?_ _)); refine qr (cs := #[.string t258, .string (⟨#[]⟩ : ByteArray), .string (⟨#[]⟩ : ByteArray), .slice none 0 0, .slice none 0 0]) ?_ 1 _ rfl; (with_reducible repeat (first | refine qk ?_ _ | refine ql ?_ | refine qj ?_ _)); refine qr (cs := #[.string (⟨#[]⟩ : ByteArray), .string (⟨#[]⟩ : ByteArray), .string (⟨#[]⟩ : ByteArray), .slice none 0 0, .slice none 0 0]) ?_ 0 _ rfl; (with_reducible repeat (first | refine qk ?_ _ | refine ql ?_ | refine qj ?_ _)); exact BK268.out) hb); have n5_ := qa.mk (qp zz106 hb); clear HO_0; clear HO263; clear HO266; clear BK252; clear BK268; clear HB; have HO_0 := n0_; have HO263 := n1_; have HO266 := n2_; have BK252 := n3_; have BK268 := n4_; have HB := n5_; clear n0_ n1_ n2_ n3_ n4_ n5_; (try clear hb); (try clear hb2); (try clear hk); (try clear hi); have hcz36_0 : w35.cell? ⟨gb252, 0, none⟩ = some (.string (⟨#[]⟩ : ByteArray)) := (qh BK252.out 0).trans rfl; have hcz36_1 : w35.cell? ⟨gb252, 1, none⟩ = some (.string (⟨#[]⟩ : ByteArray)) := (qh BK252.out 1).trans rfl; have hcz36_2 : w35.cell? ⟨gb252, 2, none⟩ = some (.string (⟨#[]⟩ : ByteArray)) := (qh BK252.out 2).trans rfl; have hcz36_3 : w35.cell? ⟨gb252, 3, none⟩ = some (.slice none 0 0) := (qh BK252.out 3).trans rfl; have hcz36_4 : w35.cell? ⟨gb252, 4, none⟩ = some (.slice none 0 0) := (qh BK252.out 4).trans rfl; have hfz36_0 := qf BK252.out 0; have hfz36_1 := qf BK252.out 1; have hfz36_2 := qf BK252.out 2; have hfz36_3 := qf BK252.out 3; have hfz36_4 := qf BK252.out 4))
      refine bodyPost_ret (results_ct rfl _ _ gb252 86 #[.string (⟨#[]⟩ : ByteArray), .string (⟨#[]⟩ : ByteArray), .string (⟨#[]⟩ : ByteArray), .slice none 0 0, .slice none 0 0] (0, 0) _ rfl zz188 Tryz.underlying86 rfl (by kernel_rfl)) rfl ?_
      exact ⟨_, _, zz102, zz95, zz95, zz106⟩
  ·replace c6 := Bool.eq_false_iff.mpr c6
   subst c6
   have H1 : (some ((⟨#[]⟩ : ByteArray), (⟨#[]⟩ : ByteArray), (⟨#[]⟩ : ByteArray), ([] : List (S55)), ([] : List (S86)), 2)) = some (r1, r2, r3, r4, r5, r6) := by rw [if_neg (show ¬ (false = true) by decide)] at H; exact H
   clear H
   have H := H1
   clear H1
   simp only [Option.some.injEq, Prod.mk.injEq] at H
   obtain ⟨rfl, rfl, rfl, rfl, rfl, rfl⟩ := H
   go_enter Tryz.func49, Tryz.ntmps49
   go_wp2_with (first | ((with_reducible refine qfb (N := 2) rfl ?_); refine qlb ?hg (N := 2) ?hd (cs := #[.string (⟨#[]⟩ : ByteArray), .string (⟨#[]⟩ : ByteArray), .string (⟨#[]⟩ : ByteArray), .slice none 0 0, .slice none 0 0]) (t := 86) ?hr ?_; (case hd => rfl); (case hg => rfl); (case hr => exact zz6); intro gb252 hg w37 hbox hb; have n0_ := qa.mk (Kd.V_below (Kd.V_elderB zz53 gb252 (Nat.le_of_eq hg.symm)) hb); have n1_ := qa.mk (qp zz52 hb); have n2_ := qa.mk (hbox); have n3_ := qa.mk ((by rw [hg]; exact (qo zz52) : w.heap.size ≤ gb252)); have n4_ := qa.mk ((by rw [hg]; exact (qo zz52) : w.heap.size ≤ gb252)); clear HO0; clear HB; have HO0 := n0_; have HB := n1_; have BK252 := n2_; have GW252 := n3_; have GE252 := n4_; clear n0_ n1_ n2_ n3_ n4_; clear hb hbox hg) | ((with_reducible refine qy (f := 64) rfl ?_); refine qrb (some 15) rfl rfl Tryz.func64 (by kernel_rfl) rfl #[.slice A0 l0.length c0] rfl zz93 ?_; (with_reducible refine (qub.calls k _ _ l0 false _ ?side1 ?side2 A5.out).mono ?_); (case side1 => exact zz119); (case side2 => exact (Kd.V_reads' HO0.out).2.1); rintro e w38 ⟨rfl, hb⟩; refine ⟨_, rfl, ?_⟩; have n0_ := qa.mk (Kd.V_below zz53 hb); have n1_ := qa.mk (qnb (g := gb252) (o := .cells #[.string (⟨#[]⟩ : ByteArray), .string (⟨#[]⟩ : ByteArray), .string (⟨#[]⟩ : ByteArray), .slice none 0 0, .slice none 0 0] 86 (0, 0)) zz48 hb); have n2_ := qa.mk (qp zz82 hb); clear HO0; clear BK252; clear HB; have HO0 := n0_; have BK252 := n1_; have HB := n2_; clear n0_ n1_ n2_; (try clear hb); (try clear hb2); (try clear hk); (try clear hi); have hcz39_0 : w38.cell? ⟨gb252, 0, none⟩ = some (.string (⟨#[]⟩ : ByteArray)) := (qh BK252.out 0).trans rfl; have hcz39_1 : w38.cell? ⟨gb252, 1, none⟩ = some (.string (⟨#[]⟩ : ByteArray)) := (qh BK252.out 1).trans rfl; have hcz39_2 : w38.cell? ⟨gb252, 2, none⟩ = some (.string (⟨#[]⟩ : ByteArray)) := (qh BK252.out 2).trans rfl; have hcz39_3 : w38.cell? ⟨gb252, 3, none⟩ = some (.slice none 0 0) := (qh BK252.out 3).trans rfl; have hcz39_4 : w38.cell? ⟨gb252, 4, none⟩ = some (.slice none 0 0) := (qh BK252.out 4).trans rfl; have hfz39_0 := qf BK252.out 0; have hfz39_1 := qf BK252.out 1; have hfz39_2 := qf BK252.out 2; have hfz39_3 := qf BK252.out 3; have hfz39_4 := qf BK252.out 4))
   refine bodyPost_ret (results_ct rfl _ _ gb252 86 #[.string (⟨#[]⟩ : ByteArray), .string (⟨#[]⟩ : ByteArray), .string (⟨#[]⟩ : ByteArray), .slice none 0 0, .slice none 0 0] (0, 0) _ rfl zz188 Tryz.underlying86 rfl (by kernel_rfl)) rfl ?_
   exact ⟨_, _, zz102, zz95, zz95, zz82⟩
def qic.f (k : Nat) (l0 : List (S53)) : Option (Int) := if (l0.length : Int) = 0 then (some 0) else ((qec.f k l0).bind fun bt271 => (some bt271.2.2.2.2.2))
theorem qic.mono : ∀ a0 k, LeO (qic.f k a0) (qic.f (k + 1) a0) := by
 intro a0 k
 unfold qic.f
 repeat' first
   | (with_reducible exact qec.mono _ _)
   | (with_reducible exact LeO.refl _)
   | (with_reducible exact LeO.none _)
   | (with_reducible refine LeO.ite ?_ ?_)
   | (with_reducible refine LeO.bind ?_ (fun _ => ?_))
   | exact qec.mono _ _
   | exact LeO.none _
   | refine LeO.ite ?_ ?_
   | refine LeO.bind ?_ (fun _ => ?_)
set_option maxHeartbeats 8000000 in
set_option maxRecDepth 100000 in
theorem qic.calls (k : Nat) (A0 : Option Addr) (c0 : Nat) (l0 : List (S53)) (r : Int) (w : World) (hr0 : Kd.C k53 w A0 l0.length l0) (hc0 : l0.length ≤ c0) (h : qic.f k l0 = some r) :
  Calls Tryz.prog 30 #[.slice A0 l0.length c0] w fun e w' => e = .returned (.int .i64 r) ∧ Below w.heap.size w w' := by
 have hu86 := Tryz.underlying86
 have HR0 := qa.mk hr0
 have HC0 := qa.mk hc0
 clear hr0 hc0
 have HB := qa.mk (Below.refl w.heap.size w)
 have H : (if (l0.length : Int) = 0 then (some 0) else ((qec.f k l0).bind fun bt271 => (some bt271.2.2.2.2.2))) = some r := h
 clear h
 by_cases c2 : (l0.length : Int) = 0
 ·rw [if_pos c2] at H
  have c2b0 : ((l0.length : Int) == 0) = true := beq_iff_eq.mpr c2
  have c2b1 : ((l0.length : Int) != 0) = false := bne_eq_false_iff_eq.mpr c2
  clear c2
  obtain rfl := Option.some.inj H
  go_enter Tryz.func30, Tryz.ntmps30
  go_wp2
  go_ret
  exact ⟨zz102, zz52⟩
 ·rw [if_neg c2] at H
  have c2b0 : ((l0.length : Int) == 0) = false := beq_eq_false_iff_ne.mpr c2
  have c2b1 : ((l0.length : Int) != 0) = true := bne_iff_ne.mpr c2
  have c2b2 : ¬ (l0 = []) := fun h_ => c2 (by rw [h_]; rfl)
  replace H := Option.bind_eq_some_iff.mp H
  obtain ⟨⟨t271, t272, t273, t274, t277, t280⟩, A30, H⟩ := H
  replace H : (some t280) = some r := H
  have A3 := qa.mk A30
  clear A30
  obtain rfl := Option.some.inj H
  go_enter Tryz.func30, Tryz.ntmps30
  go_wp2_with (first | ((with_reducible refine qy (f := 49) rfl ?_); refine qrb (some 10) rfl rfl Tryz.func49 (by kernel_rfl) rfl #[.slice A0 l0.length c0] rfl zz93 ?_; (with_reducible refine (qec.calls k (fun k_ => k_ < w.heap.size) _ _ l0 t271 t272 t273 t274 t277 t280 _ ?side1 A3.out).mono ?_); (case side1 => exact Kd.V_mk HC0.out (Kd.F_below (Kd.C_F k53_heap HR0.out) zz52)); rintro e w4 ⟨v275, v278, rfl, ho0, ho1, hb⟩; refine ⟨_, rfl, ?_⟩; have n0_ := qa.mk (Kd.R_lower (Kd.R_mono (ok' := fun k_ => True) ho0 (fun _ hk_ => trivial)) (qo zz52)); have n1_ := qa.mk (Kd.R_lower (Kd.R_mono (ok' := fun k_ => some k_ ≠ (v275 : Value).ownBlock) ho1 (fun _ hk_ => hk_.2)) (qo zz52)); have n2_ := qa.mk (qp zz52 hb); clear HB; have HO276 := n0_; have HO279 := n1_; have HB := n2_; clear n0_ n1_ n2_; (try clear hb); (try clear hb2); (try clear hk); (try clear hi); (try clear ho0); (try clear ho1)) | ((with_reducible refine qfb (N := 3) rfl ?_); refine qlb ?hg (N := 3) ?hd (cs := #[.string (⟨#[]⟩ : ByteArray), .string (⟨#[]⟩ : ByteArray), .string (⟨#[]⟩ : ByteArray), .slice none 0 0, .slice none 0 0]) (t := 86) ?hr ?_; (case hd => rfl); (case hg => rfl); (case hr => exact zz6); intro gb281 hg w5 hbox hb; have n0_ := qa.mk (Kd.R_below (by (with_reducible repeat (first | apply Kd.R_alloc | apply Kd.R_drewN | apply Kd.R_drew)); exact HO276.out) hb); have n1_ := qa.mk (Kd.R_below (Kd.R_elderB (by (with_reducible repeat (first | apply Kd.R_alloc | apply Kd.R_drewN | apply Kd.R_drew)); exact HO279.out) gb281 (Nat.le_of_eq hg.symm)) hb); have n2_ := qa.mk (qp zz52 hb); have n3_ := qa.mk (hbox); have n4_ := qa.mk ((by rw [hg]; exact (qo zz52) : w.heap.size ≤ gb281)); have n5_ := qa.mk ((by rw [hg]; exact (qo zz52) : w.heap.size ≤ gb281)); clear HO276; clear HO279; clear HB; have HO276 := n0_; have HO279 := n1_; have HB := n2_; have BK281 := n3_; have GW281 := n4_; have GE281 := n5_; clear n0_ n1_ n2_ n3_ n4_ n5_; clear hb hbox hg; have hcz6_0 : w5.cell? ⟨gb281, 0, none⟩ = some (.string (⟨#[]⟩ : ByteArray)) := (qh BK281.out 0).trans rfl; have hcz6_1 : w5.cell? ⟨gb281, 1, none⟩ = some (.string (⟨#[]⟩ : ByteArray)) := (qh BK281.out 1).trans rfl; have hcz6_2 : w5.cell? ⟨gb281, 2, none⟩ = some (.string (⟨#[]⟩ : ByteArray)) := (qh BK281.out 2).trans rfl; have hcz6_3 : w5.cell? ⟨gb281, 3, none⟩ = some (.slice none 0 0) := (qh BK281.out 3).trans rfl; have hcz6_4 : w5.cell? ⟨gb281, 4, none⟩ = some (.slice none 0 0) := (qh BK281.out 4).trans rfl; have hfz6_0 := qf BK281.out 0; have hfz6_1 := qf BK281.out 1; have hfz6_2 := qf BK281.out 2; have hfz6_3 := qf BK281.out 3; have hfz6_4 := qf BK281.out 4; obtain ⟨Ao7, co7, eo7⟩ := Kd.R_slice HO276.out; subst eo7; obtain ⟨Ao8, co8, eo8⟩ := Kd.R_slice HO279.out; subst eo8))
  go_ret
  exact ⟨zz102, by repeat (first | (with_reducible first | exact HB.out | apply qc | apply qb | apply qd | refine qm ?_ GE281.out) | exact HB.out)⟩
def slices_Clone_bool_bool.f (l0 : List Bool) : Option (List Bool) := if l0.length < 140737488355328 then some l0 else none
set_option maxHeartbeats 4000000 in
set_option maxRecDepth 100000 in
theorem slices_Clone_bool_bool.calls (A0 : Option Addr) (c0 : Nat) (l0 : List Bool) (r : List Bool) (w : World) (hr0 : Kd.C Kd.bool w A0 l0.length l0) (hc0 : l0.length ≤ c0) (h : slices_Clone_bool_bool.f l0 = some r) :
  Calls Tryz.prog 50 #[.slice A0 l0.length c0] w fun e w' => ∃ v0_ : Value, e = .returned (v0_) ∧ Kd.R Kd.bool 4 w' w.heap.size (fun _ => True) v0_ r ∧ Below w.heap.size w w' := by
 unfold slices_Clone_bool_bool.f at h
 by_cases hl : l0.length < 140737488355328
 ·rw [if_pos hl] at h
  obtain rfl := Option.some.inj h
  clear h
  have HR := qa.mk hr0
  rcases A0 with _ | ad
  ·have h0 : l0 = [] := by
    rcases Nat.eq_zero_or_pos l0.length with h0 | h0
    ·exact List.eq_nil_of_length_eq_zero h0
    ·obtain ⟨_, h, _⟩ := hr0.2.2 h0
     cases h
   subst h0
   clear hr0 hc0 hl HR
   have hnil := Go.Lib.run_eql_slice_nil (P := Tryz.prog) w 80 4 none 0 c0 0 0 Tryz.underlying80
   go_enter Tryz.func50, Tryz.ntmps50
   go_wp2
   go_ret
   exact ⟨_, rfl, Kd.R_nil _ _ _ _ _, Below.refl _ _⟩
  ·clear hr0 hc0
   have hnil := Go.Lib.run_eql_slice_nil (P := Tryz.prog) w 80 4 (some ad) l0.length c0 0 0 Tryz.underlying80
   have hinf : (Tryz.prog.info? 4).map (fun i => (i.zero, i.size, i.bytes)) = some (some (.bool false), Kd.sz Kd.bool, 1) := by kernel_rfl
   have HL := qa.mk hl
   have HI := qa.mk hinf
   clear hl hinf
   go_enter Tryz.func50, Tryz.ntmps50
   go_wp2_with (at_builtin; refine Kd.R_append_rows Kd.bool (w0 := w) w.heap.size rfl (.tmp 5) (.tmp 6) 80 4 (.bool false) 1 rfl Tryz.underlying80 HI.out rfl (by decide) (by omega) (.slice (some ⟨w.heap.size, 0, none⟩) 0 0) [] l0 _ _ _ (fun _ => True) (fun _ => False) rfl rfl ?aO ?aR (fun _ _ h => h) (fun _ h => h.elim) (fun _ _ => trivial) ?aB ?aS ?aL ?_; (case aO => exact R_empty _ _ _ _ (Nat.le_refl _)); (case aR => exact Kd.C_below HR.out (qc (Below.refl _ _) _)); (case aB => exact qc (Below.refl _ _) _); (case aS => simp); (case aL => have := HL.out; simp; omega); intro v1 w1 hr hb _ _)
   go_ret
   exact ⟨_, rfl, hr, hb⟩
 ·rw [if_neg hl] at h
  cases h
def attrs_find.l0 : Nat → List (S55) → ByteArray → Int → List (S55) → Int → Int → Option (Int × Bool)
 | 0, _, _, _, _, _, _ => none
 | k + 1, x0, x1, x6, x11, x12, x13 => if x13 < x12 then (if 0 ≤ x13 then (if x13 < (x11.length : Int) then (if ((qkb x11 x13).f0).toList = x1.toList then (some (x13, true)) else (if x6 < (x0.length : Int) then (attrs_find.l0 k x0 x1 x6 x11 x12 (wrap64 (x13 + 1))) else (if (Op.bytesLess (((qkb x11 x13).f0).toList) x1.toList) = true then (attrs_find.l0 k x0 x1 x6 x11 x12 (wrap64 (x13 + 1))) else (attrs_find.l0 k x0 x1 x13 x11 x12 (wrap64 (x13 + 1)))))) else (none)) else (none)) else (some (x6, false))
def attrs_find.f (k : Nat) (l0 : List (S55)) (a1 : ByteArray) : Option (Int × Bool) := attrs_find.l0 k l0 a1 (l0.length : Int) l0 (l0.length : Int) 0
set_option maxHeartbeats 8000000 in
set_option maxRecDepth 100000 in
theorem attrs_find.calls (k : Nat) (A0 : Option Addr) (c0 : Nat) (l0 : List (S55)) (a1 : ByteArray) (r1 : Int) (r2 : Bool) (w : World) (hr0 : Kd.C k55 w A0 l0.length l0) (hc0 : l0.length ≤ c0) (h : attrs_find.f k l0 a1 = some (r1, r2)) :
  Calls Tryz.prog 81 #[.slice A0 l0.length c0, .string a1] w fun e w' => e = .returned (.tuple #[.int .i64 r1, .bool r2]) ∧ Below w.heap.size w w' := by
 have hu55 := Tryz.underlying55
 have HR0 := qa.mk hr0
 have HC0 := qa.mk hc0
 clear hr0 hc0
 have HB := qa.mk (Below.refl w.heap.size w)
 have H : (attrs_find.l0 k l0 a1 (l0.length : Int) l0 (l0.length : Int) 0) = some (r1, r2) := h
 clear h
 have H' := qa.mk H
 clear H
 go_enter Tryz.func81, Tryz.ntmps81
 go_wp2
 go_loopg [6, 13] k (fun kq v6 v13 w' => ∃ (x6_1 : Int) (x13_1 : Int), v6 = .int .i64 x6_1 ∧ v13 = .int .i64 x13_1 ∧ qa (attrs_find.l0 kq l0 a1 x6_1 l0 (l0.length : Int) x13_1 = some (r1, r2)) ∧ qa (kq ≤ k) ∧ qa (Below w.heap.size w w'))
 case atStart => exact ⟨((l0.length : Int)), (0), zz7, zz7, H', ⟨Nat.le_refl _⟩, ⟨zz52⟩⟩
 case round =>
  clear H'
  try clear p2
  obtain ⟨x6_1, x13_1, rfl, rfl, HA, HK1, HB⟩ := hrel
  cases gk with
  | zero => exact absurd HA.out (by simp [attrs_find.l0])
  | succ k1 =>
   have H := HA.out
   clear HA
   simp only [attrs_find.l0] at H
   by_cases c3 : x13_1 < (l0.length : Int)
   ·rw [if_pos c3] at H
    have c3b0 : decide (x13_1 < (l0.length : Int)) = true := decide_eq_true c3
    clear c3
    by_cases c4 : 0 ≤ x13_1
    ·rw [if_pos c4] at H
     have c4b0 : decide (0 ≤ x13_1) = true := decide_eq_true c4
     clear c4
     by_cases c5 : x13_1 < (l0.length : Int)
     ·rw [if_pos c5] at H
      have c5b0 : decide (x13_1 < (l0.length : Int)) = true := decide_eq_true c5
      clear c5
      by_cases c6 : ((qkb l0 x13_1).f0).toList = a1.toList
      ·rw [if_pos c6] at H
       have c6b0 : (((qkb l0 x13_1).f0).toList == a1.toList) = true := beq_iff_eq.mpr c6
       have c6b1 : (((qkb l0 x13_1).f0).toList != a1.toList) = false := bne_eq_false_iff_eq.mpr c6
       clear c6
       simp only [Option.some.injEq, Prod.mk.injEq] at H
       obtain ⟨rfl, rfl⟩ := H
       have p282 : 0 ≤ (x13_1 : Int) := of_decide_eq_true zz12
       have q282 : x13_1 < (l0.length : Int) := of_decide_eq_true zz12
       obtain ⟨ad282, e282, hx282_0, hx282_1⟩ := at_T55 HR0.out x13_1 p282 q282
       cases e282
       replace hx282_0 := (HB.out.cell (qwc w _ hx282_0)).trans hx282_0
       replace hx282_1 := (HB.out.cell (qwc w _ hx282_1)).trans hx282_1
       replace p282 := eq_true p282
       replace q282 := eq_true q282
       go_wp2_with (first | ((with_reducible refine qfb (N := 8) rfl ?_); refine qlb ?hg (N := 8) ?hd (cs := #[.string (⟨#[]⟩ : ByteArray), .string (⟨#[]⟩ : ByteArray)]) (t := 55) ?hr ?_; (case hd => rfl); (case hg => rfl); (case hr => exact zz6); intro gb283 hg w7 hbox hb; have n0_ := qa.mk (qp zz52 hb); have n1_ := qa.mk (hbox); have n2_ := qa.mk ((by rw [hg]; exact (qo zz52) : w.heap.size ≤ gb283)); have n3_ := qa.mk ((by rw [hg]; exact (qo zz52) : w.heap.size ≤ gb283)); clear HB; have HB := n0_; have BK283 := n1_; have GW283 := n2_; have GE283 := n3_; clear n0_ n1_ n2_ n3_; clear hb hbox hg; have hcz8_0 : w7.cell? ⟨gb283, 0, none⟩ = some (.string (⟨#[]⟩ : ByteArray)) := (qh BK283.out 0).trans rfl; have hcz8_1 : w7.cell? ⟨gb283, 1, none⟩ = some (.string (⟨#[]⟩ : ByteArray)) := (qh BK283.out 1).trans rfl; have hfz8_0 := qf BK283.out 0; have hfz8_1 := qf BK283.out 1))
       go_ret2
       exact ⟨zz102, zz83⟩
      ·rw [if_neg c6] at H
       have c6b0 : (((qkb l0 x13_1).f0).toList == a1.toList) = false := beq_eq_false_iff_ne.mpr c6
       have c6b1 : (((qkb l0 x13_1).f0).toList != a1.toList) = true := bne_iff_ne.mpr c6
       by_cases c9 : x6_1 < (l0.length : Int)
       ·rw [if_pos c9] at H
        have c9b0 : decide (x6_1 < (l0.length : Int)) = true := decide_eq_true c9
        clear c9
        have H' := qa.mk H
        clear H
        have p282 : 0 ≤ (x13_1 : Int) := of_decide_eq_true zz12
        have q282 : x13_1 < (l0.length : Int) := of_decide_eq_true zz12
        obtain ⟨ad282, e282, hx282_0, hx282_1⟩ := at_T55 HR0.out x13_1 p282 q282
        cases e282
        replace hx282_0 := (HB.out.cell (qwc w _ hx282_0)).trans hx282_0
        replace hx282_1 := (HB.out.cell (qwc w _ hx282_1)).trans hx282_1
        replace p282 := eq_true p282
        replace q282 := eq_true q282
        go_wp2_with (first | ((with_reducible refine qfb (N := 8) rfl ?_); refine qlb ?hg (N := 8) ?hd (cs := #[.string (⟨#[]⟩ : ByteArray), .string (⟨#[]⟩ : ByteArray)]) (t := 55) ?hr ?_; (case hd => rfl); (case hg => rfl); (case hr => exact zz6); intro gb283 hg w10 hbox hb; have n0_ := qa.mk (qp zz52 hb); have n1_ := qa.mk (hbox); have n2_ := qa.mk ((by rw [hg]; exact (qo zz52) : w.heap.size ≤ gb283)); have n3_ := qa.mk ((by rw [hg]; exact (qo zz52) : w.heap.size ≤ gb283)); clear HB; have HB := n0_; have BK283 := n1_; have GW283 := n2_; have GE283 := n3_; clear n0_ n1_ n2_ n3_; clear hb hbox hg; have hcz11_0 : w10.cell? ⟨gb283, 0, none⟩ = some (.string (⟨#[]⟩ : ByteArray)) := (qh BK283.out 0).trans rfl; have hcz11_1 : w10.cell? ⟨gb283, 1, none⟩ = some (.string (⟨#[]⟩ : ByteArray)) := (qh BK283.out 1).trans rfl; have hfz11_0 := qf BK283.out 0; have hfz11_1 := qf BK283.out 1))
        go_roundg k1
        case measure => have := HK1.out; omega
        case rel => exact ⟨(x6_1), (wrap64 (x13_1 + 1)), zz7, zz7, H', ⟨zz2⟩, ⟨zz83⟩⟩
       ·rw [if_neg c9] at H
        have c9b0 : decide (x6_1 < (l0.length : Int)) = false := decide_eq_false c9
        clear c9
        by_cases c12 : (Op.bytesLess (((qkb l0 x13_1).f0).toList) a1.toList) = true
        ·rw [if_pos c12] at H
         have c12b0 : (Op.bytesLess (((qkb l0 x13_1).f0).toList) a1.toList) = true := c12
         clear c12
         have H' := qa.mk H
         clear H
         have p282 : 0 ≤ (x13_1 : Int) := of_decide_eq_true zz12
         have q282 : x13_1 < (l0.length : Int) := of_decide_eq_true zz12
         obtain ⟨ad282, e282, hx282_0, hx282_1⟩ := at_T55 HR0.out x13_1 p282 q282
         cases e282
         replace hx282_0 := (HB.out.cell (qwc w _ hx282_0)).trans hx282_0
         replace hx282_1 := (HB.out.cell (qwc w _ hx282_1)).trans hx282_1
         replace p282 := eq_true p282
         replace q282 := eq_true q282
         go_wp2_with (first | ((with_reducible refine qfb (N := 8) rfl ?_); refine qlb ?hg (N := 8) ?hd (cs := #[.string (⟨#[]⟩ : ByteArray), .string (⟨#[]⟩ : ByteArray)]) (t := 55) ?hr ?_; (case hd => rfl); (case hg => rfl); (case hr => exact zz6); intro gb283 hg w13 hbox hb; have n0_ := qa.mk (qp zz52 hb); have n1_ := qa.mk (hbox); have n2_ := qa.mk ((by rw [hg]; exact (qo zz52) : w.heap.size ≤ gb283)); have n3_ := qa.mk ((by rw [hg]; exact (qo zz52) : w.heap.size ≤ gb283)); clear HB; have HB := n0_; have BK283 := n1_; have GW283 := n2_; have GE283 := n3_; clear n0_ n1_ n2_ n3_; clear hb hbox hg; have hcz14_0 : w13.cell? ⟨gb283, 0, none⟩ = some (.string (⟨#[]⟩ : ByteArray)) := (qh BK283.out 0).trans rfl; have hcz14_1 : w13.cell? ⟨gb283, 1, none⟩ = some (.string (⟨#[]⟩ : ByteArray)) := (qh BK283.out 1).trans rfl; have hfz14_0 := qf BK283.out 0; have hfz14_1 := qf BK283.out 1))
         go_roundg k1
         case measure => have := HK1.out; omega
         case rel => exact ⟨(x6_1), (wrap64 (x13_1 + 1)), zz7, zz7, H', ⟨zz2⟩, ⟨zz83⟩⟩
        ·rw [if_neg c12] at H
         have c12b0 : (Op.bytesLess (((qkb l0 x13_1).f0).toList) a1.toList) = false := by simpa using c12
         clear c12
         have H' := qa.mk H
         clear H
         have p282 : 0 ≤ (x13_1 : Int) := of_decide_eq_true zz12
         have q282 : x13_1 < (l0.length : Int) := of_decide_eq_true zz12
         obtain ⟨ad282, e282, hx282_0, hx282_1⟩ := at_T55 HR0.out x13_1 p282 q282
         cases e282
         replace hx282_0 := (HB.out.cell (qwc w _ hx282_0)).trans hx282_0
         replace hx282_1 := (HB.out.cell (qwc w _ hx282_1)).trans hx282_1
         replace p282 := eq_true p282
         replace q282 := eq_true q282
         go_wp2_with (first | ((with_reducible refine qfb (N := 8) rfl ?_); refine qlb ?hg (N := 8) ?hd (cs := #[.string (⟨#[]⟩ : ByteArray), .string (⟨#[]⟩ : ByteArray)]) (t := 55) ?hr ?_; (case hd => rfl); (case hg => rfl); (case hr => exact zz6); intro gb283 hg w15 hbox hb; have n0_ := qa.mk (qp zz52 hb); have n1_ := qa.mk (hbox); have n2_ := qa.mk ((by rw [hg]; exact (qo zz52) : w.heap.size ≤ gb283)); have n3_ := qa.mk ((by rw [hg]; exact (qo zz52) : w.heap.size ≤ gb283)); clear HB; have HB := n0_; have BK283 := n1_; have GW283 := n2_; have GE283 := n3_; clear n0_ n1_ n2_ n3_; clear hb hbox hg; have hcz16_0 : w15.cell? ⟨gb283, 0, none⟩ = some (.string (⟨#[]⟩ : ByteArray)) := (qh BK283.out 0).trans rfl; have hcz16_1 : w15.cell? ⟨gb283, 1, none⟩ = some (.string (⟨#[]⟩ : ByteArray)) := (qh BK283.out 1).trans rfl; have hfz16_0 := qf BK283.out 0; have hfz16_1 := qf BK283.out 1))
         go_roundg k1
         case measure => have := HK1.out; omega
         case rel => exact ⟨(x13_1), (wrap64 (x13_1 + 1)), zz7, zz7, H', ⟨zz2⟩, ⟨zz83⟩⟩
     ·rw [if_neg c5] at H
      exact absurd H (by simp)
    ·rw [if_neg c4] at H
     exact absurd H (by simp)
   ·rw [if_neg c3] at H
    have c3b0 : decide (x13_1 < (l0.length : Int)) = false := decide_eq_false c3
    clear c3
    simp only [Option.some.injEq, Prod.mk.injEq] at H
    obtain ⟨rfl, rfl⟩ := H
    go_wp2
    go_ret2
    exact ⟨zz102, zz52⟩
def attrs_Get.f (k : Nat) (l0 : List (S55)) (a1 : ByteArray) : Option (ByteArray × Bool) := (attrs_find.f k l0 a1).bind fun bt284 => (if bt284.2 = true then (if 0 ≤ bt284.1 then (if bt284.1 < (l0.length : Int) then (some ((qkb l0 bt284.1).f1, true)) else (none)) else (none)) else (some ((⟨#[]⟩ : ByteArray), false)))
set_option maxHeartbeats 8000000 in
set_option maxRecDepth 100000 in
theorem attrs_Get.calls (k : Nat) (A0 : Option Addr) (c0 : Nat) (l0 : List (S55)) (a1 : ByteArray) (r1 : ByteArray) (r2 : Bool) (w : World) (hr0 : Kd.C k55 w A0 l0.length l0) (hc0 : l0.length ≤ c0) (h : attrs_Get.f k l0 a1 = some (r1, r2)) :
  Calls Tryz.prog 70 #[.slice A0 l0.length c0, .string a1] w fun e w' => e = .returned (.tuple #[.string r1, .bool r2]) ∧ Below w.heap.size w w' := by
 have HR0 := qa.mk hr0
 have HC0 := qa.mk hc0
 clear hr0 hc0
 have HB := qa.mk (Below.refl w.heap.size w)
 have H : ((attrs_find.f k l0 a1).bind fun bt284 => (if bt284.2 = true then (if 0 ≤ bt284.1 then (if bt284.1 < (l0.length : Int) then (some ((qkb l0 bt284.1).f1, true)) else (none)) else (none)) else (some ((⟨#[]⟩ : ByteArray), false)))) = some (r1, r2) := h
 clear h
 replace H := Option.bind_eq_some_iff.mp H
 obtain ⟨⟨t284, t285⟩, A30, H⟩ := H
 replace H : (if t285 = true then (if 0 ≤ t284 then (if t284 < (l0.length : Int) then (some ((qkb l0 t284).f1, true)) else (none)) else (none)) else (some ((⟨#[]⟩ : ByteArray), false))) = some (r1, r2) := H
 have A3 := qa.mk A30
 clear A30
 by_cases c4 : t285 = true
 ·subst c4
  have H1 : (if 0 ≤ t284 then (if t284 < (l0.length : Int) then (some ((qkb l0 t284).f1, true)) else (none)) else (none)) = some (r1, r2) := by rw [if_pos rfl] at H; exact H
  clear H
  have H := H1
  clear H1
  by_cases c5 : 0 ≤ t284
  ·rw [if_pos c5] at H
   have c5b0 : decide (0 ≤ t284) = true := decide_eq_true c5
   clear c5
   by_cases c6 : t284 < (l0.length : Int)
   ·rw [if_pos c6] at H
    have c6b0 : decide (t284 < (l0.length : Int)) = true := decide_eq_true c6
    clear c6
    simp only [Option.some.injEq, Prod.mk.injEq] at H
    obtain ⟨rfl, rfl⟩ := H
    go_enter Tryz.func70, Tryz.ntmps70
    go_wp2_with (first | ((with_reducible refine qy (f := 81) rfl ?_); refine qrb (some 11) rfl rfl Tryz.func81 (by kernel_rfl) rfl #[.slice A0 l0.length c0, .string a1] rfl zz93 ?_; (with_reducible refine (attrs_find.calls k _ _ l0 a1 t284 true _ ?side1 ?side2 A3.out).mono ?_); (case side1 => exact zz110); (case side2 => exact HC0.out); rintro e w7 ⟨rfl, hb⟩; refine ⟨_, rfl, ?_⟩; have n0_ := qa.mk (qp zz52 hb); clear HB; have HB := n0_; clear n0_; (try clear hb); (try clear hb2); (try clear hk); (try clear hi); have p286 : 0 ≤ (t284 : Int) := of_decide_eq_true zz12; have q286 : t284 < (l0.length : Int) := of_decide_eq_true zz12; obtain ⟨ad286, e286, hx286_0, hx286_1⟩ := at_T55 HR0.out t284 p286 q286; cases e286; replace hx286_0 := (HB.out.cell (qwc w _ hx286_0)).trans hx286_0; replace hx286_1 := (HB.out.cell (qwc w _ hx286_1)).trans hx286_1; replace p286 := eq_true p286; replace q286 := eq_true q286))
    go_ret2
    exact ⟨zz102, zz52⟩
   ·rw [if_neg c6] at H
    exact absurd H (by simp)
  ·rw [if_neg c5] at H
   exact absurd H (by simp)
 ·replace c4 := Bool.eq_false_iff.mpr c4
  subst c4
  have H1 : (some ((⟨#[]⟩ : ByteArray), false)) = some (r1, r2) := by rw [if_neg (show ¬ (false = true) by decide)] at H; exact H
  clear H
  have H := H1
  clear H1
  simp only [Option.some.injEq, Prod.mk.injEq] at H
  obtain ⟨rfl, rfl⟩ := H
  go_enter Tryz.func70, Tryz.ntmps70
  go_wp2_with (first | ((with_reducible refine qy (f := 81) rfl ?_); refine qrb (some 11) rfl rfl Tryz.func81 (by kernel_rfl) rfl #[.slice A0 l0.length c0, .string a1] rfl zz93 ?_; (with_reducible refine (attrs_find.calls k _ _ l0 a1 t284 false _ ?side1 ?side2 A3.out).mono ?_); (case side1 => exact zz110); (case side2 => exact HC0.out); rintro e w8 ⟨rfl, hb⟩; refine ⟨_, rfl, ?_⟩; have n0_ := qa.mk (qp zz52 hb); clear HB; have HB := n0_; clear n0_; (try clear hb); (try clear hb2); (try clear hk); (try clear hi)))
  go_ret2
  exact ⟨zz102, zz52⟩
def qgc.bad (at_ : List S55) (c : S50) : Option Bool := (attrs_Get.f (at_.length + 2) at_ c.f0).bind fun v => some (!v.2 || (c.f2 && (v.1.toList != c.f1.toList)))
def qgc.idx (at_ : List S55) : List S50 → Int → Option Int
 | [], _ => some (-1)
 | c :: r, i => (qgc.bad at_ c).bind fun t => if t = true then some i else qgc.idx at_ r (i + 1)
def qgc.f (p : S48) (x : S53) : Option Bool :=
 if (((p.f2.toList != []) && (p.f2.toList != x.f2.toList)) || (p.f1 && (p.f3.toList != x.f3.toList))) = true then some false else (qgc.idx x.f5 p.f4 0).bind fun j => some (!decide (0 ≤ j))
def RowAt (g : Nat) (x : S53) (A : Option Addr) (c : Nat) (W : World) : Prop := W.heap[g]? = some (.cells #[.int .i64 x.f0, .int .i64 x.f1, .string x.f2, .string x.f3, .string x.f4, .slice A x.f5.length c] 53 (0, 0)) ∧ Kd.C k55 W A x.f5.length x.f5 ∧ x.f5.length ≤ c
theorem RowAt.below {g : Nat} {x : S53} {A : Option Addr} {c : Nat} {W W1 : World} (h : RowAt g x A c W) (hb : Below W.heap.size W W1) : RowAt g x A c W1 := ⟨qnb h.1 hb, Kd.C_below h.2.1 hb, h.2.2⟩
set_option maxHeartbeats 4000000 in
set_option maxRecDepth 100000 in
theorem qgc.clo (bx : Nat) (A5 : Option Addr) (c5 : Nat) (x : S53) (c : S50) (t : Bool) (w : World) (hx : RowAt bx x A5 c5 w) (h : qgc.bad x.f5 c = some t) :
  Calls Tryz.prog 69 #[.agg #[.string c.f0, .string c.f1, .bool c.f2], .pointer (some ⟨bx, 0, none⟩)] w fun e w' => e = .returned (.bool t) ∧ Below w.heap.size w w' := by
 obtain ⟨⟨v, is⟩, hv, h2⟩ := Option.bind_eq_some_iff.1 h
 have HV := qa.mk hv
 have HX := qa.mk hx
 obtain ⟨c0, c1, c2⟩ := c
 have e2 := Option.some.inj h2
 clear h h2 hv
 dsimp only at e2 HV
 have hu1 := Tryz.underlying50
 have hu2 := Tryz.underlying53
 have HXA := qa.mk (hx.below (qc (Below.refl _ _) (.cells #[.string c0, .string c1, .bool c2] 50)))
 have hr5 : _ = some (Value.slice A5 x.f5.length c5) := qh HXA.out.1 5
 have hcb := blk_new w (.cells #[.string c0, .string c1, .bool c2] 50)
 have hq0 : _ = some (Value.string c0) := qh hcb 0
 have HCB := qa.mk hcb
 clear hx hcb
 have HE : ∀ W, Below (w.alloc (.cells #[.string c0, .string c1, .bool c2] 50)).heap.size (w.alloc (.cells #[.string c0, .string c1, .bool c2] 50)) W → qa (W.cell? ⟨w.heap.size, 1, none⟩ = some (.string c1) ∧ W.cell? ⟨w.heap.size, 2, none⟩ = some (.bool c2)) := fun W hb => ⟨qh (qnb HCB.out hb) 1, qh (qnb HCB.out hb) 2⟩
 go_enter Tryz.func69, Tryz.ntmps69
 go_upto_region 2 with (go_at_call 70; refine (attrs_Get.calls _ _ _ _ _ _ _ _ HXA.out.2.1 HXA.out.2.2 HV.out).mono ?_; rintro e w2 ⟨rfl, hb⟩; obtain ⟨hs1, hs2⟩ := (HE _ hb).out; have HB2 := qa.mk (qp (qc (Below.refl w.heap.size w) (.cells #[.string c0, .string c1, .bool c2] 50)) hb); clear hb)
 clear HE
 cases is
 ·obtain rfl : t = true := by simpa using e2.symm
  go_wp2_with fail
  go_ret
  exact ⟨rfl, HB2.out⟩
 ·cases c2
  ·obtain rfl : t = false := by simpa using e2.symm
   go_wp2_with fail
   go_ret
   exact ⟨rfl, HB2.out⟩
  ·simp only [Bool.not_true, Bool.false_or, Bool.true_and] at e2
   have HE2 := qa.mk e2
   clear e2
   go_wp2_with fail
   go_ret
   exact ⟨by rw [← HE2.out]; rfl, HB2.out⟩
set_option maxHeartbeats 4000000 in
set_option maxRecDepth 100000 in
theorem qgc.index (A0 : Option Addr) (c0 : Nat) (l0 : List S50) (bx : Nat) (A5 : Option Addr) (c5 : Nat) (x : S53) (r : Int) (w : World) (hr0 : Kd.C k50 w A0 l0.length l0) (hx : RowAt bx x A5 c5 w) (h : qgc.idx x.f5 l0 0 = some r) :
  Calls Tryz.prog 59 #[.slice A0 l0.length c0, .func (.func 69) #[] #[.pointer (some ⟨bx, 0, none⟩)]] w fun e w' => e = .returned (.int .i64 r) ∧ Below w.heap.size w w' := by
 have hm := hr0.2.1
 have HR0 := qa.mk hr0
 have HX := qa.mk hx
 have HH := qa.mk h
 have HB := qa.mk (Below.refl w.heap.size w)
 clear hr0 h hx
 have hu := Tryz.underlying50
 go_enter Tryz.func59, Tryz.ntmps59
 go_wp2
 go_loopg [8] (l0.length + 1) (fun kq v8 w' => ∃ (j : Nat), v8 = .int .i64 (j : Int) ∧ qa (j ≤ l0.length ∧ kq = l0.length + 1 - j ∧ qgc.idx x.f5 (l0.drop j) (j : Int) = some r) ∧ qa (Below w.heap.size w w'))
 case atStart => exact ⟨0, rfl, ⟨Nat.zero_le _, rfl, HH.out⟩, HB⟩
 case round =>
  clear HB
  obtain ⟨j, rfl, HJ, HB⟩ := hrel
  obtain ⟨hj, hk, HI⟩ := HJ.out
  clear HJ HH
  subst hk
  by_cases hlt : j < l0.length
  ·rw [qsb.drop l0 j hlt] at HI
   simp only [qgc.idx] at HI
   obtain ⟨t, ht1, HI⟩ := Option.bind_eq_some_iff.1 HI
   have H1 := qa.mk ht1
   have H2 := qa.mk HI
   clear ht1 HI
   obtain ⟨ad, e, hx0, hx1, hx2⟩ := at_T50 HR0.out (j : Int) (by omega) (by omega)
   cases e
   replace hx0 := (HB.out.cell (qwc w _ hx0)).trans hx0
   replace hx1 := (HB.out.cell (qwc w _ hx1)).trans hx1
   replace hx2 := (HB.out.cell (qwc w _ hx2)).trans hx2
   rw [Int.toNat_natCast] at hx0 hx1 hx2
   cases t
   all_goals go_wp2_with (go_at_call 69; refine (qgc.clo bx A5 c5 x _ _ _ (HX.out.below HB.out) H1.out).mono ?_; rintro e w2 ⟨rfl, hb⟩; have HB2 := qa.mk (qp HB.out hb); clear hb)
   ·go_roundg (l0.length + 1 - (j + 1))
    case measure => omega
    case rel => exact ⟨j + 1, by go_num, ⟨by omega, rfl, by simpa using H2.out⟩, HB2⟩
   ·obtain rfl := Option.some.inj H2.out
    go_ret
    exact ⟨rfl, HB2.out⟩
  ·have HI2 := qa.mk HI
   clear HI
   go_wp2
   go_ret
   refine ⟨?_, HB.out⟩
   have h := HI2.out
   rw [List.drop_eq_nil_of_le (by omega)] at h
   obtain rfl := Option.some.inj h
   rfl
set_option maxHeartbeats 4000000 in
set_option maxRecDepth 100000 in
theorem qgc.contains (A0 : Option Addr) (c0 : Nat) (l0 : List S50) (bx : Nat) (A5 : Option Addr) (c5 : Nat) (x : S53) (r : Int) (w : World) (hr0 : Kd.C k50 w A0 l0.length l0) (hx : RowAt bx x A5 c5 w) (h : qgc.idx x.f5 l0 0 = some r) :
  Calls Tryz.prog 41 #[.slice A0 l0.length c0, .func (.func 69) #[] #[.pointer (some ⟨bx, 0, none⟩)]] w fun e w' => e = .returned (.bool (decide (0 ≤ r))) ∧ Below w.heap.size w w' := by
 have HR0 := qa.mk hr0
 have HX := qa.mk hx
 have HH := qa.mk h
 clear hr0 h hx
 go_enter Tryz.func41, Tryz.ntmps41
 go_wp2_with (go_at_call 59; refine (qgc.index _ _ _ bx _ _ _ _ _ HR0.out HX.out HH.out).mono ?_; rintro e w2 ⟨rfl, hb⟩; have HB2 := qa.mk hb; clear hb)
 go_ret
 exact ⟨rfl, HB2.out⟩
set_option maxHeartbeats 8000000 in
set_option maxRecDepth 100000 in
theorem qgc.calls (p : S48) (A4 : Option Addr) (c4 : Nat) (x : S53) (A5 : Option Addr) (c5 : Nat) (r : Bool) (w : World) (hr4 : Kd.C k50 w A4 p.f4.length p.f4) (hr5 : Kd.C k55 w A5 x.f5.length x.f5) (hc5 : x.f5.length ≤ c5) (h : qgc.f p x = some r) :
  Calls Tryz.prog 51 #[.agg #[.bool p.f0, .bool p.f1, .string p.f2, .string p.f3, .slice A4 p.f4.length c4], .agg #[.int .i64 x.f0, .int .i64 x.f1, .string x.f2, .string x.f3, .string x.f4, .slice A5 x.f5.length c5]] w fun e w' => e = .returned (.bool r) ∧ Below w.heap.size w w' := by
 obtain ⟨p0, p1, p2, p3, p4⟩ := p
 obtain ⟨x0, x1, x2, x3, x4, x5⟩ := x
 dsimp only at *
 unfold qgc.f at h
 dsimp only at h
 have HR4 := qa.mk hr4
 have HX0 := qa.mk (And.intro hr5 hc5)
 have HH := qa.mk h
 clear hr4 hr5 hc5 h
 have hu1 := Tryz.underlying48
 have hu2 := Tryz.underlying53
 have ce : ∀ s : ByteArray, ∃ b, s.toList.isEmpty = b ∧ (s.toList == ([] : List UInt8)) = b ∧ (s.toList != ([] : List UInt8)) = !b := fun s => ⟨_, rfl, by cases s.toList <;> rfl, by cases s.toList <;> rfl⟩
 have cd : ∀ s t : ByteArray, ∃ b, (s.toList == t.toList) = b ∧ (s.toList != t.toList) = !b := fun s t => ⟨_, rfl, rfl⟩
 obtain ⟨b1, e1, e1a, e1b⟩ := ce p2
 obtain ⟨b2, e2, e2a⟩ := cd p2 x2
 obtain ⟨b3, e3, e3a⟩ := cd p3 x3
 clear ce cd
 rw [e1b, e2a, e3a] at HH
 have HB1 := qa.mk (qc (qc (Below.refl w.heap.size w) (.cells #[.bool p0, .bool p1, .string p2, .string p3, .slice A4 p4.length c4] 48)) (.cells #[.int .i64 x0, .int .i64 x1, .string x2, .string x3, .string x4, .slice A5 x5.length c5] 53))
 have HX := qa.mk (show RowAt (w.heap.size + 1) ⟨x0, x1, x2, x3, x4, x5⟩ A5 c5 ((w.alloc (.cells #[.bool p0, .bool p1, .string p2, .string p3, .slice A4 p4.length c4] 48)).alloc (.cells #[.int .i64 x0, .int .i64 x1, .string x2, .string x3, .string x4, .slice A5 x5.length c5] 53)) from ⟨by simpa using blk_new (w.alloc (.cells #[.bool p0, .bool p1, .string p2, .string p3, .slice A4 p4.length c4] 48)) (.cells #[.int .i64 x0, .int .i64 x1, .string x2, .string x3, .string x4, .slice A5 x5.length c5] 53), Kd.C_below HX0.out.1 HB1.out, HX0.out.2⟩)
 have hpb := qj (blk_new w (.cells #[.bool p0, .bool p1, .string p2, .string p3, .slice A4 p4.length c4] 48)) (.cells #[.int .i64 x0, .int .i64 x1, .string x2, .string x3, .string x4, .slice A5 x5.length c5] 53)
 have hq1 : _ = some (Value.bool p1) := qh hpb 1
 have hq2 : _ = some (Value.string p2) := qh hpb 2
 have hq3 : _ = some (Value.string p3) := qh hpb 3
 have hq4 : _ = some (Value.slice A4 p4.length c4) := qh hpb 4
 have hz2 : _ = some (Value.string x2) := qh HX.out.1 2
 have hz3 : _ = some (Value.string x3) := qh HX.out.1 3
 have HR4B := qa.mk (Kd.C_below HR4.out HB1.out)
 clear hpb HX0
 by_cases hb : ((!b1 && !b2) || (p1 && !b3)) = true
 ·have hh := HH.out
  rw [if_pos hb] at hh
  obtain rfl := Option.some.inj hh
  clear HH hh HX HR4B HR4
  cases b1 <;> cases b2 <;> cases p1 <;> cases b3 <;> first | (exact absurd hb (by decide)) | (clear hb; go_enter Tryz.func51, Tryz.ntmps51; go_wp2_with fail; go_ret; exact ⟨rfl, HB1.out⟩)
 ·have hh := HH.out
  rw [if_neg hb] at hh
  obtain ⟨j, hj, hh2⟩ := Option.bind_eq_some_iff.1 hh
  obtain rfl := Option.some.inj hh2
  have HJ := qa.mk hj
  clear HH hh hh2 hj HR4
  cases b1 <;> cases b2 <;> cases p1 <;> cases b3 <;> first | (exact absurd rfl hb) | (clear hb; go_enter Tryz.func51, Tryz.ntmps51; go_wp2_with (go_at_call 41; refine (qgc.contains _ _ _ (w.heap.size + 1) _ _ ⟨x0, x1, x2, x3, x4, x5⟩ j _ HR4B.out HX.out HJ.out).mono ?_; rintro e w2 ⟨rfl, hb2⟩; have HB2 := qa.mk (qp HB1.out hb2); clear hb2); go_ret; exact ⟨rfl, HB2.out⟩)
end Go.Proofs.YtjbobecnlpiejaaGreatDoor.Q
