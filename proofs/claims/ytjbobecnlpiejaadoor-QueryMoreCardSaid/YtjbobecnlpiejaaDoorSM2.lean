import Derived.Test.YtjbobecnlpiejaaDoorSM1
set_option linter.unusedVariables false
set_option linter.unusedSimpArgs false
namespace Go.Proofs.YtjbobecnlpiejaaDoor.Q
open Go.Proofs.YtjbobecnlpiejaaDoorZ
open Go.RowKit Go.Proofs.YtjbobecnlpiejaaDoorW.PrintWords Go.Proofs.YtjbobecnlpiejaaDoorW.PrintLast Go.Proofs.YtjbobecnlpiejaaDoorW.PrintMore
attribute [local go_sem] qpb qqb qvb qwb
def qxb.l0 : Nat → List (S46) → List Int → List (S46) → Int → Int → Option ((List (S46)))
 | 0, _, _, _, _, _ => none
 | k + 1, x0, x3, x10, x11, x12 => if x12 < x11 then (if 0 ≤ x12 then (if x12 < (x10.length : Int) then (if 0 ≤ ((qe x10 x12).f1) then (if ((qe x10 x12).f1) < (x3.length : Int) then (if 0 ≤ (wrap64 (x12 + 1)) then (if (wrap64 (x12 + 1)) < (x3.length : Int) then ((some (x3.set ((wrap64 (x12 + 1)) : Int).toNat (wrap64 ((rd x3 ((qe x10 x12).f1)) + 1)) : List Int)).bind fun y193 => (if (rd y193 (wrap64 (x12 + 1))) > 64 then (if (wrap64 (x12 + 1)) ≤ (x0.length : Int) then (some (x0.take ((wrap64 (x12 + 1)) : Int).toNat)) else (none)) else (if x12 = 4096 then (if (wrap64 (x12 + 1)) ≤ (x0.length : Int) then (some (x0.take ((wrap64 (x12 + 1)) : Int).toNat)) else (none)) else (qxb.l0 k x0 y193 x10 x11 (wrap64 (x12 + 1)))))) else (none)) else (none)) else (none)) else (none)) else (none)) else (none)) else (some x0)
def qxb.f (k : Nat) (l0 : List (S46)) : Option ((List (S46))) := if 0 ≤ (wrap64 ((l0.length : Int) + 1)) then (if (wrap64 ((l0.length : Int) + 1) : Int).toNat ≤ 35184372088832 then (qxb.l0 k l0 (List.replicate (wrap64 ((l0.length : Int) + 1) : Int).toNat 0) l0 (l0.length : Int) 0) else (none)) else (none)
theorem qxb.mono_l : ∀ k, (∀ y0 y1 y2 y3 y4, LeO (qxb.l0 k y0 y1 y2 y3 y4) (qxb.l0 (k + 1) y0 y1 y2 y3 y4))
 | 0 => fun _ _ _ _ _ r h => by simp [qxb.l0] at h
 | k + 1 => by
  have ih0 := qxb.mono_l k
  ·intro y0 y1 y2 y3 y4
   unfold qxb.l0
   repeat' first
   | (with_reducible exact ih0 _ _ _ _ _)
   | (with_reducible exact LeO.refl _)
   | (with_reducible exact LeO.none _)
   | (with_reducible refine LeO.ite ?_ ?_)
   | (with_reducible refine LeO.bind ?_ (fun _ => ?_))
   | exact ih0 _ _ _ _ _
   | exact LeO.none _
   | refine LeO.ite ?_ ?_
   | refine LeO.bind ?_ (fun _ => ?_)
theorem qxb.mono : ∀ a0 k, LeO (qxb.f k a0) (qxb.f (k + 1) a0) := by
 intro a0 k
 have ih0 := qxb.mono_l k
 unfold qxb.f
 repeat' first
   | (with_reducible exact ih0 _ _ _ _ _)
   | (with_reducible exact LeO.refl _)
   | (with_reducible exact LeO.none _)
   | (with_reducible refine LeO.ite ?_ ?_)
   | (with_reducible refine LeO.bind ?_ (fun _ => ?_))
   | exact ih0 _ _ _ _ _
   | exact LeO.none _
   | refine LeO.ite ?_ ?_
   | refine LeO.bind ?_ (fun _ => ?_)
set_option maxHeartbeats 8000000 in
set_option maxRecDepth 100000 in
theorem qxb.calls (k : Nat) (P0_ : Nat → Prop) (A0 : Option Addr) (c0 : Nat) (l0 : List (S46)) (r : List (S46)) (w : World) (hs0 : Kd.V k46 46 w w.heap.size (fun k_ => P0_ k_) (.slice A0 l0.length c0) l0) (h : qxb.f k l0 = some r) :
  Calls Tryd.prog 51 #[.slice A0 l0.length c0] w fun e w' => ∃ v0_ : Value, e = .returned (v0_) ∧ Kd.V k46 46 w' w.heap.size (fun k_ => (P0_ k_ ∨ w.heap.size ≤ k_)) v0_ r ∧ Below w.heap.size w w' := by
 have hu46 := Tryd.underlying46
 have HO0 := qa.mk (show Kd.V k46 46 w w.heap.size (fun k_ => (P0_ k_ ∨ w.heap.size ≤ k_)) (.slice A0 l0.length c0) l0 from Kd.V_mono hs0 (fun k_ hk => .inl hk))
 have HB := qa.mk (Below.refl w.heap.size w)
 have H : (if 0 ≤ (wrap64 ((l0.length : Int) + 1)) then (if (wrap64 ((l0.length : Int) + 1) : Int).toNat ≤ 35184372088832 then (qxb.l0 k l0 (List.replicate (wrap64 ((l0.length : Int) + 1) : Int).toNat 0) l0 (l0.length : Int) 0) else (none)) else (none)) = some r := h
 clear h
 obtain ⟨ji2, hji2⟩ : ∃ j_ : Int, (wrap64 ((l0.length : Int) + 1)) = j_ := ⟨_, rfl⟩
 replace H : (if 0 ≤ (ji2) then (if (ji2 : Int).toNat ≤ 35184372088832 then (qxb.l0 k l0 (List.replicate (ji2 : Int).toNat 0) l0 (l0.length : Int) 0) else (none)) else (none)) = some r := by first | (rw [hji2] at H; exact H) | (simp only [hji2] at H ⊢; exact H)
 have hji2w : (IntKind.i64.wrap ((l0.length : Int) + 1)) = ji2 := (i64_w _).trans hji2
 by_cases c3 : 0 ≤ (ji2)
 ·rw [if_pos c3] at H
  have c3b0 := eq_true c3
  have c3b1 : decide (0 ≤ (ji2)) = true := decide_eq_true c3
  clear c3
  by_cases c4 : (ji2 : Int).toNat ≤ 35184372088832
  ·rw [if_pos c4] at H
   have c4b0 := eq_true c4
   have c4b1 : decide ((ji2 : Int).toNat ≤ 35184372088832) = true := decide_eq_true c4
   clear c4
   obtain ⟨y187, hy187⟩ : ∃ y_ : List Int, y_ = (List.replicate (ji2 : Int).toNat 0) := ⟨_, rfl⟩
   replace H : (qxb.l0 k l0 y187 l0 (l0.length : Int) 0) = some r := by first | (rw [hy187]; with_reducible exact H) | (have H2_ := (Option.bind_some _ _).symm.trans H; rw [hy187]; with_reducible exact H2_) | (have H2_ := (Option.bind_some _ _).symm.trans H; with_reducible exact H2_) | with_reducible exact H | (rw [hy187]; exact H) | exact H
   have Ny187 := qa.mk hy187
   clear hy187
   have H' := qa.mk H
   clear H
   go_enter Tryd.func51, Tryd.ntmps51
   go_wp2_with (first | ((with_reducible refine qeb (N := 9) rfl ?_); refine Kd.R_make (Kd.int .i64) _ 3 rfl (N := 9) rfl 37 _ _ rfl ji2 rfl rfl Tryd.underlying37 (.int .i64 0) 8 info3 rfl (by decide) (by omega) 0 (ok := fun _ => True) (okp := fun _ => True) rfl (fun _ hk => hk) trivial (of_decide_eq_true zz7) (Nat.le_trans (Nat.mul_le_mul_right _ (of_decide_eq_true zz7 : ji2.toNat ≤ 35184372088832)) (by omega)) (Below.refl _ _) (Nat.le_refl _) ?_; intro v188 w5 ho6 hb hg_ hnew_; clear hg_ hnew_; (first | rw [← Ny187.out] at ho6 | (simp only [Int.reduceToNat] at ho6; rw [← Ny187.out] at ho6)); have n0_ := qa.mk (Kd.V_elder' zz25 (Kd.R_base ho6) hb); have n1_ := qa.mk (Kd.R_lower (Kd.R_newM (M := fun k_ => (w.heap.size ≤ k_)) ho6 (ql zz24) (fun k_ h_ => h_)) (ql zz24)); have n2_ := qa.mk (qm zz24 hb); clear HO0; clear HB; have HO0 := n0_; have HO189 := n1_; have HB := n2_; clear n0_ n1_ n2_; clear hb ho6))
   go_loopg [12] k (fun kq v12 w' => ∃ (x3_1 : List Int) (x12_1 : Int), v12 = .int .i64 x12_1 ∧ qa (qxb.l0 kq l0 x3_1 l0 (l0.length : Int) x12_1 = some r) ∧ qa (kq ≤ k) ∧ qa (Kd.V k46 46 w' w.heap.size (fun k_ => (P0_ k_ ∨ w.heap.size ≤ k_) ∧ some k_ ≠ (v188 : Value).ownBlock) (.slice A0 l0.length c0) l0) ∧ qa (Kd.R (Kd.int .i64) 3 w' w.heap.size (fun k_ => (w.heap.size ≤ k_)) v188 x3_1) ∧ qa (Kd.V k46 46 w' w.heap.size (fun k_ => (P0_ k_ ∨ w.heap.size ≤ k_) ∧ some k_ ≠ (v188 : Value).ownBlock) (.slice A0 l0.length c0) l0) ∧ qa (Below w.heap.size w w'))
   case atStart => exact ⟨(y187), (0), zz6, H', ⟨Nat.le_refl _⟩, ⟨zz25⟩, ⟨by (with_reducible repeat (first | apply Kd.R_alloc | apply Kd.R_drewN | apply Kd.R_drew)); exact Kd.R_mono HO189.out (fun _ hk => hk.1)⟩, ⟨zz25⟩, ⟨zz24⟩⟩
   case round =>
    clear H'
    try clear p2
    try clear c3
    try clear c3b0
    try clear c3b1
    try clear c4
    try clear c4b0
    try clear c4b1
    try clear c5
    try clear p6
    obtain ⟨x3_1, x12_1, rfl, HA, HK1, HO_0, HO_3, HO_10, HB⟩ := hrel
    cases gk with
    | zero => exact absurd HA.out (by simp [qxb.l0])
    | succ k1 =>
     have H := HA.out
     clear HA
     simp only [qxb.l0] at H
     by_cases c7 : x12_1 < (l0.length : Int)
     ·rw [if_pos c7] at H
      have c7b0 : decide (x12_1 < (l0.length : Int)) = true := decide_eq_true c7
      clear c7
      by_cases c8 : 0 ≤ x12_1
      ·rw [if_pos c8] at H
       have c8b0 : decide (0 ≤ x12_1) = true := decide_eq_true c8
       clear c8
       by_cases c9 : x12_1 < (l0.length : Int)
       ·rw [if_pos c9] at H
        have c9b0 : decide (x12_1 < (l0.length : Int)) = true := decide_eq_true c9
        clear c9
        by_cases c10 : 0 ≤ ((qe l0 x12_1).f1)
        ·rw [if_pos c10] at H
         have c10b0 : decide (0 ≤ ((qe l0 x12_1).f1)) = true := decide_eq_true c10
         clear c10
         by_cases c11 : ((qe l0 x12_1).f1) < (x3_1.length : Int)
         ·rw [if_pos c11] at H
          have c11b0 : decide (((qe l0 x12_1).f1) < (x3_1.length : Int)) = true := decide_eq_true c11
          clear c11
          obtain ⟨ji12, hji12⟩ : ∃ j_ : Int, (wrap64 (x12_1 + 1)) = j_ := ⟨_, rfl⟩
          replace H : (if 0 ≤ (ji12) then (if (ji12) < (x3_1.length : Int) then ((some (x3_1.set ((ji12) : Int).toNat (wrap64 ((rd x3_1 ((qe l0 x12_1).f1)) + 1)) : List Int)).bind fun y193 => (if (rd y193 (ji12)) > 64 then (if (ji12) ≤ (l0.length : Int) then (some (l0.take ((ji12) : Int).toNat)) else (none)) else (if x12_1 = 4096 then (if (ji12) ≤ (l0.length : Int) then (some (l0.take ((ji12) : Int).toNat)) else (none)) else (qxb.l0 k1 l0 y193 l0 (l0.length : Int) ji12)))) else (none)) else (none)) = some r := by first | (rw [hji12] at H; exact H) | (simp only [hji12] at H ⊢; exact H)
          have hji12w : (IntKind.i64.wrap (x12_1 + 1)) = ji12 := (i64_w _).trans hji12
          by_cases c13 : 0 ≤ (ji12)
          ·rw [if_pos c13] at H
           have c13b0 : decide (0 ≤ (ji12)) = true := decide_eq_true c13
           clear c13
           by_cases c14 : (ji12) < (x3_1.length : Int)
           ·rw [if_pos c14] at H
            have c14b0 : decide ((ji12) < (x3_1.length : Int)) = true := decide_eq_true c14
            clear c14
            obtain ⟨y193, hy193⟩ : ∃ y_ : List Int, y_ = (x3_1.set ((ji12) : Int).toNat (wrap64 ((rd x3_1 ((qe l0 x12_1).f1)) + 1))) := ⟨_, rfl⟩
            replace H : (if (rd y193 (ji12)) > 64 then (if (ji12) ≤ (l0.length : Int) then (some (l0.take ((ji12) : Int).toNat)) else (none)) else (if x12_1 = 4096 then (if (ji12) ≤ (l0.length : Int) then (some (l0.take ((ji12) : Int).toNat)) else (none)) else (qxb.l0 k1 l0 y193 l0 (l0.length : Int) ji12))) = some r := by first | (rw [hy193]; with_reducible exact H) | (have H2_ := (Option.bind_some _ _).symm.trans H; rw [hy193]; with_reducible exact H2_) | (have H2_ := (Option.bind_some _ _).symm.trans H; with_reducible exact H2_) | with_reducible exact H | (rw [hy193]; exact H) | exact H
            have Ny193 := qa.mk hy193
            clear hy193
            by_cases c16 : (rd y193 (ji12)) > 64
            ·rw [if_pos c16] at H
             have c16b0 : decide (64 < (rd y193 (ji12))) = true := decide_eq_true c16
             clear c16
             have c17b0 := eq_true (of_decide_eq_true zz7 : 0 ≤ (ji12))
             by_cases c18 : (ji12) ≤ (l0.length : Int)
             ·rw [if_pos c18] at H
              have c18b0 := eq_true c18
              have c18b1 : decide ((ji12) ≤ (l0.length : Int)) = true := decide_eq_true c18
              clear c18
              obtain ⟨y195, hy195⟩ : ∃ y_ : List (S46), y_ = (l0.take ((ji12) : Int).toNat) := ⟨_, rfl⟩
              replace H : (some y195) = some r := by first | (rw [hy195]; with_reducible exact H) | (have H2_ := (Option.bind_some _ _).symm.trans H; rw [hy195]; with_reducible exact H2_) | (have H2_ := (Option.bind_some _ _).symm.trans H; with_reducible exact H2_) | with_reducible exact H | (rw [hy195]; exact H) | exact H
              have Ny195 := qa.mk hy195
              clear hy195
              obtain rfl := Option.some.inj H
              have p190 : 0 ≤ (x12_1 : Int) := of_decide_eq_true zz7
              have q190 : x12_1 < (l0.length : Int) := of_decide_eq_true zz7
              obtain ⟨ad190, A190_5, c190_5, e190, hx190_0, hx190_1, hx190_2, hx190_3, hx190_4, hx190_5, hl190_5, hi190_5⟩ := at_T46 (Kd.V_reads' HO_10.out).2.2 x12_1 p190 q190
              cases e190
              obtain ⟨ce190, hce190, hMe190, hcc190⟩ := Kd.V_get HO_10.out z46 x12_1 p190 zz62
              obtain ⟨ua190_5, uc190_5, rfl, ul190_5, ge190_5⟩ := k46_openF hMe190
              have hv190_5 := hcc190 5 _ rfl
              rw [add_field _ _ 5 (by omega)] at hv190_5
              replace hv190_5 := Option.some.inj (hv190_5.symm.trans hx190_5)
              injection hv190_5 with hva_ hvn_ hvc_
              rw [hva_] at ge190_5
              rw [hvc_] at ul190_5
              have HL190_5 := qa.mk (show Kd.V k48 48 _ w.heap.size _ _ ((qe l0 x12_1).f5) from Kd.V_mk ul190_5 ge190_5)
              clear hva_ hvn_ hvc_ ge190_5 ul190_5
              clear hcc190 hce190
              have HR190_5 := qa.mk hi190_5
              have HC190_5 := qa.mk hl190_5
              clear hi190_5 hl190_5
              replace p190 := eq_true p190
              replace q190 := eq_true q190
              go_wp2_with (first | ((with_reducible refine qeb (N := 5) rfl ?_); refine qib ?hg (N := 5) ?hd (cs := #[.int .i64 0, .int .i64 0, .string (⟨#[]⟩ : ByteArray), .string (⟨#[]⟩ : ByteArray), .string (⟨#[]⟩ : ByteArray), .slice none 0 0]) (t := 46) ?hr ?_; (case hd => rfl); (case hg => rfl); (case hr => exact zz5); intro gb191 hg w19 hbox hb; have n0_ := qa.mk (Kd.V_below (Kd.V_elderB zz26 gb191 (Nat.le_of_eq hg.symm)) hb); have n1_ := qa.mk (Kd.R_below zz29 hb); have n2_ := qa.mk (Kd.V_below (Kd.V_elderB zz34 gb191 (Nat.le_of_eq hg.symm)) hb); have n3_ := qa.mk (Kd.V_below (Kd.V_elderB zz36 gb191 (Nat.le_of_eq hg.symm)) hb); have n4_ := qa.mk (Kd.C_below zz98 hb); have n5_ := qa.mk (qm zz24 hb); have n6_ := qa.mk (hbox); have n7_ := qa.mk ((by rw [hg]; exact (ql zz24) : w.heap.size ≤ gb191)); have n8_ := qa.mk ((by rw [hg]; exact (ql zz24) : w.heap.size ≤ gb191)); clear HO_0; clear HO_3; clear HO_10; clear HL190_5; clear HR190_5; clear HB; have HO_0 := n0_; have HO_3 := n1_; have HO_10 := n2_; have HL190_5 := n3_; have HR190_5 := n4_; have HB := n5_; have BK191 := n6_; have GW191 := n7_; have GE191 := n8_; clear n0_ n1_ n2_ n3_ n4_ n5_ n6_ n7_ n8_; clear hb hbox hg; have hcz20_0 : w19.cell? ⟨gb191, 0, none⟩ = some (.int .i64 0) := (qg BK191.out 0).trans rfl; have hcz20_1 : w19.cell? ⟨gb191, 1, none⟩ = some (.int .i64 0) := (qg BK191.out 1).trans rfl; have hcz20_2 : w19.cell? ⟨gb191, 2, none⟩ = some (.string (⟨#[]⟩ : ByteArray)) := (qg BK191.out 2).trans rfl; have hcz20_3 : w19.cell? ⟨gb191, 3, none⟩ = some (.string (⟨#[]⟩ : ByteArray)) := (qg BK191.out 3).trans rfl; have hcz20_4 : w19.cell? ⟨gb191, 4, none⟩ = some (.string (⟨#[]⟩ : ByteArray)) := (qg BK191.out 4).trans rfl; have hcz20_5 : w19.cell? ⟨gb191, 5, none⟩ = some (.slice none 0 0) := (qg BK191.out 5).trans rfl; have hfz20_0 := qf BK191.out 0; have hfz20_1 := qf BK191.out 1; have hfz20_2 := qf BK191.out 2; have hfz20_3 := qf BK191.out 3; have hfz20_4 := qf BK191.out 4; have hfz20_5 := qf BK191.out 5) | ((with_reducible refine gate_store (t := 46) (p := 5) rfl ?_); refine store_event (t := 46) (p := 5) (v := ?vo_w21) (w1 := ((((((w19.setCell ⟨gb191, 0, none⟩ (.int .i64 ((qe l0 x12_1).f0))).setCell ⟨gb191, 1, none⟩ (.int .i64 ((qe l0 x12_1).f1))).setCell ⟨gb191, 2, none⟩ (.string ((qe l0 x12_1).f2))).setCell ⟨gb191, 3, none⟩ (.string ((qe l0 x12_1).f3))).setCell ⟨gb191, 4, none⟩ (.string ((qe l0 x12_1).f4))).setCell ⟨gb191, 5, none⟩ (.slice A190_5 ((qe l0 x12_1).f5).length c190_5))) ?hg ?ho ?hn ?hr ?_; (case ho => rfl); (case hg => rfl); (case hn => rfl); (case hr => exact zz5); intro w21 hw; have n0_ : qa (Kd.V k46 46 w21 w.heap.size (fun k_ => (P0_ k_ ∨ w.heap.size ≤ k_) ∧ some k_ ≠ (v188 : Value).ownBlock ∧ k_ ≠ gb191) (.slice (some ad190) l0.length c0) l0) := ⟨(by rw [hw]; exact zz117)⟩; have n1_ : qa (Kd.R (Kd.int .i64) 3 w21 w.heap.size (fun k_ => (w.heap.size ≤ k_)) v188 x3_1) := ⟨(by rw [hw]; exact zz113)⟩; have n2_ : qa (Kd.V k46 46 w21 w.heap.size (fun k_ => (P0_ k_ ∨ w.heap.size ≤ k_) ∧ some k_ ≠ (v188 : Value).ownBlock ∧ k_ ≠ gb191) (.slice (some ad190) l0.length c0) l0) := ⟨(by rw [hw]; exact zz118)⟩; have n3_ : qa (Kd.V k48 48 w21 w.heap.size (fun k_ => (P0_ k_ ∨ w.heap.size ≤ k_) ∧ some k_ ≠ (v188 : Value).ownBlock ∧ k_ ≠ gb191) (.slice A190_5 ((qe l0 x12_1).f5).length c190_5) ((qe l0 x12_1).f5)) := ⟨(by rw [hw]; exact zz119)⟩; have n4_ : qa (w21.heap[gb191]? = some (.cells #[.int .i64 ((qe l0 x12_1).f0), .int .i64 ((qe l0 x12_1).f1), .string ((qe l0 x12_1).f2), .string ((qe l0 x12_1).f3), .string ((qe l0 x12_1).f4), .slice A190_5 ((qe l0 x12_1).f5).length c190_5] 46 (0, 0))) := ⟨(by rw [hw]; exact zz127)⟩; have n5_ : qa (Below w.heap.size w w21) := ⟨(by rw [hw]; exact zz48)⟩; clear hw; clear HO_0; clear HO_3; clear HO_10; clear HL190_5; clear BK191; clear HB; have HO_0 := n0_; have HO_3 := n1_; have HO_10 := n2_; have HL190_5 := n3_; have BK191 := n4_; have HB := n5_; clear n0_ n1_ n2_ n3_ n4_ n5_; have hcz22_0 : w21.cell? ⟨gb191, 0, none⟩ = some (.int .i64 ((qe l0 x12_1).f0)) := (qg BK191.out 0).trans rfl; have hcz22_1 : w21.cell? ⟨gb191, 1, none⟩ = some (.int .i64 ((qe l0 x12_1).f1)) := (qg BK191.out 1).trans rfl; have hcz22_2 : w21.cell? ⟨gb191, 2, none⟩ = some (.string ((qe l0 x12_1).f2)) := (qg BK191.out 2).trans rfl; have hcz22_3 : w21.cell? ⟨gb191, 3, none⟩ = some (.string ((qe l0 x12_1).f3)) := (qg BK191.out 3).trans rfl; have hcz22_4 : w21.cell? ⟨gb191, 4, none⟩ = some (.string ((qe l0 x12_1).f4)) := (qg BK191.out 4).trans rfl; have hcz22_5 : w21.cell? ⟨gb191, 5, none⟩ = some (.slice A190_5 ((qe l0 x12_1).f5).length c190_5) := (qg BK191.out 5).trans rfl; have hfz22_0 := qf BK191.out 0; have hfz22_1 := qf BK191.out 1; have hfz22_2 := qf BK191.out 2; have hfz22_3 := qf BK191.out 3; have hfz22_4 := qf BK191.out 4; have hfz22_5 := qf BK191.out 5; obtain ⟨Ao23, co23, eo23⟩ := Kd.R_slice HO_3.out; subst eo23; have p192 : 0 ≤ (((qe l0 x12_1).f1) : Int) := of_decide_eq_true zz7; have q192 : ((qe l0 x12_1).f1) < (x3_1.length : Int) := of_decide_eq_true zz7; obtain ⟨ad192, e192, hx192_0⟩ := Kd.at_int (Kd.R_reads' HO_3.out).2.2 ((qe l0 x12_1).f1) p192 q192; cases e192; replace p192 := eq_true p192; replace q192 := eq_true q192; have p15 : 0 ≤ ((ji12) : Int) := of_decide_eq_true zz7; have q15 : ((ji12) : Int) < ((x3_1.length : Int) : Int) := of_decide_eq_true zz7; obtain ⟨go15, co15, eo15, gb15, gl15, cl15, HG15⟩ := Kd.R_form HO_3.out (by omega); (first | cases eo15 | (injection eo15 with ea_ en_ ec_; (first | subst ea_ | (injection ea_ with ea_; subst ea_)); subst ec_; clear en_)); have GB15 := qa.mk gb15; have GG15 := qa.mk HG15; clear gb15 gl15 HG15; (first | simp only [add_plain] at hx192_0 | skip); obtain ⟨hx15_0, hf15_0⟩ := Kd.R_celln 0 HO_3.out ((ji12) : Int) p15 q15; replace p15 := eq_true p15; replace q15 := eq_true q15; obtain ⟨hy24_, hz24_⟩ := Kd.R_celln 0 HO_3.out ((ji12) : Int) (of_decide_eq_true zz7) (of_decide_eq_true zz7); have HP24 := Kd.R_putg HO_3.out ((ji12) : Int) (wrap64 ((rd x3_1 ((qe l0 x12_1).f1)) + 1))) | ((with_reducible refine gate_store (t := 3) (p := 26) rfl ?_); refine store_event (t := 3) (p := 26) (v := ?vo_w25) (w1 := (w21.setCell ⟨go15, ((ji12) : Int).toNat, none⟩ (.int .i64 (wrap64 ((rd x3_1 ((qe l0 x12_1).f1)) + 1))))) ?hg ?ho ?hn ?hr ?_; (case ho => rfl); (case hg => rfl); (case hn => rfl); (case hr => exact zz5); intro w25 hw; have hg : w21.grownBy w25 (some go15) := (by rw [hw]; exact HP24.2); have hp_ : Kd.R (Kd.int .i64) 3 w25 w.heap.size (fun k_ => (w.heap.size ≤ k_)) (.slice (some ⟨go15, 0, none⟩) x3_1.length co23) y193 := (by rw [hw, Ny193.out]; exact HP24.1); clear HP24; have n0_ := qa.mk (Kd.V_afterv (v := (.slice (some ⟨go15, 0, none⟩) x3_1.length co23)) (v1 := (.slice (some ⟨go15, 0, none⟩) x3_1.length co23)) (ok := (fun k_ => (P0_ k_ ∨ w.heap.size ≤ k_) ∧ k_ ≠ gb191)) zz68 hg (.inl rfl)); have n1_ := qa.mk (hp_); have n2_ := qa.mk (Kd.V_afterv (v := (.slice (some ⟨go15, 0, none⟩) x3_1.length co23)) (v1 := (.slice (some ⟨go15, 0, none⟩) x3_1.length co23)) (ok := (fun k_ => (P0_ k_ ∨ w.heap.size ≤ k_) ∧ k_ ≠ gb191)) zz71 hg (.inl rfl)); have n3_ := qa.mk (Kd.V_afterv (v := (.slice (some ⟨go15, 0, none⟩) x3_1.length co23)) (v1 := (.slice (some ⟨go15, 0, none⟩) x3_1.length co23)) (ok := (fun k_ => (P0_ k_ ∨ w.heap.size ≤ k_) ∧ k_ ≠ gb191)) zz72 hg (.inl rfl)); have n4_ := qa.mk (blk_grown (g := gb191) (o := .cells #[.int .i64 ((qe l0 x12_1).f0), .int .i64 ((qe l0 x12_1).f1), .string ((qe l0 x12_1).f2), .string ((qe l0 x12_1).f3), .string ((qe l0 x12_1).f4), .slice A190_5 ((qe l0 x12_1).f5).length c190_5] 46 (0, 0)) zz19 hg (Kd.R_ne HO_3.out BK191.out (by decide))); have n5_ := qa.mk ((by rw [hw]; exact qj (HB.out) GB15.out : Below w.heap.size w w25)); clear HO_0; clear HO_3; clear HO_10; clear HL190_5; clear BK191; clear HB; have HO_0 := n0_; have HO_3 := n1_; have HO_10 := n2_; have HL190_5 := n3_; have BK191 := n4_; have HB := n5_; clear n0_ n1_ n2_ n3_ n4_ n5_; clear hg hw hp_; have p194 : 0 ≤ ((ji12) : Int) := of_decide_eq_true zz7; have q194 : (ji12) < (y193.length : Int) := (by have h_ : ((ji12) : Int) < ((x3_1.length : Int) : Int) := of_decide_eq_true zz7; first | (have e_ := (Kd.R_reads' HO_3.out).1; omega) | simpa only [Ny193.out, List.length_set] using h_); have ql194 : (((ji12) : Int) < ((x3_1.length : Int) : Int)) = True := eq_true (of_decide_eq_true zz7); obtain ⟨ad194, e194, hx194_0⟩ := Kd.at_int (Kd.R_reads' HO_3.out).2.2 (ji12) p194 q194; obtain rfl : (⟨go15, 0, none⟩ : Addr) = ad194 := (by injection e194); (first | simp only [add_plain] at hx194_0 | simp only [add_at] at hx194_0 | simp only [Addr.add, Nat.zero_add] at hx194_0 | skip); replace p194 := eq_true p194; replace q194 := eq_true q194; have q26 : ((ji12) : Int) ≤ ((l0.length : Int) : Int) := of_decide_eq_true zz7; obtain ⟨i026, hi026, _, hsz26, _⟩ := info_parts info46; have hroom26 : l0.length ≤ c0 := (Kd.V_reads' HO_0.out).2.1; have hC26 : Kd.F k46 _ _ (some ad190) l0.length l0 := (Kd.V_at (base := w.heap.size) HO_0.out).2.2; have hcut26 := cut_to (P := Tryd.prog) 34 46 .i64 Tryd.underlying34 hi026 (some ad190) l0.length c0 (ji12) (of_decide_eq_true zz7) q26 hroom26; have hr26 := Kd.F_take (m := ((ji12) : Int).toNat) hC26 (by omega); have hy26 : y195.length = ((ji12) : Int).toNat := (by rw [Ny195.out, List.length_take]; omega); rw [← Ny195.out] at hr26; rw [← hy26] at hcut26; have HO199 := qa.mk (show Kd.V k46 46 _ w.heap.size _ (.slice (some ad190) y195.length c0) y195 from Kd.V_mk (by omega) hr26); have HC199 := qa.mk (show y195.length ≤ c0 from by omega); clear hr26 hC26 hroom26 hi026 hsz26; have KY26 := qa.mk hy26; clear hy26; replace q26 := eq_true q26))
              go_ret
              exact ⟨_, zz103, by (with_reducible repeat (first | apply Kd.V_alloc | apply Kd.V_drewN | apply Kd.V_drew)); exact Kd.V_mono HO199.out (fun _ hk => hk.1.1), zz48⟩
             ·rw [if_neg c18] at H
              exact absurd H (by simp)
            ·rw [if_neg c16] at H
             have c16b0 : decide (64 < (rd y193 (ji12))) = false := decide_eq_false c16
             clear c16
             by_cases c27 : x12_1 = 4096
             ·rw [if_pos c27] at H
              have c27b0 : (x12_1 == 4096) = true := beq_iff_eq.mpr c27
              have c27b1 : (x12_1 != 4096) = false := bne_eq_false_iff_eq.mpr c27
              clear c27
              have c28b0 := eq_true (of_decide_eq_true zz7 : 0 ≤ (ji12))
              by_cases c29 : (ji12) ≤ (l0.length : Int)
              ·rw [if_pos c29] at H
               have c29b0 := eq_true c29
               have c29b1 : decide ((ji12) ≤ (l0.length : Int)) = true := decide_eq_true c29
               clear c29
               obtain ⟨y200, hy200⟩ : ∃ y_ : List (S46), y_ = (l0.take ((ji12) : Int).toNat) := ⟨_, rfl⟩
               replace H : (some y200) = some r := by first | (rw [hy200]; with_reducible exact H) | (have H2_ := (Option.bind_some _ _).symm.trans H; rw [hy200]; with_reducible exact H2_) | (have H2_ := (Option.bind_some _ _).symm.trans H; with_reducible exact H2_) | with_reducible exact H | (rw [hy200]; exact H) | exact H
               have Ny200 := qa.mk hy200
               clear hy200
               obtain rfl := Option.some.inj H
               have p190 : 0 ≤ (x12_1 : Int) := of_decide_eq_true zz7
               have q190 : x12_1 < (l0.length : Int) := of_decide_eq_true zz7
               obtain ⟨ad190, A190_5, c190_5, e190, hx190_0, hx190_1, hx190_2, hx190_3, hx190_4, hx190_5, hl190_5, hi190_5⟩ := at_T46 (Kd.V_reads' HO_10.out).2.2 x12_1 p190 q190
               cases e190
               obtain ⟨ce190, hce190, hMe190, hcc190⟩ := Kd.V_get HO_10.out z46 x12_1 p190 zz62
               obtain ⟨ua190_5, uc190_5, rfl, ul190_5, ge190_5⟩ := k46_openF hMe190
               have hv190_5 := hcc190 5 _ rfl
               rw [add_field _ _ 5 (by omega)] at hv190_5
               replace hv190_5 := Option.some.inj (hv190_5.symm.trans hx190_5)
               injection hv190_5 with hva_ hvn_ hvc_
               rw [hva_] at ge190_5
               rw [hvc_] at ul190_5
               have HL190_5 := qa.mk (show Kd.V k48 48 _ w.heap.size _ _ ((qe l0 x12_1).f5) from Kd.V_mk ul190_5 ge190_5)
               clear hva_ hvn_ hvc_ ge190_5 ul190_5
               clear hcc190 hce190
               have HR190_5 := qa.mk hi190_5
               have HC190_5 := qa.mk hl190_5
               clear hi190_5 hl190_5
               replace p190 := eq_true p190
               replace q190 := eq_true q190
               go_wp2_with (first | ((with_reducible refine qeb (N := 5) rfl ?_); refine qib ?hg (N := 5) ?hd (cs := #[.int .i64 0, .int .i64 0, .string (⟨#[]⟩ : ByteArray), .string (⟨#[]⟩ : ByteArray), .string (⟨#[]⟩ : ByteArray), .slice none 0 0]) (t := 46) ?hr ?_; (case hd => rfl); (case hg => rfl); (case hr => exact zz5); intro gb191 hg w30 hbox hb; have n0_ := qa.mk (Kd.V_below (Kd.V_elderB zz26 gb191 (Nat.le_of_eq hg.symm)) hb); have n1_ := qa.mk (Kd.R_below zz29 hb); have n2_ := qa.mk (Kd.V_below (Kd.V_elderB zz34 gb191 (Nat.le_of_eq hg.symm)) hb); have n3_ := qa.mk (Kd.V_below (Kd.V_elderB zz36 gb191 (Nat.le_of_eq hg.symm)) hb); have n4_ := qa.mk (Kd.C_below zz98 hb); have n5_ := qa.mk (qm zz24 hb); have n6_ := qa.mk (hbox); have n7_ := qa.mk ((by rw [hg]; exact (ql zz24) : w.heap.size ≤ gb191)); have n8_ := qa.mk ((by rw [hg]; exact (ql zz24) : w.heap.size ≤ gb191)); clear HO_0; clear HO_3; clear HO_10; clear HL190_5; clear HR190_5; clear HB; have HO_0 := n0_; have HO_3 := n1_; have HO_10 := n2_; have HL190_5 := n3_; have HR190_5 := n4_; have HB := n5_; have BK191 := n6_; have GW191 := n7_; have GE191 := n8_; clear n0_ n1_ n2_ n3_ n4_ n5_ n6_ n7_ n8_; clear hb hbox hg; have hcz31_0 : w30.cell? ⟨gb191, 0, none⟩ = some (.int .i64 0) := (qg BK191.out 0).trans rfl; have hcz31_1 : w30.cell? ⟨gb191, 1, none⟩ = some (.int .i64 0) := (qg BK191.out 1).trans rfl; have hcz31_2 : w30.cell? ⟨gb191, 2, none⟩ = some (.string (⟨#[]⟩ : ByteArray)) := (qg BK191.out 2).trans rfl; have hcz31_3 : w30.cell? ⟨gb191, 3, none⟩ = some (.string (⟨#[]⟩ : ByteArray)) := (qg BK191.out 3).trans rfl; have hcz31_4 : w30.cell? ⟨gb191, 4, none⟩ = some (.string (⟨#[]⟩ : ByteArray)) := (qg BK191.out 4).trans rfl; have hcz31_5 : w30.cell? ⟨gb191, 5, none⟩ = some (.slice none 0 0) := (qg BK191.out 5).trans rfl; have hfz31_0 := qf BK191.out 0; have hfz31_1 := qf BK191.out 1; have hfz31_2 := qf BK191.out 2; have hfz31_3 := qf BK191.out 3; have hfz31_4 := qf BK191.out 4; have hfz31_5 := qf BK191.out 5) | ((with_reducible refine gate_store (t := 46) (p := 5) rfl ?_); refine store_event (t := 46) (p := 5) (v := ?vo_w32) (w1 := ((((((w30.setCell ⟨gb191, 0, none⟩ (.int .i64 ((qe l0 x12_1).f0))).setCell ⟨gb191, 1, none⟩ (.int .i64 ((qe l0 x12_1).f1))).setCell ⟨gb191, 2, none⟩ (.string ((qe l0 x12_1).f2))).setCell ⟨gb191, 3, none⟩ (.string ((qe l0 x12_1).f3))).setCell ⟨gb191, 4, none⟩ (.string ((qe l0 x12_1).f4))).setCell ⟨gb191, 5, none⟩ (.slice A190_5 ((qe l0 x12_1).f5).length c190_5))) ?hg ?ho ?hn ?hr ?_; (case ho => rfl); (case hg => rfl); (case hn => rfl); (case hr => exact zz5); intro w32 hw; have n0_ : qa (Kd.V k46 46 w32 w.heap.size (fun k_ => (P0_ k_ ∨ w.heap.size ≤ k_) ∧ some k_ ≠ (v188 : Value).ownBlock ∧ k_ ≠ gb191) (.slice (some ad190) l0.length c0) l0) := ⟨(by rw [hw]; exact zz117)⟩; have n1_ : qa (Kd.R (Kd.int .i64) 3 w32 w.heap.size (fun k_ => (w.heap.size ≤ k_)) v188 x3_1) := ⟨(by rw [hw]; exact zz113)⟩; have n2_ : qa (Kd.V k46 46 w32 w.heap.size (fun k_ => (P0_ k_ ∨ w.heap.size ≤ k_) ∧ some k_ ≠ (v188 : Value).ownBlock ∧ k_ ≠ gb191) (.slice (some ad190) l0.length c0) l0) := ⟨(by rw [hw]; exact zz118)⟩; have n3_ : qa (Kd.V k48 48 w32 w.heap.size (fun k_ => (P0_ k_ ∨ w.heap.size ≤ k_) ∧ some k_ ≠ (v188 : Value).ownBlock ∧ k_ ≠ gb191) (.slice A190_5 ((qe l0 x12_1).f5).length c190_5) ((qe l0 x12_1).f5)) := ⟨(by rw [hw]; exact zz119)⟩; have n4_ : qa (w32.heap[gb191]? = some (.cells #[.int .i64 ((qe l0 x12_1).f0), .int .i64 ((qe l0 x12_1).f1), .string ((qe l0 x12_1).f2), .string ((qe l0 x12_1).f3), .string ((qe l0 x12_1).f4), .slice A190_5 ((qe l0 x12_1).f5).length c190_5] 46 (0, 0))) := ⟨(by rw [hw]; exact zz127)⟩; have n5_ : qa (Below w.heap.size w w32) := ⟨(by rw [hw]; exact zz48)⟩; clear hw; clear HO_0; clear HO_3; clear HO_10; clear HL190_5; clear BK191; clear HB; have HO_0 := n0_; have HO_3 := n1_; have HO_10 := n2_; have HL190_5 := n3_; have BK191 := n4_; have HB := n5_; clear n0_ n1_ n2_ n3_ n4_ n5_; have hcz33_0 : w32.cell? ⟨gb191, 0, none⟩ = some (.int .i64 ((qe l0 x12_1).f0)) := (qg BK191.out 0).trans rfl; have hcz33_1 : w32.cell? ⟨gb191, 1, none⟩ = some (.int .i64 ((qe l0 x12_1).f1)) := (qg BK191.out 1).trans rfl; have hcz33_2 : w32.cell? ⟨gb191, 2, none⟩ = some (.string ((qe l0 x12_1).f2)) := (qg BK191.out 2).trans rfl; have hcz33_3 : w32.cell? ⟨gb191, 3, none⟩ = some (.string ((qe l0 x12_1).f3)) := (qg BK191.out 3).trans rfl; have hcz33_4 : w32.cell? ⟨gb191, 4, none⟩ = some (.string ((qe l0 x12_1).f4)) := (qg BK191.out 4).trans rfl; have hcz33_5 : w32.cell? ⟨gb191, 5, none⟩ = some (.slice A190_5 ((qe l0 x12_1).f5).length c190_5) := (qg BK191.out 5).trans rfl; have hfz33_0 := qf BK191.out 0; have hfz33_1 := qf BK191.out 1; have hfz33_2 := qf BK191.out 2; have hfz33_3 := qf BK191.out 3; have hfz33_4 := qf BK191.out 4; have hfz33_5 := qf BK191.out 5; obtain ⟨Ao34, co34, eo34⟩ := Kd.R_slice HO_3.out; subst eo34; have p192 : 0 ≤ (((qe l0 x12_1).f1) : Int) := of_decide_eq_true zz7; have q192 : ((qe l0 x12_1).f1) < (x3_1.length : Int) := of_decide_eq_true zz7; obtain ⟨ad192, e192, hx192_0⟩ := Kd.at_int (Kd.R_reads' HO_3.out).2.2 ((qe l0 x12_1).f1) p192 q192; cases e192; replace p192 := eq_true p192; replace q192 := eq_true q192; have p15 : 0 ≤ ((ji12) : Int) := of_decide_eq_true zz7; have q15 : ((ji12) : Int) < ((x3_1.length : Int) : Int) := of_decide_eq_true zz7; obtain ⟨go15, co15, eo15, gb15, gl15, cl15, HG15⟩ := Kd.R_form HO_3.out (by omega); (first | cases eo15 | (injection eo15 with ea_ en_ ec_; (first | subst ea_ | (injection ea_ with ea_; subst ea_)); subst ec_; clear en_)); have GB15 := qa.mk gb15; have GG15 := qa.mk HG15; clear gb15 gl15 HG15; (first | simp only [add_plain] at hx192_0 | skip); obtain ⟨hx15_0, hf15_0⟩ := Kd.R_celln 0 HO_3.out ((ji12) : Int) p15 q15; replace p15 := eq_true p15; replace q15 := eq_true q15; obtain ⟨hy35_, hz35_⟩ := Kd.R_celln 0 HO_3.out ((ji12) : Int) (of_decide_eq_true zz7) (of_decide_eq_true zz7); have HP35 := Kd.R_putg HO_3.out ((ji12) : Int) (wrap64 ((rd x3_1 ((qe l0 x12_1).f1)) + 1))) | ((with_reducible refine gate_store (t := 3) (p := 26) rfl ?_); refine store_event (t := 3) (p := 26) (v := ?vo_w36) (w1 := (w32.setCell ⟨go15, ((ji12) : Int).toNat, none⟩ (.int .i64 (wrap64 ((rd x3_1 ((qe l0 x12_1).f1)) + 1))))) ?hg ?ho ?hn ?hr ?_; (case ho => rfl); (case hg => rfl); (case hn => rfl); (case hr => exact zz5); intro w36 hw; have hg : w32.grownBy w36 (some go15) := (by rw [hw]; exact HP35.2); have hp_ : Kd.R (Kd.int .i64) 3 w36 w.heap.size (fun k_ => (w.heap.size ≤ k_)) (.slice (some ⟨go15, 0, none⟩) x3_1.length co34) y193 := (by rw [hw, Ny193.out]; exact HP35.1); clear HP35; have n0_ := qa.mk (Kd.V_afterv (v := (.slice (some ⟨go15, 0, none⟩) x3_1.length co34)) (v1 := (.slice (some ⟨go15, 0, none⟩) x3_1.length co34)) (ok := (fun k_ => (P0_ k_ ∨ w.heap.size ≤ k_) ∧ k_ ≠ gb191)) zz68 hg (.inl rfl)); have n1_ := qa.mk (hp_); have n2_ := qa.mk (Kd.V_afterv (v := (.slice (some ⟨go15, 0, none⟩) x3_1.length co34)) (v1 := (.slice (some ⟨go15, 0, none⟩) x3_1.length co34)) (ok := (fun k_ => (P0_ k_ ∨ w.heap.size ≤ k_) ∧ k_ ≠ gb191)) zz71 hg (.inl rfl)); have n3_ := qa.mk (Kd.V_afterv (v := (.slice (some ⟨go15, 0, none⟩) x3_1.length co34)) (v1 := (.slice (some ⟨go15, 0, none⟩) x3_1.length co34)) (ok := (fun k_ => (P0_ k_ ∨ w.heap.size ≤ k_) ∧ k_ ≠ gb191)) zz72 hg (.inl rfl)); have n4_ := qa.mk (blk_grown (g := gb191) (o := .cells #[.int .i64 ((qe l0 x12_1).f0), .int .i64 ((qe l0 x12_1).f1), .string ((qe l0 x12_1).f2), .string ((qe l0 x12_1).f3), .string ((qe l0 x12_1).f4), .slice A190_5 ((qe l0 x12_1).f5).length c190_5] 46 (0, 0)) zz19 hg (Kd.R_ne HO_3.out BK191.out (by decide))); have n5_ := qa.mk ((by rw [hw]; exact qj (HB.out) GB15.out : Below w.heap.size w w36)); clear HO_0; clear HO_3; clear HO_10; clear HL190_5; clear BK191; clear HB; have HO_0 := n0_; have HO_3 := n1_; have HO_10 := n2_; have HL190_5 := n3_; have BK191 := n4_; have HB := n5_; clear n0_ n1_ n2_ n3_ n4_ n5_; clear hg hw hp_; have p194 : 0 ≤ ((ji12) : Int) := of_decide_eq_true zz7; have q194 : (ji12) < (y193.length : Int) := (by have h_ : ((ji12) : Int) < ((x3_1.length : Int) : Int) := of_decide_eq_true zz7; first | (have e_ := (Kd.R_reads' HO_3.out).1; omega) | simpa only [Ny193.out, List.length_set] using h_); have ql194 : (((ji12) : Int) < ((x3_1.length : Int) : Int)) = True := eq_true (of_decide_eq_true zz7); obtain ⟨ad194, e194, hx194_0⟩ := Kd.at_int (Kd.R_reads' HO_3.out).2.2 (ji12) p194 q194; obtain rfl : (⟨go15, 0, none⟩ : Addr) = ad194 := (by injection e194); (first | simp only [add_plain] at hx194_0 | simp only [add_at] at hx194_0 | simp only [Addr.add, Nat.zero_add] at hx194_0 | skip); replace p194 := eq_true p194; replace q194 := eq_true q194; have q37 : ((ji12) : Int) ≤ ((l0.length : Int) : Int) := of_decide_eq_true zz7; obtain ⟨i037, hi037, _, hsz37, _⟩ := info_parts info46; have hroom37 : l0.length ≤ c0 := (Kd.V_reads' HO_0.out).2.1; have hC37 : Kd.F k46 _ _ (some ad190) l0.length l0 := (Kd.V_at (base := w.heap.size) HO_0.out).2.2; have hcut37 := cut_to (P := Tryd.prog) 34 46 .i64 Tryd.underlying34 hi037 (some ad190) l0.length c0 (ji12) (of_decide_eq_true zz7) q37 hroom37; have hr37 := Kd.F_take (m := ((ji12) : Int).toNat) hC37 (by omega); have hy37 : y200.length = ((ji12) : Int).toNat := (by rw [Ny200.out, List.length_take]; omega); rw [← Ny200.out] at hr37; rw [← hy37] at hcut37; have HO204 := qa.mk (show Kd.V k46 46 _ w.heap.size _ (.slice (some ad190) y200.length c0) y200 from Kd.V_mk (by omega) hr37); have HC204 := qa.mk (show y200.length ≤ c0 from by omega); clear hr37 hC37 hroom37 hi037 hsz37; have KY37 := qa.mk hy37; clear hy37; replace q37 := eq_true q37))
               go_ret
               exact ⟨_, zz103, by (with_reducible repeat (first | apply Kd.V_alloc | apply Kd.V_drewN | apply Kd.V_drew)); exact Kd.V_mono HO204.out (fun _ hk => hk.1.1), zz48⟩
              ·rw [if_neg c29] at H
               exact absurd H (by simp)
             ·rw [if_neg c27] at H
              have c27b0 : (x12_1 == 4096) = false := beq_eq_false_iff_ne.mpr c27
              have c27b1 : (x12_1 != 4096) = true := bne_iff_ne.mpr c27
              have H' := qa.mk H
              clear H
              have p190 : 0 ≤ (x12_1 : Int) := of_decide_eq_true zz7
              have q190 : x12_1 < (l0.length : Int) := of_decide_eq_true zz7
              obtain ⟨ad190, A190_5, c190_5, e190, hx190_0, hx190_1, hx190_2, hx190_3, hx190_4, hx190_5, hl190_5, hi190_5⟩ := at_T46 (Kd.V_reads' HO_10.out).2.2 x12_1 p190 q190
              cases e190
              obtain ⟨ce190, hce190, hMe190, hcc190⟩ := Kd.V_get HO_10.out z46 x12_1 p190 zz62
              obtain ⟨ua190_5, uc190_5, rfl, ul190_5, ge190_5⟩ := k46_openF hMe190
              have hv190_5 := hcc190 5 _ rfl
              rw [add_field _ _ 5 (by omega)] at hv190_5
              replace hv190_5 := Option.some.inj (hv190_5.symm.trans hx190_5)
              injection hv190_5 with hva_ hvn_ hvc_
              rw [hva_] at ge190_5
              rw [hvc_] at ul190_5
              have HL190_5 := qa.mk (show Kd.V k48 48 _ w.heap.size _ _ ((qe l0 x12_1).f5) from Kd.V_mk ul190_5 ge190_5)
              clear hva_ hvn_ hvc_ ge190_5 ul190_5
              clear hcc190 hce190
              have HR190_5 := qa.mk hi190_5
              have HC190_5 := qa.mk hl190_5
              clear hi190_5 hl190_5
              replace p190 := eq_true p190
              replace q190 := eq_true q190
              go_wp2_with (first | ((with_reducible refine qeb (N := 5) rfl ?_); refine qib ?hg (N := 5) ?hd (cs := #[.int .i64 0, .int .i64 0, .string (⟨#[]⟩ : ByteArray), .string (⟨#[]⟩ : ByteArray), .string (⟨#[]⟩ : ByteArray), .slice none 0 0]) (t := 46) ?hr ?_; (case hd => rfl); (case hg => rfl); (case hr => exact zz5); intro gb191 hg w38 hbox hb; have n0_ := qa.mk (Kd.V_below (Kd.V_elderB zz26 gb191 (Nat.le_of_eq hg.symm)) hb); have n1_ := qa.mk (Kd.R_below zz29 hb); have n2_ := qa.mk (Kd.V_below (Kd.V_elderB zz34 gb191 (Nat.le_of_eq hg.symm)) hb); have n3_ := qa.mk (Kd.V_below (Kd.V_elderB zz36 gb191 (Nat.le_of_eq hg.symm)) hb); have n4_ := qa.mk (Kd.C_below zz98 hb); have n5_ := qa.mk (qm zz24 hb); have n6_ := qa.mk (hbox); have n7_ := qa.mk ((by rw [hg]; exact (ql zz24) : w.heap.size ≤ gb191)); have n8_ := qa.mk ((by rw [hg]; exact (ql zz24) : w.heap.size ≤ gb191)); clear HO_0; clear HO_3; clear HO_10; clear HL190_5; clear HR190_5; clear HB; have HO_0 := n0_; have HO_3 := n1_; have HO_10 := n2_; have HL190_5 := n3_; have HR190_5 := n4_; have HB := n5_; have BK191 := n6_; have GW191 := n7_; have GE191 := n8_; clear n0_ n1_ n2_ n3_ n4_ n5_ n6_ n7_ n8_; clear hb hbox hg; have hcz39_0 : w38.cell? ⟨gb191, 0, none⟩ = some (.int .i64 0) := (qg BK191.out 0).trans rfl; have hcz39_1 : w38.cell? ⟨gb191, 1, none⟩ = some (.int .i64 0) := (qg BK191.out 1).trans rfl; have hcz39_2 : w38.cell? ⟨gb191, 2, none⟩ = some (.string (⟨#[]⟩ : ByteArray)) := (qg BK191.out 2).trans rfl; have hcz39_3 : w38.cell? ⟨gb191, 3, none⟩ = some (.string (⟨#[]⟩ : ByteArray)) := (qg BK191.out 3).trans rfl; have hcz39_4 : w38.cell? ⟨gb191, 4, none⟩ = some (.string (⟨#[]⟩ : ByteArray)) := (qg BK191.out 4).trans rfl; have hcz39_5 : w38.cell? ⟨gb191, 5, none⟩ = some (.slice none 0 0) := (qg BK191.out 5).trans rfl; have hfz39_0 := qf BK191.out 0; have hfz39_1 := qf BK191.out 1; have hfz39_2 := qf BK191.out 2; have hfz39_3 := qf BK191.out 3; have hfz39_4 := qf BK191.out 4; have hfz39_5 := qf BK191.out 5) | ((with_reducible refine gate_store (t := 46) (p := 5) rfl ?_); refine store_event (t := 46) (p := 5) (v := ?vo_w40) (w1 := ((((((w38.setCell ⟨gb191, 0, none⟩ (.int .i64 ((qe l0 x12_1).f0))).setCell ⟨gb191, 1, none⟩ (.int .i64 ((qe l0 x12_1).f1))).setCell ⟨gb191, 2, none⟩ (.string ((qe l0 x12_1).f2))).setCell ⟨gb191, 3, none⟩ (.string ((qe l0 x12_1).f3))).setCell ⟨gb191, 4, none⟩ (.string ((qe l0 x12_1).f4))).setCell ⟨gb191, 5, none⟩ (.slice A190_5 ((qe l0 x12_1).f5).length c190_5))) ?hg ?ho ?hn ?hr ?_; (case ho => rfl); (case hg => rfl); (case hn => rfl); (case hr => exact zz5); intro w40 hw; have n0_ : qa (Kd.V k46 46 w40 w.heap.size (fun k_ => (P0_ k_ ∨ w.heap.size ≤ k_) ∧ some k_ ≠ (v188 : Value).ownBlock ∧ k_ ≠ gb191) (.slice (some ad190) l0.length c0) l0) := ⟨(by rw [hw]; exact zz117)⟩; have n1_ : qa (Kd.R (Kd.int .i64) 3 w40 w.heap.size (fun k_ => (w.heap.size ≤ k_)) v188 x3_1) := ⟨(by rw [hw]; exact zz113)⟩; have n2_ : qa (Kd.V k46 46 w40 w.heap.size (fun k_ => (P0_ k_ ∨ w.heap.size ≤ k_) ∧ some k_ ≠ (v188 : Value).ownBlock ∧ k_ ≠ gb191) (.slice (some ad190) l0.length c0) l0) := ⟨(by rw [hw]; exact zz118)⟩; have n3_ : qa (Kd.V k48 48 w40 w.heap.size (fun k_ => (P0_ k_ ∨ w.heap.size ≤ k_) ∧ some k_ ≠ (v188 : Value).ownBlock ∧ k_ ≠ gb191) (.slice A190_5 ((qe l0 x12_1).f5).length c190_5) ((qe l0 x12_1).f5)) := ⟨(by rw [hw]; exact zz119)⟩; have n4_ : qa (w40.heap[gb191]? = some (.cells #[.int .i64 ((qe l0 x12_1).f0), .int .i64 ((qe l0 x12_1).f1), .string ((qe l0 x12_1).f2), .string ((qe l0 x12_1).f3), .string ((qe l0 x12_1).f4), .slice A190_5 ((qe l0 x12_1).f5).length c190_5] 46 (0, 0))) := ⟨(by rw [hw]; exact zz127)⟩; have n5_ : qa (Below w.heap.size w w40) := ⟨(by rw [hw]; exact zz48)⟩; clear hw; clear HO_0; clear HO_3; clear HO_10; clear HL190_5; clear BK191; clear HB; have HO_0 := n0_; have HO_3 := n1_; have HO_10 := n2_; have HL190_5 := n3_; have BK191 := n4_; have HB := n5_; clear n0_ n1_ n2_ n3_ n4_ n5_; have hcz41_0 : w40.cell? ⟨gb191, 0, none⟩ = some (.int .i64 ((qe l0 x12_1).f0)) := (qg BK191.out 0).trans rfl; have hcz41_1 : w40.cell? ⟨gb191, 1, none⟩ = some (.int .i64 ((qe l0 x12_1).f1)) := (qg BK191.out 1).trans rfl; have hcz41_2 : w40.cell? ⟨gb191, 2, none⟩ = some (.string ((qe l0 x12_1).f2)) := (qg BK191.out 2).trans rfl; have hcz41_3 : w40.cell? ⟨gb191, 3, none⟩ = some (.string ((qe l0 x12_1).f3)) := (qg BK191.out 3).trans rfl; have hcz41_4 : w40.cell? ⟨gb191, 4, none⟩ = some (.string ((qe l0 x12_1).f4)) := (qg BK191.out 4).trans rfl; have hcz41_5 : w40.cell? ⟨gb191, 5, none⟩ = some (.slice A190_5 ((qe l0 x12_1).f5).length c190_5) := (qg BK191.out 5).trans rfl; have hfz41_0 := qf BK191.out 0; have hfz41_1 := qf BK191.out 1; have hfz41_2 := qf BK191.out 2; have hfz41_3 := qf BK191.out 3; have hfz41_4 := qf BK191.out 4; have hfz41_5 := qf BK191.out 5; obtain ⟨Ao42, co42, eo42⟩ := Kd.R_slice HO_3.out; subst eo42; have p192 : 0 ≤ (((qe l0 x12_1).f1) : Int) := of_decide_eq_true zz7; have q192 : ((qe l0 x12_1).f1) < (x3_1.length : Int) := of_decide_eq_true zz7; obtain ⟨ad192, e192, hx192_0⟩ := Kd.at_int (Kd.R_reads' HO_3.out).2.2 ((qe l0 x12_1).f1) p192 q192; cases e192; replace p192 := eq_true p192; replace q192 := eq_true q192; have p15 : 0 ≤ ((ji12) : Int) := of_decide_eq_true zz7; have q15 : ((ji12) : Int) < ((x3_1.length : Int) : Int) := of_decide_eq_true zz7; obtain ⟨go15, co15, eo15, gb15, gl15, cl15, HG15⟩ := Kd.R_form HO_3.out (by omega); (first | cases eo15 | (injection eo15 with ea_ en_ ec_; (first | subst ea_ | (injection ea_ with ea_; subst ea_)); subst ec_; clear en_)); have GB15 := qa.mk gb15; have GG15 := qa.mk HG15; clear gb15 gl15 HG15; (first | simp only [add_plain] at hx192_0 | skip); obtain ⟨hx15_0, hf15_0⟩ := Kd.R_celln 0 HO_3.out ((ji12) : Int) p15 q15; replace p15 := eq_true p15; replace q15 := eq_true q15; obtain ⟨hy43_, hz43_⟩ := Kd.R_celln 0 HO_3.out ((ji12) : Int) (of_decide_eq_true zz7) (of_decide_eq_true zz7); have HP43 := Kd.R_putg HO_3.out ((ji12) : Int) (wrap64 ((rd x3_1 ((qe l0 x12_1).f1)) + 1))) | ((with_reducible refine gate_store (t := 3) (p := 26) rfl ?_); refine store_event (t := 3) (p := 26) (v := ?vo_w44) (w1 := (w40.setCell ⟨go15, ((ji12) : Int).toNat, none⟩ (.int .i64 (wrap64 ((rd x3_1 ((qe l0 x12_1).f1)) + 1))))) ?hg ?ho ?hn ?hr ?_; (case ho => rfl); (case hg => rfl); (case hn => rfl); (case hr => exact zz5); intro w44 hw; have hg : w40.grownBy w44 (some go15) := (by rw [hw]; exact HP43.2); have hp_ : Kd.R (Kd.int .i64) 3 w44 w.heap.size (fun k_ => (w.heap.size ≤ k_)) (.slice (some ⟨go15, 0, none⟩) x3_1.length co42) y193 := (by rw [hw, Ny193.out]; exact HP43.1); clear HP43; have n0_ := qa.mk (Kd.V_afterv (v := (.slice (some ⟨go15, 0, none⟩) x3_1.length co42)) (v1 := (.slice (some ⟨go15, 0, none⟩) x3_1.length co42)) (ok := (fun k_ => (P0_ k_ ∨ w.heap.size ≤ k_) ∧ k_ ≠ gb191)) zz68 hg (.inl rfl)); have n1_ := qa.mk (hp_); have n2_ := qa.mk (Kd.V_afterv (v := (.slice (some ⟨go15, 0, none⟩) x3_1.length co42)) (v1 := (.slice (some ⟨go15, 0, none⟩) x3_1.length co42)) (ok := (fun k_ => (P0_ k_ ∨ w.heap.size ≤ k_) ∧ k_ ≠ gb191)) zz71 hg (.inl rfl)); have n3_ := qa.mk (Kd.V_afterv (v := (.slice (some ⟨go15, 0, none⟩) x3_1.length co42)) (v1 := (.slice (some ⟨go15, 0, none⟩) x3_1.length co42)) (ok := (fun k_ => (P0_ k_ ∨ w.heap.size ≤ k_) ∧ k_ ≠ gb191)) zz72 hg (.inl rfl)); have n4_ := qa.mk (blk_grown (g := gb191) (o := .cells #[.int .i64 ((qe l0 x12_1).f0), .int .i64 ((qe l0 x12_1).f1), .string ((qe l0 x12_1).f2), .string ((qe l0 x12_1).f3), .string ((qe l0 x12_1).f4), .slice A190_5 ((qe l0 x12_1).f5).length c190_5] 46 (0, 0)) zz19 hg (Kd.R_ne HO_3.out BK191.out (by decide))); have n5_ := qa.mk ((by rw [hw]; exact qj (HB.out) GB15.out : Below w.heap.size w w44)); clear HO_0; clear HO_3; clear HO_10; clear HL190_5; clear BK191; clear HB; have HO_0 := n0_; have HO_3 := n1_; have HO_10 := n2_; have HL190_5 := n3_; have BK191 := n4_; have HB := n5_; clear n0_ n1_ n2_ n3_ n4_ n5_; clear hg hw hp_; have p194 : 0 ≤ ((ji12) : Int) := of_decide_eq_true zz7; have q194 : (ji12) < (y193.length : Int) := (by have h_ : ((ji12) : Int) < ((x3_1.length : Int) : Int) := of_decide_eq_true zz7; first | (have e_ := (Kd.R_reads' HO_3.out).1; omega) | simpa only [Ny193.out, List.length_set] using h_); have ql194 : (((ji12) : Int) < ((x3_1.length : Int) : Int)) = True := eq_true (of_decide_eq_true zz7); obtain ⟨ad194, e194, hx194_0⟩ := Kd.at_int (Kd.R_reads' HO_3.out).2.2 (ji12) p194 q194; obtain rfl : (⟨go15, 0, none⟩ : Addr) = ad194 := (by injection e194); (first | simp only [add_plain] at hx194_0 | simp only [add_at] at hx194_0 | simp only [Addr.add, Nat.zero_add] at hx194_0 | skip); replace p194 := eq_true p194; replace q194 := eq_true q194))
              go_roundg k1
              case measure => have := HK1.out; omega
              case rel => exact ⟨(y193), (ji12), (by first | rfl | (simp; done) | (simp only [← hji12] <;> (first | rfl | simp)) | (simp [*]; done)), H', ⟨zz1⟩, ⟨by (with_reducible repeat (first | apply Kd.V_alloc | apply Kd.V_drewN | apply Kd.V_drew)); exact Kd.V_mono HO_0.out (fun _ hk => ⟨hk.1.1, hk.2⟩)⟩, ⟨zz29⟩, ⟨by (with_reducible repeat (first | apply Kd.V_alloc | apply Kd.V_drewN | apply Kd.V_drew)); exact Kd.V_mono HO_10.out (fun _ hk => ⟨hk.1.1, hk.2⟩)⟩, ⟨zz48⟩⟩
           ·rw [if_neg c14] at H
            exact absurd H (by simp)
          ·rw [if_neg c13] at H
           exact absurd H (by simp)
         ·rw [if_neg c11] at H
          exact absurd H (by simp)
        ·rw [if_neg c10] at H
         exact absurd H (by simp)
       ·rw [if_neg c9] at H
        exact absurd H (by simp)
      ·rw [if_neg c8] at H
       exact absurd H (by simp)
     ·rw [if_neg c7] at H
      have c7b0 : decide (x12_1 < (l0.length : Int)) = false := decide_eq_false c7
      clear c7
      obtain rfl := Option.some.inj H
      go_wp2
      go_ret
      exact ⟨_, zz100, by (with_reducible repeat (first | apply Kd.V_alloc | apply Kd.V_drewN | apply Kd.V_drew)); exact Kd.V_mono HO_0.out (fun _ hk => hk.1), zz24⟩
  ·rw [if_neg c4] at H
   exact absurd H (by simp)
 ·rw [if_neg c3] at H
  exact absurd H (by simp)
def api_Attr.f (l0 : List S48) : Option (List S48) := if l0.length < 4398046511104 then some l0 else none
set_option maxHeartbeats 4000000 in
set_option maxRecDepth 100000 in
theorem api_Attr.calls (A0 : Option Addr) (c0 : Nat) (l0 : List S48) (r : List S48) (w : World) (hr0 : Kd.C k48 w A0 l0.length l0) (hc0 : l0.length ≤ c0) (h : api_Attr.f l0 = some r) :
  Calls Tryd.prog 64 #[.slice A0 l0.length c0] w fun e w' => ∃ v0_ : Value, e = .returned (v0_) ∧ Kd.R k48 48 w' w.heap.size (fun _ => True) v0_ r ∧ Below w.heap.size w w' := by
 unfold api_Attr.f at h
 by_cases hl : l0.length < 4398046511104
 ·rw [if_pos hl] at h
  obtain rfl := Option.some.inj h
  clear h
  have HR := qa.mk hr0
  rcases A0 with _ | ad
  ·have h0 : l0 = [] := by
    rcases Nat.eq_zero_or_pos l0.length with h0 | h0
    ·exact List.eq_nil_of_length_eq_zero h0
    ·obtain ⟨_, h, _⟩ := hr0.2.2 h0
     cases h
   subst h0
   clear hr0 hc0 hl HR
   have hnil := Go.Lib.run_eql_slice_nil (P := Tryd.prog) w 44 48 none 0 c0 0 0 Tryd.underlying44
   go_enter Tryd.func64, Tryd.ntmps64
   go_wp2
   go_ret
   exact ⟨_, rfl, Kd.R_nil _ _ _ _ _, Below.refl _ _⟩
  ·clear hr0 hc0
   have hnil := Go.Lib.run_eql_slice_nil (P := Tryd.prog) w 44 48 (some ad) l0.length c0 0 0 Tryd.underlying44
   have hinf : (Tryd.prog.info? 48).map (fun i => (i.zero, i.size, i.bytes)) = some (some (.agg #[.string ⟨#[]⟩, .string ⟨#[]⟩]), Kd.sz k48, 32) := by kernel_rfl
   have HL := qa.mk hl
   have HI := qa.mk hinf
   clear hl hinf
   go_enter Tryd.func64, Tryd.ntmps64
   go_wp2_with (at_builtin; refine Kd.R_append_rows k48 (w0 := w) w.heap.size rfl (.tmp 5) (.tmp 6) 44 48 (.agg #[.string ⟨#[]⟩, .string ⟨#[]⟩]) 32 rfl Tryd.underlying44 HI.out rfl (by decide) (by omega) (.slice (some ⟨w.heap.size, 0, none⟩) 0 0) [] l0 _ _ _ (fun _ => True) (fun _ => False) rfl rfl ?aO ?aR (fun _ _ h => h) (fun _ h => h.elim) (fun _ _ => trivial) ?aB ?aS ?aL ?_; (case aO => exact R_empty _ _ _ _ (Nat.le_refl _)); (case aR => exact Kd.C_below HR.out (qc (Below.refl _ _) _)); (case aB => exact qc (Below.refl _ _) _); (case aS => simp); (case aL => have := HL.out; simp; omega); intro v1 w1 hr hb _ _)
   go_ret
   exact ⟨_, rfl, hr, hb⟩
 ·rw [if_neg hl] at h
  cases h
mutual
def qhb.l0 : Nat → List (S46) → Int → Int → ByteArray → ByteArray → ByteArray → List (S48) → List (S84) → Option (ByteArray × ByteArray × ByteArray × (List (S48)) × (List (S84)) × Int)
 | 0, _, _, _, _, _, _, _, _ => none
 | k + 1, x0, x1, x8, x212000, x212001, x212002, x212003, x212004 => if x8 < (x0.length : Int) then (if 0 ≤ x8 then (if ((qe x0 x8).f1) = (wrap64 (x1 + 1)) then ((qhb.f k x0 x8).bind fun bt214 => (if x212004.length < 1466015503701 then (qhb.l0 k x0 x1 bt214.2.2.2.2.2 x212000 x212001 x212002 x212003 (x212004 ++ [(⟨bt214.1, bt214.2.1, bt214.2.2.1, bt214.2.2.2.1, bt214.2.2.2.2.1⟩ : S84)])) else (none))) else (some (x212000, x212001, x212002, x212003, x212004, x8))) else (none)) else (some (x212000, x212001, x212002, x212003, x212004, x8))
def qhb.f : Nat → List (S46) → Int → Option (ByteArray × ByteArray × ByteArray × (List (S48)) × (List (S84)) × Int)
 | 0, _, _ => none
 | k + 1, l0, a1 => if 0 ≤ a1 then (if a1 < (l0.length : Int) then ((api_Attr.f ((qe l0 a1).f5)).bind fun t208 => (qhb.l0 k l0 a1 (wrap64 (a1 + 1)) ((qe l0 a1).f2) ((qe l0 a1).f3) ((qe l0 a1).f4) t208 ([] : List (S84)))) else (none)) else (none)
end
theorem qhb.mono_l : ∀ k, (∀ y0 y1, LeO (qhb.f k y0 y1) (qhb.f (k + 1) y0 y1)) ∧ (∀ y0 y1 y2 y3 y4 y5 y6 y7, LeO (qhb.l0 k y0 y1 y2 y3 y4 y5 y6 y7) (qhb.l0 (k + 1) y0 y1 y2 y3 y4 y5 y6 y7))
 | 0 => ⟨fun _ _ r h => by simp [qhb.f] at h, fun _ _ _ _ _ _ _ _ r h => by simp [qhb.l0] at h⟩
 | k + 1 => by
  obtain ⟨ih0, ih1⟩ := qhb.mono_l k
  refine ⟨?_, ?_⟩
  ·intro y0 y1
   unfold qhb.f
   repeat' first
   | (with_reducible exact ih0 _ _)
   | (with_reducible exact ih1 _ _ _ _ _ _ _ _)
   | (with_reducible exact LeO.refl _)
   | (with_reducible exact LeO.none _)
   | (with_reducible refine LeO.ite ?_ ?_)
   | (with_reducible refine LeO.bind ?_ (fun _ => ?_))
   | exact ih0 _ _
   | exact ih1 _ _ _ _ _ _ _ _
   | exact LeO.none _
   | refine LeO.ite ?_ ?_
   | refine LeO.bind ?_ (fun _ => ?_)
  ·intro y0 y1 y2 y3 y4 y5 y6 y7
   unfold qhb.l0
   repeat' first
   | (with_reducible exact ih0 _ _)
   | (with_reducible exact ih1 _ _ _ _ _ _ _ _)
   | (with_reducible exact LeO.refl _)
   | (with_reducible exact LeO.none _)
   | (with_reducible refine LeO.ite ?_ ?_)
   | (with_reducible refine LeO.bind ?_ (fun _ => ?_))
   | exact ih0 _ _
   | exact ih1 _ _ _ _ _ _ _ _
   | exact LeO.none _
   | refine LeO.ite ?_ ?_
   | refine LeO.bind ?_ (fun _ => ?_)
theorem qhb.mono : ∀ a0 a1 k, LeO (qhb.f k a0 a1) (qhb.f (k + 1) a0 a1) := by
 intro a0 a1 k
 obtain ⟨ih0, ih1⟩ := qhb.mono_l k
 exact ih0 a0 a1
def qhb.T2 : Bool × List (List Nat × List Nat) := (true, [([], []), ([0], [0]), ([], []), ([2], [2]), ([], []), ([4], [4]), ([], []), ([6], [6]), ([7], [7]), ([1, 3, 5, 8], [1, 3, 5, 8]), ([], []), ([10, 9, 8, 0, 1, 2, 3, 4, 5, 6, 7, 8, 9, 10], [9, 10])])
def qhb.B2 : List Nat := [0, 1, 0, 4, 0, 16, 0, 64, 192, 511, 0, 2047]
theorem qhb.tab2 : rtab .any (opsOf Tryd.f52 2) = qhb.T2 := by kernel_rfl
theorem qhb.bits2 : waitsOk qhb.T2.2 qhb.B2 = true := by kernel_rfl
set_option maxHeartbeats 8000000 in
set_option maxRecDepth 100000 in
theorem qhb.calls (k : Nat) : ∀ (A0 : Option Addr) (c0 : Nat) (l0 : List (S46)) (a1 : Int) (r1 : ByteArray) (r2 : ByteArray) (r3 : ByteArray) (r4 : List (S48)) (r5 : List (S84)) (r6 : Int) (w : World) (hr0 : Kd.C k46 w A0 l0.length l0) (hc0 : l0.length ≤ c0) (h : qhb.f k l0 a1 = some (r1, r2, r3, r4, r5, r6)),
  Calls Tryd.prog 52 #[.slice A0 l0.length c0, .int .i64 a1] w fun e w' => ∃ v3_ v4_ : Value, e = .returned (.tuple #[.agg #[.string r1, .string r2, .string r3, v3_, v4_], .int .i64 r6]) ∧ Kd.R k48 48 w' w.heap.size (fun _ => True) v3_ r4 ∧ Kd.R k84 84 w' w.heap.size (fun k_ => some k_ ≠ (v3_ : Value).ownBlock) v4_ r5 ∧ Below w.heap.size w w' := by
 induction k using Nat.strongRecOn with
 | _ k ih =>
 intro A0 c0 l0 a1 r1 r2 r3 r4 r5 r6 w hr0 hc0 h
 cases k with
 | zero => exact absurd h (by simp [qhb.f])
 | succ k =>
 simp only [qhb.f] at h
 have hu84 := Tryd.underlying84
 have hu46 := Tryd.underlying46
 have HR0 := qa.mk hr0
 have HC0 := qa.mk hc0
 clear hr0 hc0
 have HB := qa.mk (Below.refl w.heap.size w)
 have H : (if 0 ≤ a1 then (if a1 < (l0.length : Int) then ((api_Attr.f ((qe l0 a1).f5)).bind fun t208 => (qhb.l0 k l0 a1 (wrap64 (a1 + 1)) ((qe l0 a1).f2) ((qe l0 a1).f3) ((qe l0 a1).f4) t208 ([] : List (S84)))) else (none)) else (none)) = some (r1, r2, r3, r4, r5, r6) := h
 clear h
 by_cases c3 : 0 ≤ a1
 ·rw [if_pos c3] at H
  have c3b0 : decide (0 ≤ a1) = true := decide_eq_true c3
  clear c3
  by_cases c4 : a1 < (l0.length : Int)
  ·rw [if_pos c4] at H
   have c4b0 : decide (a1 < (l0.length : Int)) = true := decide_eq_true c4
   clear c4
   replace H := Option.bind_eq_some_iff.mp H
   obtain ⟨t208, A50, H⟩ := H
   replace H : (qhb.l0 k l0 a1 (wrap64 (a1 + 1)) ((qe l0 a1).f2) ((qe l0 a1).f3) ((qe l0 a1).f4) t208 ([] : List (S84))) = some (r1, r2, r3, r4, r5, r6) := H
   have A5 := qa.mk A50
   clear A50
   have H' := qa.mk H
   clear H
   go_enter Tryd.func52, Tryd.ntmps52
   try go_wp2_with (first | ((with_reducible refine qeb (N := 4) rfl ?_); refine qib ?hg (N := 4) ?hd (cs := #[.string (⟨#[]⟩ : ByteArray), .string (⟨#[]⟩ : ByteArray), .string (⟨#[]⟩ : ByteArray), .slice none 0 0, .slice none 0 0]) (t := 84) ?hr ?_; (case hd => rfl); (case hg => rfl); (case hr => exact zz5); intro gb205 hg w6 hbox hb; have n0_ := qa.mk (qm zz24 hb); have n1_ := qa.mk (hbox); have n2_ := qa.mk ((by rw [hg]; exact (ql zz24) : w.heap.size ≤ gb205)); have n3_ := qa.mk ((by rw [hg]; exact (ql zz24) : w.heap.size ≤ gb205)); clear HB; have HB := n0_; have BK205 := n1_; have GW205 := n2_; have GE205 := n3_; clear n0_ n1_ n2_ n3_; clear hb hbox hg; have p206 : 0 ≤ (a1 : Int) := of_decide_eq_true zz7; have q206 : a1 < (l0.length : Int) := of_decide_eq_true zz7; obtain ⟨ad206, A206_5, c206_5, e206, hx206_0, hx206_1, hx206_2, hx206_3, hx206_4, hx206_5, hl206_5, hi206_5⟩ := at_T46 HR0.out a1 p206 q206; cases e206; replace hx206_0 := (HB.out.cell (qic w _ hx206_0)).trans hx206_0; replace hx206_1 := (HB.out.cell (qic w _ hx206_1)).trans hx206_1; replace hx206_2 := (HB.out.cell (qic w _ hx206_2)).trans hx206_2; replace hx206_3 := (HB.out.cell (qic w _ hx206_3)).trans hx206_3; replace hx206_4 := (HB.out.cell (qic w _ hx206_4)).trans hx206_4; replace hx206_5 := (HB.out.cell (qic w _ hx206_5)).trans hx206_5; have HR206_5 := qa.mk hi206_5; have HC206_5 := qa.mk hl206_5; clear hi206_5 hl206_5; replace p206 := eq_true p206; replace q206 := eq_true q206) | ((with_reducible refine qeb (N := 6) rfl ?_); refine qib ?hg (N := 6) ?hd (cs := #[.int .i64 0, .int .i64 0, .string (⟨#[]⟩ : ByteArray), .string (⟨#[]⟩ : ByteArray), .string (⟨#[]⟩ : ByteArray), .slice none 0 0]) (t := 46) ?hr ?_; (case hd => rfl); (case hg => rfl); (case hr => exact zz5); intro gb207 hg w7 hbox hb; have n0_ := qa.mk (qjb (g := gb205) (o := .cells #[.string (⟨#[]⟩ : ByteArray), .string (⟨#[]⟩ : ByteArray), .string (⟨#[]⟩ : ByteArray), .slice none 0 0, .slice none 0 0] 84 (0, 0)) zz20 hb); have n1_ := qa.mk (qm zz49 hb); have n2_ := qa.mk (hbox); have n3_ := qa.mk ((by rw [hg]; exact (ql zz49) : w.heap.size ≤ gb207)); have n4_ := qa.mk ((by rw [hg]; exact (ql zz49) : w.heap.size ≤ gb207)); have n5_ := qa.mk ((by rw [hg]; exact qkc (blk_lt (g := gb205) (o := .cells #[.string (⟨#[]⟩ : ByteArray), .string (⟨#[]⟩ : ByteArray), .string (⟨#[]⟩ : ByteArray), .slice none 0 0, .slice none 0 0] 84 (0, 0)) zz20) : gb205 ≠ gb207)); have n6_ := qa.mk ((by rw [hg]; exact Nat.ne_of_gt (blk_lt (g := gb205) (o := .cells #[.string (⟨#[]⟩ : ByteArray), .string (⟨#[]⟩ : ByteArray), .string (⟨#[]⟩ : ByteArray), .slice none 0 0, .slice none 0 0] 84 (0, 0)) zz20) : gb207 ≠ gb205)); clear BK205; clear HB; have BK205 := n0_; have HB := n1_; have BK207 := n2_; have GW207 := n3_; have GE207 := n4_; have NB205_207 := n5_; have NB207_205 := n6_; clear n0_ n1_ n2_ n3_ n4_ n5_ n6_; clear hb hbox hg; have hnb8 := NB207_205.out; have hnc8 := NB205_207.out; have hcz9_0 : w7.cell? ⟨gb207, 0, none⟩ = some (.int .i64 0) := (qg BK207.out 0).trans rfl; have hcz9_1 : w7.cell? ⟨gb207, 1, none⟩ = some (.int .i64 0) := (qg BK207.out 1).trans rfl; have hcz9_2 : w7.cell? ⟨gb207, 2, none⟩ = some (.string (⟨#[]⟩ : ByteArray)) := (qg BK207.out 2).trans rfl; have hcz9_3 : w7.cell? ⟨gb207, 3, none⟩ = some (.string (⟨#[]⟩ : ByteArray)) := (qg BK207.out 3).trans rfl; have hcz9_4 : w7.cell? ⟨gb207, 4, none⟩ = some (.string (⟨#[]⟩ : ByteArray)) := (qg BK207.out 4).trans rfl; have hcz9_5 : w7.cell? ⟨gb207, 5, none⟩ = some (.slice none 0 0) := (qg BK207.out 5).trans rfl; have hfz9_0 := qf BK207.out 0; have hfz9_1 := qf BK207.out 1; have hfz9_2 := qf BK207.out 2; have hfz9_3 := qf BK207.out 3; have hfz9_4 := qf BK207.out 4; have hfz9_5 := qf BK207.out 5))
   have n0_ : qa (((((((w7.setCell ⟨gb207, 0, none⟩ (.int .i64 ((qe l0 a1).f0))).setCell ⟨gb207, 1, none⟩ (.int .i64 ((qe l0 a1).f1))).setCell ⟨gb207, 2, none⟩ (.string ((qe l0 a1).f2))).setCell ⟨gb207, 3, none⟩ (.string ((qe l0 a1).f3))).setCell ⟨gb207, 4, none⟩ (.string ((qe l0 a1).f4))).setCell ⟨gb207, 5, none⟩ (.slice A206_5 ((qe l0 a1).f5).length c206_5)).heap[gb205]? = some (.cells #[.string (⟨#[]⟩ : ByteArray), .string (⟨#[]⟩ : ByteArray), .string (⟨#[]⟩ : ByteArray), .slice none 0 0, .slice none 0 0] 84 (0, 0))) := ⟨by (with_reducible repeat (first | refine qi ?_ _ | refine qk ?_ | refine qh ?_ _)); refine qkb ?_ NB205_207.out _; (with_reducible repeat (first | refine qi ?_ _ | refine qk ?_ | refine qh ?_ _)); refine qkb ?_ NB205_207.out _; (with_reducible repeat (first | refine qi ?_ _ | refine qk ?_ | refine qh ?_ _)); refine qkb ?_ NB205_207.out _; (with_reducible repeat (first | refine qi ?_ _ | refine qk ?_ | refine qh ?_ _)); refine qkb ?_ NB205_207.out _; (with_reducible repeat (first | refine qi ?_ _ | refine qk ?_ | refine qh ?_ _)); refine qkb ?_ NB205_207.out _; (with_reducible repeat (first | refine qi ?_ _ | refine qk ?_ | refine qh ?_ _)); refine qkb ?_ NB205_207.out _; (with_reducible repeat (first | refine qi ?_ _ | refine qk ?_ | refine qh ?_ _)); exact BK205.out⟩
   have n1_ : qa (((((((w7.setCell ⟨gb207, 0, none⟩ (.int .i64 ((qe l0 a1).f0))).setCell ⟨gb207, 1, none⟩ (.int .i64 ((qe l0 a1).f1))).setCell ⟨gb207, 2, none⟩ (.string ((qe l0 a1).f2))).setCell ⟨gb207, 3, none⟩ (.string ((qe l0 a1).f3))).setCell ⟨gb207, 4, none⟩ (.string ((qe l0 a1).f4))).setCell ⟨gb207, 5, none⟩ (.slice A206_5 ((qe l0 a1).f5).length c206_5)).heap[gb207]? = some (.cells #[.int .i64 ((qe l0 a1).f0), .int .i64 ((qe l0 a1).f1), .string ((qe l0 a1).f2), .string ((qe l0 a1).f3), .string ((qe l0 a1).f4), .slice A206_5 ((qe l0 a1).f5).length c206_5] 46 (0, 0))) := ⟨by (with_reducible repeat (first | refine qi ?_ _ | refine qk ?_ | refine qh ?_ _)); refine qq (cs := #[.int .i64 ((qe l0 a1).f0), .int .i64 ((qe l0 a1).f1), .string ((qe l0 a1).f2), .string ((qe l0 a1).f3), .string ((qe l0 a1).f4), .slice none 0 0]) ?_ 5 _ rfl; (with_reducible repeat (first | refine qi ?_ _ | refine qk ?_ | refine qh ?_ _)); refine qq (cs := #[.int .i64 ((qe l0 a1).f0), .int .i64 ((qe l0 a1).f1), .string ((qe l0 a1).f2), .string ((qe l0 a1).f3), .string (⟨#[]⟩ : ByteArray), .slice none 0 0]) ?_ 4 _ rfl; (with_reducible repeat (first | refine qi ?_ _ | refine qk ?_ | refine qh ?_ _)); refine qq (cs := #[.int .i64 ((qe l0 a1).f0), .int .i64 ((qe l0 a1).f1), .string ((qe l0 a1).f2), .string (⟨#[]⟩ : ByteArray), .string (⟨#[]⟩ : ByteArray), .slice none 0 0]) ?_ 3 _ rfl; (with_reducible repeat (first | refine qi ?_ _ | refine qk ?_ | refine qh ?_ _)); refine qq (cs := #[.int .i64 ((qe l0 a1).f0), .int .i64 ((qe l0 a1).f1), .string (⟨#[]⟩ : ByteArray), .string (⟨#[]⟩ : ByteArray), .string (⟨#[]⟩ : ByteArray), .slice none 0 0]) ?_ 2 _ rfl; (with_reducible repeat (first | refine qi ?_ _ | refine qk ?_ | refine qh ?_ _)); refine qq (cs := #[.int .i64 ((qe l0 a1).f0), .int .i64 0, .string (⟨#[]⟩ : ByteArray), .string (⟨#[]⟩ : ByteArray), .string (⟨#[]⟩ : ByteArray), .slice none 0 0]) ?_ 1 _ rfl; (with_reducible repeat (first | refine qi ?_ _ | refine qk ?_ | refine qh ?_ _)); refine qq (cs := #[.int .i64 0, .int .i64 0, .string (⟨#[]⟩ : ByteArray), .string (⟨#[]⟩ : ByteArray), .string (⟨#[]⟩ : ByteArray), .slice none 0 0]) ?_ 0 _ rfl; (with_reducible repeat (first | refine qi ?_ _ | refine qk ?_ | refine qh ?_ _)); exact BK207.out⟩
   have n2_ : qa (Below w.heap.size w ((((((w7.setCell ⟨gb207, 0, none⟩ (.int .i64 ((qe l0 a1).f0))).setCell ⟨gb207, 1, none⟩ (.int .i64 ((qe l0 a1).f1))).setCell ⟨gb207, 2, none⟩ (.string ((qe l0 a1).f2))).setCell ⟨gb207, 3, none⟩ (.string ((qe l0 a1).f3))).setCell ⟨gb207, 4, none⟩ (.string ((qe l0 a1).f4))).setCell ⟨gb207, 5, none⟩ (.slice A206_5 ((qe l0 a1).f5).length c206_5))) := ⟨zz69⟩
   (try clear BK205)
   (try clear BK207)
   (try clear HB)
   generalize ((((((w7.setCell ⟨gb207, 0, none⟩ (.int .i64 ((qe l0 a1).f0))).setCell ⟨gb207, 1, none⟩ (.int .i64 ((qe l0 a1).f1))).setCell ⟨gb207, 2, none⟩ (.string ((qe l0 a1).f2))).setCell ⟨gb207, 3, none⟩ (.string ((qe l0 a1).f3))).setCell ⟨gb207, 4, none⟩ (.string ((qe l0 a1).f4))).setCell ⟨gb207, 5, none⟩ (.slice A206_5 ((qe l0 a1).f5).length c206_5)) = w10 at n0_ n1_ n2_ ⊢
   have BK205 := n0_
   have BK207 := n1_
   have HB := n2_
   clear n0_ n1_ n2_
   have n0_ := qa.mk (qk BK205.out)
   have n1_ := qa.mk (qk BK207.out)
   have n2_ := qa.mk (qd HB.out)
   clear BK205
   clear BK207
   clear HB
   have BK205 := n0_
   have BK207 := n1_
   have HB := n2_
   clear n0_ n1_ n2_
   refine start_ (n := 12) (S := fun w' => w'.cell? ⟨gb207, 0, none⟩ = some (.int .i64 ((qe l0 a1).f0)) ∧ w'.cell? ⟨gb207, 1, none⟩ = some (.int .i64 ((qe l0 a1).f1)) ∧ w'.cell? ⟨gb207, 2, none⟩ = some (.string ((qe l0 a1).f2)) ∧ w'.cell? ⟨gb207, 3, none⟩ = some (.string ((qe l0 a1).f3)) ∧ w'.cell? ⟨gb207, 4, none⟩ = some (.string ((qe l0 a1).f4)) ∧ w'.cell? ⟨gb207, 5, none⟩ = some (.slice A206_5 ((qe l0 a1).f5).length c206_5)) (ds := []) #[false, false, false, false, false, false, false, false, false, false, false, false] (by kernel_rfl) rfl rfl ⟨(qg BK207.out 0).trans rfl, (qg BK207.out 1).trans rfl, (qg BK207.out 2).trans rfl, (qg BK207.out 3).trans rfl, (qg BK207.out 4).trans rfl, (qg BK207.out 5).trans rfl⟩ (fun hHeld => ?_); refine with_tabW qhb.tab2 qhb.bits2 (fun HT_ HW_ => ?_)
   generalize w10.drew = w11 at BK205 BK207 HB hHeld ⊢
   refine pure_ (i := 0) (N := some 14) (v := ?_) (a' := ?_) #[true, false, false, false, false, false, false, false, false, false, false, false] rfl rfl (any_of HT_.out (by kernel_rfl)) (fun _ _ _ h => h) (Or.inl ⟨by rfl, ?_⟩) ?_ ?_
   rotate_left
   ·intro w'
    go_simp
    with_reducible rfl
   rotate_left
   ·simp only [Act.put, List.setIfInBounds_toArray, List.set_cons_zero, List.set_cons_succ, i64_w, i32_w]
    rfl
   refine pure_ (i := 2) (N := some 16) (v := ?_) (a' := ?_) #[true, false, true, false, false, false, false, false, false, false, false, false] rfl rfl (any_of HT_.out (by kernel_rfl)) (fun _ _ _ h => h) (Or.inl ⟨by rfl, ?_⟩) ?_ ?_
   rotate_left
   ·intro w'
    go_simp
    with_reducible rfl
   rotate_left
   ·simp only [Act.put, List.setIfInBounds_toArray, List.set_cons_zero, List.set_cons_succ, i64_w, i32_w]
    rfl
   refine pure_ (i := 4) (N := some 18) (v := ?_) (a' := ?_) #[true, false, true, false, true, false, false, false, false, false, false, false] rfl rfl (any_of HT_.out (by kernel_rfl)) (fun _ _ _ h => h) (Or.inl ⟨by rfl, ?_⟩) ?_ ?_
   rotate_left
   ·intro w'
    go_simp
    with_reducible rfl
   rotate_left
   ·simp only [Act.put, List.setIfInBounds_toArray, List.set_cons_zero, List.set_cons_succ, i64_w, i32_w]
    rfl
   refine pure_ (i := 6) (N := some 20) (v := ?_) (a' := ?_) #[true, false, true, false, true, false, true, false, false, false, false, false] rfl rfl (any_of HT_.out (by kernel_rfl)) (fun _ _ _ h => h) (Or.inl ⟨by rfl, ?_⟩) ?_ ?_
   rotate_left
   ·intro w'
    go_simp
    with_reducible rfl
   rotate_left
   ·simp only [Act.put, List.setIfInBounds_toArray, List.set_cons_zero, List.set_cons_succ, i64_w, i32_w]
    rfl
   refine take_ (i := 1) (N := some 15) (v := ?_) (a' := ?_) #[true, true, true, false, true, false, true, false, false, false, false, false] rfl rfl (take_ofW HT_.out HW_.out (by kernel_rfl)) (fun _ _ _ h => h) (Or.inl ⟨by rfl, ?_⟩) hHeld ?_ ?_
   rotate_left
   ·rintro w' ⟨s0, s1, s2, s3, s4, s5⟩
    go_simp
    with_reducible rfl
   rotate_left
   ·simp only [Act.put, List.setIfInBounds_toArray, List.set_cons_zero, List.set_cons_succ, i64_w, i32_w]
    rfl
   refine take_ (i := 3) (N := some 17) (v := ?_) (a' := ?_) #[true, true, true, true, true, false, true, false, false, false, false, false] rfl rfl (take_ofW HT_.out HW_.out (by kernel_rfl)) (fun _ _ _ h => h) (Or.inl ⟨by rfl, ?_⟩) hHeld ?_ ?_
   rotate_left
   ·rintro w' ⟨s0, s1, s2, s3, s4, s5⟩
    go_simp
    with_reducible rfl
   rotate_left
   ·simp only [Act.put, List.setIfInBounds_toArray, List.set_cons_zero, List.set_cons_succ, i64_w, i32_w]
    rfl
   refine take_ (i := 5) (N := some 19) (v := ?_) (a' := ?_) #[true, true, true, true, true, true, true, false, false, false, false, false] rfl rfl (take_ofW HT_.out HW_.out (by kernel_rfl)) (fun _ _ _ h => h) (Or.inl ⟨by rfl, ?_⟩) hHeld ?_ ?_
   rotate_left
   ·rintro w' ⟨s0, s1, s2, s3, s4, s5⟩
    go_simp
    with_reducible rfl
   rotate_left
   ·simp only [Act.put, List.setIfInBounds_toArray, List.set_cons_zero, List.set_cons_succ, i64_w, i32_w]
    rfl
   refine take_ (i := 7) (N := some 21) (v := ?_) (a' := ?_) #[true, true, true, true, true, true, true, true, false, false, false, false] rfl rfl (take_ofW HT_.out HW_.out (by kernel_rfl)) (fun _ _ _ h => h) (Or.inl ⟨by rfl, ?_⟩) hHeld ?_ ?_
   rotate_left
   ·rintro w' ⟨s0, s1, s2, s3, s4, s5⟩
    go_simp
    with_reducible rfl
   rotate_left
   ·simp only [Act.put, List.setIfInBounds_toArray, List.set_cons_zero, List.set_cons_succ, i64_w, i32_w]
    rfl
   refine join_ (σ := Value × Nat) 1 #[true, true, true, true, true, true, true, true, true, true, true, false] (fun s_ => [(22, s_.1), (7, .pointer (some ⟨s_.2, 0, none⟩)), (23, .agg #[.string ((qe l0 a1).f2), .string ((qe l0 a1).f3), .string ((qe l0 a1).f4), s_.1, .slice none 0 0])]) (fun s_ w' => (w'.cell? ⟨gb207, 0, none⟩ = some (.int .i64 ((qe l0 a1).f0)) ∧ w'.cell? ⟨gb207, 1, none⟩ = some (.int .i64 ((qe l0 a1).f1)) ∧ w'.cell? ⟨gb207, 2, none⟩ = some (.string ((qe l0 a1).f2)) ∧ w'.cell? ⟨gb207, 3, none⟩ = some (.string ((qe l0 a1).f3)) ∧ w'.cell? ⟨gb207, 4, none⟩ = some (.string ((qe l0 a1).f4)) ∧ w'.cell? ⟨gb207, 5, none⟩ = some (.slice A206_5 ((qe l0 a1).f5).length c206_5)) ∧ (Kd.R k48 48 w' w.heap.size (fun _ => True) s_.1 t208) ∧ (w'.heap[gb205]? = some (.cells #[.string (⟨#[]⟩ : ByteArray), .string (⟨#[]⟩ : ByteArray), .string (⟨#[]⟩ : ByteArray), .slice none 0 0, .slice none 0 0] 84 (0, 0))) ∧ (w'.heap[gb207]? = some (.cells #[.int .i64 ((qe l0 a1).f0), .int .i64 ((qe l0 a1).f1), .string ((qe l0 a1).f2), .string ((qe l0 a1).f3), .string ((qe l0 a1).f4), .slice A206_5 ((qe l0 a1).f5).length c206_5] 46 (0, 0))) ∧ (w'.heap[s_.2]? = some (.cells #[.string (⟨#[]⟩ : ByteArray), .string (⟨#[]⟩ : ByteArray), .string (⟨#[]⟩ : ByteArray), .slice none 0 0, .slice none 0 0] 84 (0, 0))) ∧ (w.heap.size ≤ s_.2) ∧ (w.heap.size ≤ s_.2) ∧ (gb205 ≠ s_.2) ∧ (s_.2 ≠ gb205) ∧ (gb207 ≠ s_.2) ∧ (s_.2 ≠ gb207) ∧ (Below w.heap.size w w')) ?_ ?_
   rotate_left
   ·intro hCont
    refine two_ (i := 8) (j := 10) (Ni := some 22) (Nj := some 7) #[true, true, true, true, true, true, true, true, true, false, false, false] #[true, true, true, true, true, true, true, true, false, false, true, false] rfl rfl rfl rfl (two_of HT_.out (by kernel_rfl)) (by decide) (by decide) (fun K hK => ?_) (fun K hK => ?_)
    ·skip
     refine goes_ Tryd.func64 (by kernel_rfl) rfl #[.slice A206_5 ((qe l0 a1).f5).length c206_5] (by rfl) rfl rfl zz56 ?_
     with_reducible refine (api_Attr.calls _ _ ((qe l0 a1).f5) t208 _ ?side1 ?side2 A5.out).mono ?_
     (case side1 => exact zz93)
     (case side2 => exact HC206_5.out)
     rintro e w12 ⟨v209, rfl, ho0, hb⟩
     refine ⟨_, rfl, ?_⟩
     have n0_ := qa.mk (Kd.R_lower ho0 (ql zz69))
     have n1_ := qa.mk (qjb (g := gb205) (o := .cells #[.string (⟨#[]⟩ : ByteArray), .string (⟨#[]⟩ : ByteArray), .string (⟨#[]⟩ : ByteArray), .slice none 0 0, .slice none 0 0] 84 (0, 0)) zz20 hb)
     have n2_ := qa.mk (qjb (g := gb207) (o := .cells #[.int .i64 ((qe l0 a1).f0), .int .i64 ((qe l0 a1).f1), .string ((qe l0 a1).f2), .string ((qe l0 a1).f3), .string ((qe l0 a1).f4), .slice A206_5 ((qe l0 a1).f5).length c206_5] 46 (0, 0)) zz21 hb)
     have n3_ := qa.mk (qm zz69 hb)
     clear BK205
     clear BK207
     clear HB
     have HO210 := n0_
     have BK205 := n1_
     have BK207 := n2_
     have HB := n3_
     clear n0_ n1_ n2_ n3_
     (try clear hb)
     (try clear hb2)
     (try clear hk)
     (try clear hi)
     (try clear ho0)
     obtain ⟨Ao13, co13, eo13⟩ := Kd.R_slice HO210.out
     (first | subst eo13 | (injection eo13 with f1_ f2_ f3_; have f4_ := f1_.symm; have f5_ := f3_.symm; clear f1_ f2_ f3_; subst f4_; subst f5_))
     refine hK.out _ _ ⟨(qg BK207.out 0).trans rfl, (qg BK207.out 1).trans rfl, (qg BK207.out 2).trans rfl, (qg BK207.out 3).trans rfl, (qg BK207.out 4).trans rfl, (qg BK207.out 5).trans rfl⟩ (fun hHeld => ?_)
     clear hK K
     refine norm_ (a' := ?_) ?_ ?_
     rotate_left
     ·show Act.put _ (some 22) _ = _
      simp only [Act.put, List.setIfInBounds_toArray, List.set_cons_zero, List.set_cons_succ, i64_w, i32_w]
      rfl
     refine pure_ (i := 9) (N := some 23) (v := ?_) (a' := ?_) #[true, true, true, true, true, true, true, true, true, true, false, false] rfl rfl (any_of HT_.out (by kernel_rfl)) (fun _ _ _ h => h) (Or.inl ⟨by rfl, ?_⟩) ?_ ?_
     rotate_left
     ·intro w'
      go_simp
      with_reducible rfl
     rotate_left
     ·simp only [Act.put, List.setIfInBounds_toArray, List.set_cons_zero, List.set_cons_succ, i64_w, i32_w]
      rfl
     refine one_ (i := 10) (N := some 7) #[true, true, true, true, true, true, true, true, true, true, true, false] rfl rfl (one_of HT_.out (by kernel_rfl)) (by decide) (fun K hK => ?_)
     refine box_step ?hg (N := 7) ?hd (cs := #[.string (⟨#[]⟩ : ByteArray), .string (⟨#[]⟩ : ByteArray), .string (⟨#[]⟩ : ByteArray), .slice none 0 0, .slice none 0 0]) (t := 84) ?hr ?_; (case hd => rfl); (case hg => rfl); (case hr => exact zz5)
     intro gb211 hg w14 hbox hb
     have n0_ := qa.mk (Kd.R_below zz35 hb)
     have n1_ := qa.mk (qjb (g := gb205) (o := .cells #[.string (⟨#[]⟩ : ByteArray), .string (⟨#[]⟩ : ByteArray), .string (⟨#[]⟩ : ByteArray), .slice none 0 0, .slice none 0 0] 84 (0, 0)) zz20 hb)
     have n2_ := qa.mk (qjb (g := gb207) (o := .cells #[.int .i64 ((qe l0 a1).f0), .int .i64 ((qe l0 a1).f1), .string ((qe l0 a1).f2), .string ((qe l0 a1).f3), .string ((qe l0 a1).f4), .slice A206_5 ((qe l0 a1).f5).length c206_5] 46 (0, 0)) zz21 hb)
     have n3_ := qa.mk (qm zz69 hb)
     have n4_ := qa.mk (hbox)
     have n5_ := qa.mk ((by rw [hg]; exact (ql zz69) : w.heap.size ≤ gb211))
     have n6_ := qa.mk ((by rw [hg]; exact (ql zz69) : w.heap.size ≤ gb211))
     have n7_ := qa.mk ((by rw [hg]; exact qkc (blk_lt (g := gb205) (o := .cells #[.string (⟨#[]⟩ : ByteArray), .string (⟨#[]⟩ : ByteArray), .string (⟨#[]⟩ : ByteArray), .slice none 0 0, .slice none 0 0] 84 (0, 0)) zz20) : gb205 ≠ gb211))
     have n8_ := qa.mk ((by rw [hg]; exact Nat.ne_of_gt (blk_lt (g := gb205) (o := .cells #[.string (⟨#[]⟩ : ByteArray), .string (⟨#[]⟩ : ByteArray), .string (⟨#[]⟩ : ByteArray), .slice none 0 0, .slice none 0 0] 84 (0, 0)) zz20) : gb211 ≠ gb205))
     have n9_ := qa.mk ((by rw [hg]; exact qkc (blk_lt (g := gb207) (o := .cells #[.int .i64 ((qe l0 a1).f0), .int .i64 ((qe l0 a1).f1), .string ((qe l0 a1).f2), .string ((qe l0 a1).f3), .string ((qe l0 a1).f4), .slice A206_5 ((qe l0 a1).f5).length c206_5] 46 (0, 0)) zz21) : gb207 ≠ gb211))
     have n10_ := qa.mk ((by rw [hg]; exact Nat.ne_of_gt (blk_lt (g := gb207) (o := .cells #[.int .i64 ((qe l0 a1).f0), .int .i64 ((qe l0 a1).f1), .string ((qe l0 a1).f2), .string ((qe l0 a1).f3), .string ((qe l0 a1).f4), .slice A206_5 ((qe l0 a1).f5).length c206_5] 46 (0, 0)) zz21) : gb211 ≠ gb207))
     clear HO210
     clear BK205
     clear BK207
     clear HB
     have HO210 := n0_
     have BK205 := n1_
     have BK207 := n2_
     have HB := n3_
     have BK211 := n4_
     have GW211 := n5_
     have GE211 := n6_
     have NB205_211 := n7_
     have NB211_205 := n8_
     have NB207_211 := n9_
     have NB211_207 := n10_
     clear n0_ n1_ n2_ n3_ n4_ n5_ n6_ n7_ n8_ n9_ n10_
     clear hb hbox hg
     refine hK.out _ _ ⟨(qg BK207.out 0).trans rfl, (qg BK207.out 1).trans rfl, (qg BK207.out 2).trans rfl, (qg BK207.out 3).trans rfl, (qg BK207.out 4).trans rfl, (qg BK207.out 5).trans rfl⟩ (fun hHeld => ?_)
     clear hK K
     refine norm_ (a' := ?_) ?_ ?_
     rotate_left
     ·show Act.put _ (some 7) _ = _
      simp only [Act.put, List.setIfInBounds_toArray, List.set_cons_zero, List.set_cons_succ, i64_w, i32_w]
      rfl
     exact norm_ (by simp only [putAll, Act.put, List.setIfInBounds_toArray, List.set_cons_zero, List.set_cons_succ]) (hCont (.slice Ao13 t208.length co13, gb211) _ ⟨hHeld, zz35, zz20, zz21, zz22, GW211.out, GE211.out, NB205_211.out, NB211_205.out, NB207_211.out, NB211_207.out, zz92⟩)
    ·skip
     refine box_step ?hg (N := 7) ?hd (cs := #[.string (⟨#[]⟩ : ByteArray), .string (⟨#[]⟩ : ByteArray), .string (⟨#[]⟩ : ByteArray), .slice none 0 0, .slice none 0 0]) (t := 84) ?hr ?_; (case hd => rfl); (case hg => rfl); (case hr => exact zz5)
     intro gb211 hg w12 hbox hb
     have n0_ := qa.mk (qjb (g := gb205) (o := .cells #[.string (⟨#[]⟩ : ByteArray), .string (⟨#[]⟩ : ByteArray), .string (⟨#[]⟩ : ByteArray), .slice none 0 0, .slice none 0 0] 84 (0, 0)) zz20 hb)
     have n1_ := qa.mk (qjb (g := gb207) (o := .cells #[.int .i64 ((qe l0 a1).f0), .int .i64 ((qe l0 a1).f1), .string ((qe l0 a1).f2), .string ((qe l0 a1).f3), .string ((qe l0 a1).f4), .slice A206_5 ((qe l0 a1).f5).length c206_5] 46 (0, 0)) zz21 hb)
     have n2_ := qa.mk (qm zz69 hb)
     have n3_ := qa.mk (hbox)
     have n4_ := qa.mk ((by rw [hg]; exact (ql zz69) : w.heap.size ≤ gb211))
     have n5_ := qa.mk ((by rw [hg]; exact (ql zz69) : w.heap.size ≤ gb211))
     have n6_ := qa.mk ((by rw [hg]; exact qkc (blk_lt (g := gb205) (o := .cells #[.string (⟨#[]⟩ : ByteArray), .string (⟨#[]⟩ : ByteArray), .string (⟨#[]⟩ : ByteArray), .slice none 0 0, .slice none 0 0] 84 (0, 0)) zz20) : gb205 ≠ gb211))
     have n7_ := qa.mk ((by rw [hg]; exact Nat.ne_of_gt (blk_lt (g := gb205) (o := .cells #[.string (⟨#[]⟩ : ByteArray), .string (⟨#[]⟩ : ByteArray), .string (⟨#[]⟩ : ByteArray), .slice none 0 0, .slice none 0 0] 84 (0, 0)) zz20) : gb211 ≠ gb205))
     have n8_ := qa.mk ((by rw [hg]; exact qkc (blk_lt (g := gb207) (o := .cells #[.int .i64 ((qe l0 a1).f0), .int .i64 ((qe l0 a1).f1), .string ((qe l0 a1).f2), .string ((qe l0 a1).f3), .string ((qe l0 a1).f4), .slice A206_5 ((qe l0 a1).f5).length c206_5] 46 (0, 0)) zz21) : gb207 ≠ gb211))
     have n9_ := qa.mk ((by rw [hg]; exact Nat.ne_of_gt (blk_lt (g := gb207) (o := .cells #[.int .i64 ((qe l0 a1).f0), .int .i64 ((qe l0 a1).f1), .string ((qe l0 a1).f2), .string ((qe l0 a1).f3), .string ((qe l0 a1).f4), .slice A206_5 ((qe l0 a1).f5).length c206_5] 46 (0, 0)) zz21) : gb211 ≠ gb207))
     clear BK205
     clear BK207
     clear HB
     have BK205 := n0_
     have BK207 := n1_
     have HB := n2_
     have BK211 := n3_
     have GW211 := n4_
     have GE211 := n5_
     have NB205_211 := n6_
     have NB211_205 := n7_
     have NB207_211 := n8_
     have NB211_207 := n9_
     clear n0_ n1_ n2_ n3_ n4_ n5_ n6_ n7_ n8_ n9_
     clear hb hbox hg
     refine hK.out _ _ ⟨(qg BK207.out 0).trans rfl, (qg BK207.out 1).trans rfl, (qg BK207.out 2).trans rfl, (qg BK207.out 3).trans rfl, (qg BK207.out 4).trans rfl, (qg BK207.out 5).trans rfl⟩ (fun hHeld => ?_)
     clear hK K
     refine norm_ (a' := ?_) ?_ ?_
     rotate_left
     ·show Act.put _ (some 7) _ = _
      simp only [Act.put, List.setIfInBounds_toArray, List.set_cons_zero, List.set_cons_succ, i64_w, i32_w]
      rfl
     refine one_ (i := 8) (N := some 22) #[true, true, true, true, true, true, true, true, true, false, true, false] rfl rfl (one_of HT_.out (by kernel_rfl)) (by decide) (fun K hK => ?_)
     refine goes_ Tryd.func64 (by kernel_rfl) rfl #[.slice A206_5 ((qe l0 a1).f5).length c206_5] (by rfl) rfl rfl zz56 ?_
     with_reducible refine (api_Attr.calls _ _ ((qe l0 a1).f5) t208 _ ?side1 ?side2 A5.out).mono ?_
     (case side1 => exact zz93)
     (case side2 => exact HC206_5.out)
     rintro e w13 ⟨v209, rfl, ho0, hb⟩
     refine ⟨_, rfl, ?_⟩
     have n0_ := qa.mk (Kd.R_lower ho0 (ql zz92))
     have n1_ := qa.mk (qjb (g := gb205) (o := .cells #[.string (⟨#[]⟩ : ByteArray), .string (⟨#[]⟩ : ByteArray), .string (⟨#[]⟩ : ByteArray), .slice none 0 0, .slice none 0 0] 84 (0, 0)) zz20 hb)
     have n2_ := qa.mk (qjb (g := gb207) (o := .cells #[.int .i64 ((qe l0 a1).f0), .int .i64 ((qe l0 a1).f1), .string ((qe l0 a1).f2), .string ((qe l0 a1).f3), .string ((qe l0 a1).f4), .slice A206_5 ((qe l0 a1).f5).length c206_5] 46 (0, 0)) zz21 hb)
     have n3_ := qa.mk (qjb (g := gb211) (o := .cells #[.string (⟨#[]⟩ : ByteArray), .string (⟨#[]⟩ : ByteArray), .string (⟨#[]⟩ : ByteArray), .slice none 0 0, .slice none 0 0] 84 (0, 0)) zz22 hb)
     have n4_ := qa.mk (qm zz92 hb)
     clear BK205
     clear BK207
     clear BK211
     clear HB
     have HO210 := n0_
     have BK205 := n1_
     have BK207 := n2_
     have BK211 := n3_
     have HB := n4_
     clear n0_ n1_ n2_ n3_ n4_
     (try clear hb)
     (try clear hb2)
     (try clear hk)
     (try clear hi)
     (try clear ho0)
     obtain ⟨Ao14, co14, eo14⟩ := Kd.R_slice HO210.out
     (first | subst eo14 | (injection eo14 with f1_ f2_ f3_; have f4_ := f1_.symm; have f5_ := f3_.symm; clear f1_ f2_ f3_; subst f4_; subst f5_))
     refine hK.out _ _ ⟨(qg BK207.out 0).trans rfl, (qg BK207.out 1).trans rfl, (qg BK207.out 2).trans rfl, (qg BK207.out 3).trans rfl, (qg BK207.out 4).trans rfl, (qg BK207.out 5).trans rfl⟩ (fun hHeld => ?_)
     clear hK K
     refine norm_ (a' := ?_) ?_ ?_
     rotate_left
     ·show Act.put _ (some 22) _ = _
      simp only [Act.put, List.setIfInBounds_toArray, List.set_cons_zero, List.set_cons_succ, i64_w, i32_w]
      rfl
     refine pure_ (i := 9) (N := some 23) (v := ?_) (a' := ?_) #[true, true, true, true, true, true, true, true, true, true, true, false] rfl rfl (any_of HT_.out (by kernel_rfl)) (fun _ _ _ h => h) (Or.inl ⟨by rfl, ?_⟩) ?_ ?_
     rotate_left
     ·intro w'
      go_simp
      with_reducible rfl
     rotate_left
     ·simp only [Act.put, List.setIfInBounds_toArray, List.set_cons_zero, List.set_cons_succ, i64_w, i32_w]
      rfl
     exact norm_ (by simp only [putAll, Act.put, List.setIfInBounds_toArray, List.set_cons_zero, List.set_cons_succ]) (hCont (.slice Ao14 t208.length co14, gb211) _ ⟨hHeld, zz35, zz20, zz21, zz22, GW211.out, GE211.out, NB205_211.out, NB211_205.out, NB207_211.out, NB211_207.out, zz92⟩)
   rintro ⟨v209, gb211⟩ w15 ⟨hS_, h0_, h1_, h2_, h3_, h4_, h5_, h6_, h7_, h8_, h9_, h10_⟩
   have n0_ : qa (Kd.R k48 48 w15 w.heap.size (fun _ => True) v209 t208) := ⟨h0_⟩
   have n1_ : qa (w15.heap[gb205]? = some (.cells #[.string (⟨#[]⟩ : ByteArray), .string (⟨#[]⟩ : ByteArray), .string (⟨#[]⟩ : ByteArray), .slice none 0 0, .slice none 0 0] 84 (0, 0))) := ⟨h1_⟩
   have n2_ : qa (w15.heap[gb207]? = some (.cells #[.int .i64 ((qe l0 a1).f0), .int .i64 ((qe l0 a1).f1), .string ((qe l0 a1).f2), .string ((qe l0 a1).f3), .string ((qe l0 a1).f4), .slice A206_5 ((qe l0 a1).f5).length c206_5] 46 (0, 0))) := ⟨h2_⟩
   have n3_ : qa (w15.heap[gb211]? = some (.cells #[.string (⟨#[]⟩ : ByteArray), .string (⟨#[]⟩ : ByteArray), .string (⟨#[]⟩ : ByteArray), .slice none 0 0, .slice none 0 0] 84 (0, 0))) := ⟨h3_⟩
   have n4_ : qa (w.heap.size ≤ gb211) := ⟨h4_⟩
   have n5_ : qa (w.heap.size ≤ gb211) := ⟨h5_⟩
   have n6_ : qa (gb205 ≠ gb211) := ⟨h6_⟩
   have n7_ : qa (gb211 ≠ gb205) := ⟨h7_⟩
   have n8_ : qa (gb207 ≠ gb211) := ⟨h8_⟩
   have n9_ : qa (gb211 ≠ gb207) := ⟨h9_⟩
   have n10_ : qa (Below w.heap.size w w15) := ⟨h10_⟩
   clear BK205
   clear BK207
   clear HB
   clear h0_ h1_ h2_ h3_ h4_ h5_ h6_ h7_ h8_ h9_ h10_
   have HO210 := n0_
   have BK205 := n1_
   have BK207 := n2_
   have BK211 := n3_
   have GW211 := n4_
   have GE211 := n5_
   have NB205_211 := n6_
   have NB211_205 := n7_
   have NB207_211 := n8_
   have NB211_207 := n9_
   have HB := n10_
   clear n0_ n1_ n2_ n3_ n4_ n5_ n6_ n7_ n8_ n9_ n10_
   have hHeld : w15.cell? ⟨gb207, 0, none⟩ = some (.int .i64 ((qe l0 a1).f0)) ∧ w15.cell? ⟨gb207, 1, none⟩ = some (.int .i64 ((qe l0 a1).f1)) ∧ w15.cell? ⟨gb207, 2, none⟩ = some (.string ((qe l0 a1).f2)) ∧ w15.cell? ⟨gb207, 3, none⟩ = some (.string ((qe l0 a1).f3)) ∧ w15.cell? ⟨gb207, 4, none⟩ = some (.string ((qe l0 a1).f4)) ∧ w15.cell? ⟨gb207, 5, none⟩ = some (.slice A206_5 ((qe l0 a1).f5).length c206_5) := hS_
   obtain ⟨Ao16, co16, eo16⟩ := Kd.R_slice HO210.out
   (first | subst eo16 | (injection eo16 with f1_ f2_ f3_; have f4_ := f1_.symm; have f5_ := f3_.symm; clear f1_ f2_ f3_; subst f4_; subst f5_))
   refine norm_ (a' := ?_) ?_ ?_
   rotate_left
   ·simp only [putAll, Act.put, List.setIfInBounds_toArray, List.set_cons_zero, List.set_cons_succ]
    rfl
   refine one_ (i := 11) (N := none) #[true, true, true, true, true, true, true, true, true, true, true, true] rfl rfl (one_of HT_.out (by kernel_rfl)) (by decide) (fun K hK => ?_)
   have hs17 : w15.cell? ⟨gb211, 0, none⟩ = some (.string (⟨#[]⟩ : ByteArray)) := (qg BK211.out 0).trans rfl
   have hfs17 := qf BK211.out 0
   have hns17_0 := NB205_211.out
   have hns17_1 := NB207_211.out
   have hms17_0 := NB211_205.out
   have hms17_1 := NB211_207.out
   have hs18 : w15.cell? ⟨gb211, 1, none⟩ = some (.string (⟨#[]⟩ : ByteArray)) := (qg BK211.out 1).trans rfl
   have hfs18 := qf BK211.out 1
   have hns18_0 := NB205_211.out
   have hns18_1 := NB207_211.out
   have hms18_0 := NB211_205.out
   have hms18_1 := NB211_207.out
   have hs19 : w15.cell? ⟨gb211, 2, none⟩ = some (.string (⟨#[]⟩ : ByteArray)) := (qg BK211.out 2).trans rfl
   have hfs19 := qf BK211.out 2
   have hns19_0 := NB205_211.out
   have hns19_1 := NB207_211.out
   have hms19_0 := NB211_205.out
   have hms19_1 := NB211_207.out
   have hs20 : w15.cell? ⟨gb211, 3, none⟩ = some (.slice none 0 0) := (qg BK211.out 3).trans rfl
   have hfs20 := qf BK211.out 3
   have hns20_0 := NB205_211.out
   have hns20_1 := NB207_211.out
   have hms20_0 := NB211_205.out
   have hms20_1 := NB211_207.out
   have hs21 : w15.cell? ⟨gb211, 4, none⟩ = some (.slice none 0 0) := (qg BK211.out 4).trans rfl
   have hfs21 := qf BK211.out 4
   have hns21_0 := NB205_211.out
   have hns21_1 := NB207_211.out
   have hms21_0 := NB211_205.out
   have hms21_1 := NB211_207.out
   refine skip_ (w1 := ?_) (by rfl) rfl ?_ ?_
   rotate_left
   ·go_simp
    rfl
   refine hK.out _ _ ⟨((qdc (p := ⟨gb211, _, none⟩) NB207_211.out _).trans (((qdc (p := ⟨gb211, _, none⟩) NB207_211.out _).trans (((qdc (p := ⟨gb211, _, none⟩) NB207_211.out _).trans (((qdc (p := ⟨gb211, _, none⟩) NB207_211.out _).trans (((qdc (p := ⟨gb211, _, none⟩) NB207_211.out _).trans (hHeld.1)))))))))), ((qdc (p := ⟨gb211, _, none⟩) NB207_211.out _).trans (((qdc (p := ⟨gb211, _, none⟩) NB207_211.out _).trans (((qdc (p := ⟨gb211, _, none⟩) NB207_211.out _).trans (((qdc (p := ⟨gb211, _, none⟩) NB207_211.out _).trans (((qdc (p := ⟨gb211, _, none⟩) NB207_211.out _).trans (hHeld.2.1)))))))))), ((qdc (p := ⟨gb211, _, none⟩) NB207_211.out _).trans (((qdc (p := ⟨gb211, _, none⟩) NB207_211.out _).trans (((qdc (p := ⟨gb211, _, none⟩) NB207_211.out _).trans (((qdc (p := ⟨gb211, _, none⟩) NB207_211.out _).trans (((qdc (p := ⟨gb211, _, none⟩) NB207_211.out _).trans (hHeld.2.2.1)))))))))), ((qdc (p := ⟨gb211, _, none⟩) NB207_211.out _).trans (((qdc (p := ⟨gb211, _, none⟩) NB207_211.out _).trans (((qdc (p := ⟨gb211, _, none⟩) NB207_211.out _).trans (((qdc (p := ⟨gb211, _, none⟩) NB207_211.out _).trans (((qdc (p := ⟨gb211, _, none⟩) NB207_211.out _).trans (hHeld.2.2.2.1)))))))))), ((qdc (p := ⟨gb211, _, none⟩) NB207_211.out _).trans (((qdc (p := ⟨gb211, _, none⟩) NB207_211.out _).trans (((qdc (p := ⟨gb211, _, none⟩) NB207_211.out _).trans (((qdc (p := ⟨gb211, _, none⟩) NB207_211.out _).trans (((qdc (p := ⟨gb211, _, none⟩) NB207_211.out _).trans (hHeld.2.2.2.2.1)))))))))), ((qdc (p := ⟨gb211, _, none⟩) NB207_211.out _).trans (((qdc (p := ⟨gb211, _, none⟩) NB207_211.out _).trans (((qdc (p := ⟨gb211, _, none⟩) NB207_211.out _).trans (((qdc (p := ⟨gb211, _, none⟩) NB207_211.out _).trans (((qdc (p := ⟨gb211, _, none⟩) NB207_211.out _).trans (hHeld.2.2.2.2.2))))))))))⟩ (fun hHeld => ?_)
   clear hK K
   refine done_ (done_of HT_.out (by kernel_rfl)) ?_
   try go_wp2
   go_loopg [8] k (fun kq v8 w' => ∃ (x8_1 : Int) (x212004_1 : List (S84)) (u212004 : Value), v8 = .int .i64 x8_1 ∧ qa (qhb.l0 kq l0 a1 x8_1 ((qe l0 a1).f2) ((qe l0 a1).f3) ((qe l0 a1).f4) t208 x212004_1 = some (r1, r2, r3, r4, r5, r6)) ∧ qa (kq ≤ k) ∧ qa (Kd.R k48 48 w' w.heap.size (fun _ => True) (.slice Ao16 t208.length co16) t208) ∧ qa (Kd.R k84 84 w' w.heap.size (fun k_ => some k_ ≠ ((.slice Ao16 t208.length co16) : Value).ownBlock ∧ k_ ≠ gb205 ∧ k_ ≠ gb211) u212004 x212004_1) ∧ qa (w'.heap[gb205]? = some (.cells #[.string (⟨#[]⟩ : ByteArray), .string (⟨#[]⟩ : ByteArray), .string (⟨#[]⟩ : ByteArray), (.slice none 0 0), (.slice none 0 0)] 84 (0, 0))) ∧ qa (w'.heap[gb207]? = some (.cells #[.int .i64 ((qe l0 a1).f0), .int .i64 ((qe l0 a1).f1), .string ((qe l0 a1).f2), .string ((qe l0 a1).f3), .string ((qe l0 a1).f4), (.slice A206_5 ((qe l0 a1).f5).length c206_5)] 46 (0, 0))) ∧ qa (w'.heap[gb211]? = some (.cells #[.string ((qe l0 a1).f2), .string ((qe l0 a1).f3), .string ((qe l0 a1).f4), (.slice Ao16 t208.length co16), u212004] 84 (0, 0))) ∧ qa (Below w.heap.size w w'))
   case atStart => exact ⟨(wrap64 (a1 + 1)), (([] : List (S84))), (.slice none 0 0), zz6, H', ⟨Nat.le_refl _⟩, ⟨by (with_reducible repeat (first | apply Kd.R_alloc | apply Kd.R_drewN | apply Kd.R_drew)); exact Kd.R_mono (Kd.R_far (p := ⟨gb211, 4, none⟩) (Kd.R_far (p := ⟨gb211, 3, none⟩) (Kd.R_far (p := ⟨gb211, 2, none⟩) (Kd.R_far (p := ⟨gb211, 1, none⟩) (Kd.R_far (p := ⟨gb211, 0, none⟩) (Kd.R_types HO210.out BK211.out (by decide)) (fun _ hk => hk.2) (.string ((qe l0 a1).f2))) (fun _ hk => hk.2) (.string ((qe l0 a1).f3))) (fun _ hk => hk.2) (.string ((qe l0 a1).f4))) (fun _ hk => hk.2) (.slice Ao16 t208.length co16)) (fun _ hk => hk.2) (.slice none 0 0)) (fun _ hk => trivial)⟩, ⟨zz57⟩, ⟨by (with_reducible repeat (first | refine qi ?_ _ | refine qk ?_ | refine qh ?_ _)); refine qkb ?_ NB205_211.out _; (with_reducible repeat (first | refine qi ?_ _ | refine qk ?_ | refine qh ?_ _)); refine qkb ?_ NB205_211.out _; (with_reducible repeat (first | refine qi ?_ _ | refine qk ?_ | refine qh ?_ _)); refine qkb ?_ NB205_211.out _; (with_reducible repeat (first | refine qi ?_ _ | refine qk ?_ | refine qh ?_ _)); refine qkb ?_ NB205_211.out _; (with_reducible repeat (first | refine qi ?_ _ | refine qk ?_ | refine qh ?_ _)); refine qkb ?_ NB205_211.out _; (with_reducible repeat (first | refine qi ?_ _ | refine qk ?_ | refine qh ?_ _)); exact BK205.out⟩, ⟨by (with_reducible repeat (first | refine qi ?_ _ | refine qk ?_ | refine qh ?_ _)); refine qkb ?_ NB207_211.out _; (with_reducible repeat (first | refine qi ?_ _ | refine qk ?_ | refine qh ?_ _)); refine qkb ?_ NB207_211.out _; (with_reducible repeat (first | refine qi ?_ _ | refine qk ?_ | refine qh ?_ _)); refine qkb ?_ NB207_211.out _; (with_reducible repeat (first | refine qi ?_ _ | refine qk ?_ | refine qh ?_ _)); refine qkb ?_ NB207_211.out _; (with_reducible repeat (first | refine qi ?_ _ | refine qk ?_ | refine qh ?_ _)); refine qkb ?_ NB207_211.out _; (with_reducible repeat (first | refine qi ?_ _ | refine qk ?_ | refine qh ?_ _)); exact BK207.out⟩, ⟨by (with_reducible repeat (first | refine qi ?_ _ | refine qk ?_ | refine qh ?_ _)); refine qq (cs := #[.string ((qe l0 a1).f2), .string ((qe l0 a1).f3), .string ((qe l0 a1).f4), .slice Ao16 t208.length co16, .slice none 0 0]) ?_ 4 _ rfl; (with_reducible repeat (first | refine qi ?_ _ | refine qk ?_ | refine qh ?_ _)); refine qq (cs := #[.string ((qe l0 a1).f2), .string ((qe l0 a1).f3), .string ((qe l0 a1).f4), .slice none 0 0, .slice none 0 0]) ?_ 3 _ rfl; (with_reducible repeat (first | refine qi ?_ _ | refine qk ?_ | refine qh ?_ _)); refine qq (cs := #[.string ((qe l0 a1).f2), .string ((qe l0 a1).f3), .string (⟨#[]⟩ : ByteArray), .slice none 0 0, .slice none 0 0]) ?_ 2 _ rfl; (with_reducible repeat (first | refine qi ?_ _ | refine qk ?_ | refine qh ?_ _)); refine qq (cs := #[.string ((qe l0 a1).f2), .string (⟨#[]⟩ : ByteArray), .string (⟨#[]⟩ : ByteArray), .slice none 0 0, .slice none 0 0]) ?_ 1 _ rfl; (with_reducible repeat (first | refine qi ?_ _ | refine qk ?_ | refine qh ?_ _)); refine qq (cs := #[.string (⟨#[]⟩ : ByteArray), .string (⟨#[]⟩ : ByteArray), .string (⟨#[]⟩ : ByteArray), .slice none 0 0, .slice none 0 0]) ?_ 0 _ rfl; (with_reducible repeat (first | refine qi ?_ _ | refine qk ?_ | refine qh ?_ _)); exact BK211.out⟩, ⟨zz92⟩⟩
   case round =>
    clear H'
    try clear c2
    try clear p2
    try clear q2
    try clear hx2
    try clear c3
    try clear c3b0
    try clear c4
    try clear c4b0
    try clear c5
    try clear c6
    try clear p6
    try clear c8
    try clear c20
    try clear p20
    try clear q20
    try clear hx20
    try clear hcz9_0
    try clear hcz9_1
    try clear hcz9_2
    try clear hcz9_3
    try clear hcz9_4
    try clear hcz9_5
    try clear hfz9_0
    try clear hfz9_1
    try clear hfz9_2
    try clear hfz9_3
    try clear hfz9_4
    try clear hfz9_5
    try clear hx206_0
    try clear hx206_1
    try clear hx206_2
    try clear hx206_3
    try clear hx206_4
    try clear hx206_5
    try clear p206
    try clear q206
    obtain ⟨x8_1, x212004_1, u212004, rfl, HA, HK1, HO_212003, HO_212004, BK205, BK207, BK211, HB⟩ := hrel
    cases gk with
    | zero => exact absurd HA.out (by simp [qhb.l0])
    | succ k1 =>
     have H := HA.out
     clear HA
     simp only [qhb.l0] at H
     by_cases c22 : x8_1 < (l0.length : Int)
     ·rw [if_pos c22] at H
      have c22b0 : decide (x8_1 < (l0.length : Int)) = true := decide_eq_true c22
      clear c22
      by_cases c23 : 0 ≤ x8_1
      ·rw [if_pos c23] at H
       have c23b0 : decide (0 ≤ x8_1) = true := decide_eq_true c23
       clear c23
       by_cases c24 : ((qe l0 x8_1).f1) = (wrap64 (a1 + 1))
       ·rw [if_pos c24] at H
        have c24b0 : (((qe l0 x8_1).f1) == (wrap64 (a1 + 1))) = true := beq_iff_eq.mpr c24
        have c24b1 : (((qe l0 x8_1).f1) != (wrap64 (a1 + 1))) = false := bne_eq_false_iff_eq.mpr c24
        clear c24
        replace H := Option.bind_eq_some_iff.mp H
        obtain ⟨⟨t214, t215, t216, t217, t220, t223⟩, A250, H⟩ := H
        replace H : (if x212004_1.length < 1466015503701 then (qhb.l0 k1 l0 a1 t223 ((qe l0 a1).f2) ((qe l0 a1).f3) ((qe l0 a1).f4) t208 (x212004_1 ++ [(⟨t214, t215, t216, t217, t220⟩ : S84)])) else (none)) = some (r1, r2, r3, r4, r5, r6) := H
        have A25 := qa.mk A250
        clear A250
        by_cases c26 : x212004_1.length < 1466015503701
        ·rw [if_pos c26] at H
         have LMc26 := qa.mk c26
         clear c26
         obtain ⟨y224, hy224⟩ : ∃ y_ : List (S84), y_ = (x212004_1 ++ [(⟨t214, t215, t216, t217, t220⟩ : S84)]) := ⟨_, rfl⟩
         replace H : (qhb.l0 k1 l0 a1 t223 ((qe l0 a1).f2) ((qe l0 a1).f3) ((qe l0 a1).f4) t208 y224) = some (r1, r2, r3, r4, r5, r6) := by first | (rw [hy224]; with_reducible exact H) | (have H2_ := (Option.bind_some _ _).symm.trans H; rw [hy224]; with_reducible exact H2_) | (have H2_ := (Option.bind_some _ _).symm.trans H; with_reducible exact H2_) | with_reducible exact H | (rw [hy224]; exact H) | exact H
         have Ny224 := qa.mk hy224
         clear hy224
         have H' := qa.mk H
         clear H
         have p212 : 0 ≤ (x8_1 : Int) := of_decide_eq_true zz7
         have q212 : x8_1 < (l0.length : Int) := of_decide_eq_true zz7
         obtain ⟨ad212, A212_5, c212_5, e212, hx212_0, hx212_1, hx212_2, hx212_3, hx212_4, hx212_5, hl212_5, hi212_5⟩ := at_T46 HR0.out x8_1 p212 q212
         obtain rfl : ad206 = ad212 := (by injection e212)
         replace hx212_0 := (HB.out.cell (qic w _ hx212_0)).trans hx212_0
         replace hx212_1 := (HB.out.cell (qic w _ hx212_1)).trans hx212_1
         replace hx212_2 := (HB.out.cell (qic w _ hx212_2)).trans hx212_2
         replace hx212_3 := (HB.out.cell (qic w _ hx212_3)).trans hx212_3
         replace hx212_4 := (HB.out.cell (qic w _ hx212_4)).trans hx212_4
         replace hx212_5 := (HB.out.cell (qic w _ hx212_5)).trans hx212_5
         have HR212_5 := qa.mk hi212_5
         have HC212_5 := qa.mk hl212_5
         clear hi212_5 hl212_5
         replace p212 := eq_true p212
         replace q212 := eq_true q212
         go_wp2_with (first | ((with_reducible refine qeb (N := 9) rfl ?_); refine qib ?hg (N := 9) ?hd (cs := #[.string (⟨#[]⟩ : ByteArray), .string (⟨#[]⟩ : ByteArray), .string (⟨#[]⟩ : ByteArray), .slice none 0 0, .slice none 0 0]) (t := 84) ?hr ?_; (case hd => rfl); (case hg => rfl); (case hr => exact zz5); intro gb213 hg w27 hbox hb; have n0_ := qa.mk (Kd.R_below zz37 hb); have n1_ := qa.mk (Kd.R_below (Kd.R_elderB zz38 gb213 (Nat.le_of_eq hg.symm)) hb); have n2_ := qa.mk (qjb (g := gb205) (o := .cells #[.string (⟨#[]⟩ : ByteArray), .string (⟨#[]⟩ : ByteArray), .string (⟨#[]⟩ : ByteArray), .slice none 0 0, .slice none 0 0] 84 (0, 0)) zz20 hb); have n3_ := qa.mk (qjb (g := gb207) (o := .cells #[.int .i64 ((qe l0 a1).f0), .int .i64 ((qe l0 a1).f1), .string ((qe l0 a1).f2), .string ((qe l0 a1).f3), .string ((qe l0 a1).f4), .slice A206_5 ((qe l0 a1).f5).length c206_5] 46 (0, 0)) zz21 hb); have n4_ := qa.mk (qjb (g := gb211) (o := .cells #[.string ((qe l0 a1).f2), .string ((qe l0 a1).f3), .string ((qe l0 a1).f4), .slice Ao16 t208.length co16, u212004] 84 (0, 0)) zz22 hb); have n5_ := qa.mk (qm zz92 hb); have n6_ := qa.mk (hbox); have n7_ := qa.mk ((by rw [hg]; exact (ql zz92) : w.heap.size ≤ gb213)); have n8_ := qa.mk ((by rw [hg]; exact (ql zz92) : w.heap.size ≤ gb213)); have n9_ := qa.mk ((by rw [hg]; exact qkc (blk_lt (g := gb205) (o := .cells #[.string (⟨#[]⟩ : ByteArray), .string (⟨#[]⟩ : ByteArray), .string (⟨#[]⟩ : ByteArray), .slice none 0 0, .slice none 0 0] 84 (0, 0)) zz20) : gb205 ≠ gb213)); have n10_ := qa.mk ((by rw [hg]; exact Nat.ne_of_gt (blk_lt (g := gb205) (o := .cells #[.string (⟨#[]⟩ : ByteArray), .string (⟨#[]⟩ : ByteArray), .string (⟨#[]⟩ : ByteArray), .slice none 0 0, .slice none 0 0] 84 (0, 0)) zz20) : gb213 ≠ gb205)); have n11_ := qa.mk ((by rw [hg]; exact qkc (blk_lt (g := gb207) (o := .cells #[.int .i64 ((qe l0 a1).f0), .int .i64 ((qe l0 a1).f1), .string ((qe l0 a1).f2), .string ((qe l0 a1).f3), .string ((qe l0 a1).f4), .slice A206_5 ((qe l0 a1).f5).length c206_5] 46 (0, 0)) zz21) : gb207 ≠ gb213)); have n12_ := qa.mk ((by rw [hg]; exact Nat.ne_of_gt (blk_lt (g := gb207) (o := .cells #[.int .i64 ((qe l0 a1).f0), .int .i64 ((qe l0 a1).f1), .string ((qe l0 a1).f2), .string ((qe l0 a1).f3), .string ((qe l0 a1).f4), .slice A206_5 ((qe l0 a1).f5).length c206_5] 46 (0, 0)) zz21) : gb213 ≠ gb207)); have n13_ := qa.mk ((by rw [hg]; exact qkc (blk_lt (g := gb211) (o := .cells #[.string ((qe l0 a1).f2), .string ((qe l0 a1).f3), .string ((qe l0 a1).f4), .slice Ao16 t208.length co16, u212004] 84 (0, 0)) zz22) : gb211 ≠ gb213)); have n14_ := qa.mk ((by rw [hg]; exact Nat.ne_of_gt (blk_lt (g := gb211) (o := .cells #[.string ((qe l0 a1).f2), .string ((qe l0 a1).f3), .string ((qe l0 a1).f4), .slice Ao16 t208.length co16, u212004] 84 (0, 0)) zz22) : gb213 ≠ gb211)); clear HO_212003; clear HO_212004; clear BK205; clear BK207; clear BK211; clear HB; have HO_212003 := n0_; have HO_212004 := n1_; have BK205 := n2_; have BK207 := n3_; have BK211 := n4_; have HB := n5_; have BK213 := n6_; have GW213 := n7_; have GE213 := n8_; have NB205_213 := n9_; have NB213_205 := n10_; have NB207_213 := n11_; have NB213_207 := n12_; have NB211_213 := n13_; have NB213_211 := n14_; clear n0_ n1_ n2_ n3_ n4_ n5_ n6_ n7_ n8_ n9_ n10_ n11_ n12_ n13_ n14_; clear hb hbox hg) | ((with_reducible refine qv (f := 52) rfl ?_); refine qob (some 43) rfl rfl Tryd.func52 (by kernel_rfl) rfl #[.slice (some ad206) l0.length c0, .int .i64 x8_1] rfl zz56 ?_; (with_reducible refine (ih k1 zz1 _ _ l0 x8_1 t214 t215 t216 t217 t220 t223 _ ?side1 ?side2 A25.out).mono ?_); (case side1 => exact zz83); (case side2 => exact HC0.out); rintro e w28 ⟨v218, v221, rfl, ho0, ho1, hb⟩; refine ⟨_, rfl, ?_⟩; have n0_ := qa.mk (Kd.R_elder' zz37 (Kd.R_base ho0) hb); have n1_ := qa.mk (Kd.R_mono (Kd.R_told (Kd.R_told (Kd.R_old zz38 hb) (Kd.R_base ho0)) (Kd.R_base ho1)) (fun _ h_ => h_.1)); have n2_ := qa.mk (Kd.R_lower (Kd.R_new' ho0 (Kd.R_lt zz37)) (ql zz99)); have n3_ := qa.mk (Kd.R_lower (Kd.R_newB (Kd.R_newB (Kd.R_newB (Kd.R_new' (Kd.R_new' ho1 (Kd.R_lt zz37)) (Kd.R_lt zz38)) (g := gb205) (o := .cells #[.string (⟨#[]⟩ : ByteArray), .string (⟨#[]⟩ : ByteArray), .string (⟨#[]⟩ : ByteArray), .slice none 0 0, .slice none 0 0] 84 (0, 0)) zz20) (g := gb211) (o := .cells #[.string ((qe l0 a1).f2), .string ((qe l0 a1).f3), .string ((qe l0 a1).f4), .slice Ao16 t208.length co16, u212004] 84 (0, 0)) zz22) (g := gb213) (o := .cells #[.string (⟨#[]⟩ : ByteArray), .string (⟨#[]⟩ : ByteArray), .string (⟨#[]⟩ : ByteArray), .slice none 0 0, .slice none 0 0] 84 (0, 0)) zz23) (ql zz99)); have n4_ := qa.mk (qjb (g := gb205) (o := .cells #[.string (⟨#[]⟩ : ByteArray), .string (⟨#[]⟩ : ByteArray), .string (⟨#[]⟩ : ByteArray), .slice none 0 0, .slice none 0 0] 84 (0, 0)) zz20 hb); have n5_ := qa.mk (qjb (g := gb207) (o := .cells #[.int .i64 ((qe l0 a1).f0), .int .i64 ((qe l0 a1).f1), .string ((qe l0 a1).f2), .string ((qe l0 a1).f3), .string ((qe l0 a1).f4), .slice A206_5 ((qe l0 a1).f5).length c206_5] 46 (0, 0)) zz21 hb); have n6_ := qa.mk (qjb (g := gb211) (o := .cells #[.string ((qe l0 a1).f2), .string ((qe l0 a1).f3), .string ((qe l0 a1).f4), .slice Ao16 t208.length co16, u212004] 84 (0, 0)) zz22 hb); have n7_ := qa.mk (qjb (g := gb213) (o := .cells #[.string (⟨#[]⟩ : ByteArray), .string (⟨#[]⟩ : ByteArray), .string (⟨#[]⟩ : ByteArray), .slice none 0 0, .slice none 0 0] 84 (0, 0)) zz23 hb); have n8_ := qa.mk (qm zz99 hb); clear HO_212003; clear HO_212004; clear BK205; clear BK207; clear BK211; clear BK213; clear HB; have HO_212003 := n0_; have HO_212004 := n1_; have HO219 := n2_; have HO222 := n3_; have BK205 := n4_; have BK207 := n5_; have BK211 := n6_; have BK213 := n7_; have HB := n8_; clear n0_ n1_ n2_ n3_ n4_ n5_ n6_ n7_ n8_; (try clear hb); (try clear hb2); (try clear hk); (try clear hi); (try clear ho0); (try clear ho1); have hnb29 := NB213_205.out; have hnc29 := NB205_213.out; have hnb30 := NB213_207.out; have hnc30 := NB207_213.out; have hnb31 := NB213_211.out; have hnc31 := NB211_213.out; have hcz32_0 : w28.cell? ⟨gb213, 0, none⟩ = some (.string (⟨#[]⟩ : ByteArray)) := (qg BK213.out 0).trans rfl; have hcz32_1 : w28.cell? ⟨gb213, 1, none⟩ = some (.string (⟨#[]⟩ : ByteArray)) := (qg BK213.out 1).trans rfl; have hcz32_2 : w28.cell? ⟨gb213, 2, none⟩ = some (.string (⟨#[]⟩ : ByteArray)) := (qg BK213.out 2).trans rfl; have hcz32_3 : w28.cell? ⟨gb213, 3, none⟩ = some (.slice none 0 0) := (qg BK213.out 3).trans rfl; have hcz32_4 : w28.cell? ⟨gb213, 4, none⟩ = some (.slice none 0 0) := (qg BK213.out 4).trans rfl; have hfz32_0 := qf BK213.out 0; have hfz32_1 := qf BK213.out 1; have hfz32_2 := qf BK213.out 2; have hfz32_3 := qf BK213.out 3; have hfz32_4 := qf BK213.out 4; obtain ⟨Ao33, co33, eo33⟩ := Kd.R_slice HO219.out; subst eo33; obtain ⟨Ao34, co34, eo34⟩ := Kd.R_slice HO222.out; subst eo34) | ((with_reducible refine gate_store (t := 84) (p := 9) rfl ?_); refine store_event (t := 84) (p := 9) (v := ?vo_w35) (w1 := (((((w28.setCell ⟨gb213, 0, none⟩ (.string t214)).setCell ⟨gb213, 1, none⟩ (.string t215)).setCell ⟨gb213, 2, none⟩ (.string t216)).setCell ⟨gb213, 3, none⟩ (.slice Ao33 t217.length co33)).setCell ⟨gb213, 4, none⟩ (.slice Ao34 t220.length co34))) ?hg ?ho ?hn ?hr ?_; (case ho => rfl); (case hg => rfl); (case hn => rfl); (case hr => exact zz5); intro w35 hw; have n0_ : qa (Kd.R k48 48 w35 w.heap.size (fun k_ => some k_ ≠ (.slice Ao33 t217.length co33 : Value).ownBlock) (.slice Ao16 t208.length co16) t208) := ⟨(by rw [hw]; exact (by (with_reducible repeat (first | apply Kd.R_alloc | apply Kd.R_drewN | apply Kd.R_drew)); exact Kd.R_mono (Kd.R_far (p := ⟨gb213, 4, none⟩) (Kd.R_far (p := ⟨gb213, 3, none⟩) (Kd.R_far (p := ⟨gb213, 2, none⟩) (Kd.R_far (p := ⟨gb213, 1, none⟩) (Kd.R_far (p := ⟨gb213, 0, none⟩) (Kd.R_types HO_212003.out BK213.out (by decide)) (fun _ hk => hk.2) (.string t214)) (fun _ hk => hk.2) (.string t215)) (fun _ hk => hk.2) (.string t216)) (fun _ hk => hk.2) (.slice Ao33 t217.length co33)) (fun _ hk => hk.2) (.slice Ao34 t220.length co34)) (fun _ hk => hk.1.2)))⟩; have n1_ : qa (Kd.R k84 84 w35 w.heap.size (fun k_ => some k_ ≠ (.slice Ao16 t208.length co16 : Value).ownBlock ∧ some k_ ≠ (.slice Ao33 t217.length co33 : Value).ownBlock ∧ some k_ ≠ (.slice Ao34 t220.length co34 : Value).ownBlock ∧ k_ ≠ gb205 ∧ k_ ≠ gb211 ∧ k_ ≠ gb213) u212004 x212004_1) := ⟨(by rw [hw]; exact (by (with_reducible repeat (first | apply Kd.R_alloc | apply Kd.R_drewN | apply Kd.R_drew)); exact Kd.R_mono (Kd.R_far (p := ⟨gb213, 4, none⟩) (Kd.R_far (p := ⟨gb213, 3, none⟩) (Kd.R_far (p := ⟨gb213, 2, none⟩) (Kd.R_far (p := ⟨gb213, 1, none⟩) (Kd.R_far (p := ⟨gb213, 0, none⟩) (Kd.R_mono HO_212004.out (fun k_ hk => (⟨hk, hk.1.1.2⟩ : _ ∧ k_ ≠ gb213))) (fun _ hk => hk.2) (.string t214)) (fun _ hk => hk.2) (.string t215)) (fun _ hk => hk.2) (.string t216)) (fun _ hk => hk.2) (.slice Ao33 t217.length co33)) (fun _ hk => hk.2) (.slice Ao34 t220.length co34)) (fun _ hk => ⟨hk.1.1.1.1.1, ⟨hk.1.1.2, ⟨hk.1.2, ⟨hk.1.1.1.1.2.1, ⟨hk.1.1.1.1.2.2, hk.1.1.1.2⟩⟩⟩⟩⟩)))⟩; have n2_ : qa (Kd.R k48 48 w35 w.heap.size (fun k_ => some k_ ≠ (.slice Ao16 t208.length co16 : Value).ownBlock) (.slice Ao33 t217.length co33) t217) := ⟨(by rw [hw]; exact (by (with_reducible repeat (first | apply Kd.R_alloc | apply Kd.R_drewN | apply Kd.R_drew)); exact Kd.R_mono (Kd.R_far (p := ⟨gb213, 4, none⟩) (Kd.R_far (p := ⟨gb213, 3, none⟩) (Kd.R_far (p := ⟨gb213, 2, none⟩) (Kd.R_far (p := ⟨gb213, 1, none⟩) (Kd.R_far (p := ⟨gb213, 0, none⟩) (Kd.R_types HO219.out BK213.out (by decide)) (fun _ hk => hk.2) (.string t214)) (fun _ hk => hk.2) (.string t215)) (fun _ hk => hk.2) (.string t216)) (fun _ hk => hk.2) (.slice Ao33 t217.length co33)) (fun _ hk => hk.2) (.slice Ao34 t220.length co34)) (fun _ hk => hk.1.2)))⟩; have n3_ : qa (Kd.R k84 84 w35 w.heap.size (fun k_ => some k_ ≠ (.slice Ao16 t208.length co16 : Value).ownBlock ∧ some k_ ≠ (u212004 : Value).ownBlock ∧ some k_ ≠ (.slice Ao33 t217.length co33 : Value).ownBlock ∧ k_ ≠ gb205 ∧ k_ ≠ gb211 ∧ k_ ≠ gb213) (.slice Ao34 t220.length co34) t220) := ⟨(by rw [hw]; exact (by (with_reducible repeat (first | apply Kd.R_alloc | apply Kd.R_drewN | apply Kd.R_drew)); exact Kd.R_mono (Kd.R_far (p := ⟨gb213, 4, none⟩) (Kd.R_far (p := ⟨gb213, 3, none⟩) (Kd.R_far (p := ⟨gb213, 2, none⟩) (Kd.R_far (p := ⟨gb213, 1, none⟩) (Kd.R_far (p := ⟨gb213, 0, none⟩) (Kd.R_mono HO222.out (fun k_ hk => (⟨hk, hk.2⟩ : _ ∧ k_ ≠ gb213))) (fun _ hk => hk.2) (.string t214)) (fun _ hk => hk.2) (.string t215)) (fun _ hk => hk.2) (.string t216)) (fun _ hk => hk.2) (.slice Ao33 t217.length co33)) (fun _ hk => hk.2) (.slice Ao34 t220.length co34)) (fun _ hk => ⟨hk.1.1.1.1.1.2, ⟨hk.1.1.1.1.2, ⟨hk.1.1.1.1.1.1, ⟨hk.1.1.1.2, ⟨hk.1.1.2, hk.1.2⟩⟩⟩⟩⟩)))⟩; have n4_ : qa (w35.heap[gb205]? = some (.cells #[.string (⟨#[]⟩ : ByteArray), .string (⟨#[]⟩ : ByteArray), .string (⟨#[]⟩ : ByteArray), .slice none 0 0, .slice none 0 0] 84 (0, 0))) := ⟨(by rw [hw]; exact (by (with_reducible repeat (first | refine qi ?_ _ | refine qk ?_ | refine qh ?_ _)); refine qkb ?_ NB205_213.out _; (with_reducible repeat (first | refine qi ?_ _ | refine qk ?_ | refine qh ?_ _)); refine qkb ?_ NB205_213.out _; (with_reducible repeat (first | refine qi ?_ _ | refine qk ?_ | refine qh ?_ _)); refine qkb ?_ NB205_213.out _; (with_reducible repeat (first | refine qi ?_ _ | refine qk ?_ | refine qh ?_ _)); refine qkb ?_ NB205_213.out _; (with_reducible repeat (first | refine qi ?_ _ | refine qk ?_ | refine qh ?_ _)); refine qkb ?_ NB205_213.out _; (with_reducible repeat (first | refine qi ?_ _ | refine qk ?_ | refine qh ?_ _)); exact BK205.out))⟩; have n5_ : qa (w35.heap[gb207]? = some (.cells #[.int .i64 ((qe l0 a1).f0), .int .i64 ((qe l0 a1).f1), .string ((qe l0 a1).f2), .string ((qe l0 a1).f3), .string ((qe l0 a1).f4), .slice A206_5 ((qe l0 a1).f5).length c206_5] 46 (0, 0))) := ⟨(by rw [hw]; exact (by (with_reducible repeat (first | refine qi ?_ _ | refine qk ?_ | refine qh ?_ _)); refine qkb ?_ NB207_213.out _; (with_reducible repeat (first | refine qi ?_ _ | refine qk ?_ | refine qh ?_ _)); refine qkb ?_ NB207_213.out _; (with_reducible repeat (first | refine qi ?_ _ | refine qk ?_ | refine qh ?_ _)); refine qkb ?_ NB207_213.out _; (with_reducible repeat (first | refine qi ?_ _ | refine qk ?_ | refine qh ?_ _)); refine qkb ?_ NB207_213.out _; (with_reducible repeat (first | refine qi ?_ _ | refine qk ?_ | refine qh ?_ _)); refine qkb ?_ NB207_213.out _; (with_reducible repeat (first | refine qi ?_ _ | refine qk ?_ | refine qh ?_ _)); exact BK207.out))⟩; have n6_ : qa (w35.heap[gb211]? = some (.cells #[.string ((qe l0 a1).f2), .string ((qe l0 a1).f3), .string ((qe l0 a1).f4), .slice Ao16 t208.length co16, u212004] 84 (0, 0))) := ⟨(by rw [hw]; exact (by (with_reducible repeat (first | refine qi ?_ _ | refine qk ?_ | refine qh ?_ _)); refine qkb ?_ NB211_213.out _; (with_reducible repeat (first | refine qi ?_ _ | refine qk ?_ | refine qh ?_ _)); refine qkb ?_ NB211_213.out _; (with_reducible repeat (first | refine qi ?_ _ | refine qk ?_ | refine qh ?_ _)); refine qkb ?_ NB211_213.out _; (with_reducible repeat (first | refine qi ?_ _ | refine qk ?_ | refine qh ?_ _)); refine qkb ?_ NB211_213.out _; (with_reducible repeat (first | refine qi ?_ _ | refine qk ?_ | refine qh ?_ _)); refine qkb ?_ NB211_213.out _; (with_reducible repeat (first | refine qi ?_ _ | refine qk ?_ | refine qh ?_ _)); exact BK211.out))⟩; have n7_ : qa (w35.heap[gb213]? = some (.cells #[.string t214, .string t215, .string t216, .slice Ao33 t217.length co33, .slice Ao34 t220.length co34] 84 (0, 0))) := ⟨(by rw [hw]; exact (by (with_reducible repeat (first | refine qi ?_ _ | refine qk ?_ | refine qh ?_ _)); refine qq (cs := #[.string t214, .string t215, .string t216, .slice Ao33 t217.length co33, .slice none 0 0]) ?_ 4 _ rfl; (with_reducible repeat (first | refine qi ?_ _ | refine qk ?_ | refine qh ?_ _)); refine qq (cs := #[.string t214, .string t215, .string t216, .slice none 0 0, .slice none 0 0]) ?_ 3 _ rfl; (with_reducible repeat (first | refine qi ?_ _ | refine qk ?_ | refine qh ?_ _)); refine qq (cs := #[.string t214, .string t215, .string (⟨#[]⟩ : ByteArray), .slice none 0 0, .slice none 0 0]) ?_ 2 _ rfl; (with_reducible repeat (first | refine qi ?_ _ | refine qk ?_ | refine qh ?_ _)); refine qq (cs := #[.string t214, .string (⟨#[]⟩ : ByteArray), .string (⟨#[]⟩ : ByteArray), .slice none 0 0, .slice none 0 0]) ?_ 1 _ rfl; (with_reducible repeat (first | refine qi ?_ _ | refine qk ?_ | refine qh ?_ _)); refine qq (cs := #[.string (⟨#[]⟩ : ByteArray), .string (⟨#[]⟩ : ByteArray), .string (⟨#[]⟩ : ByteArray), .slice none 0 0, .slice none 0 0]) ?_ 0 _ rfl; (with_reducible repeat (first | refine qi ?_ _ | refine qk ?_ | refine qh ?_ _)); exact BK213.out))⟩; have n8_ : qa (Below w.heap.size w w35) := ⟨(by rw [hw]; exact zz99)⟩; clear hw; clear HO_212003; clear HO_212004; clear HO219; clear HO222; clear BK205; clear BK207; clear BK211; clear BK213; clear HB; have HO_212003 := n0_; have HO_212004 := n1_; have HO219 := n2_; have HO222 := n3_; have BK205 := n4_; have BK207 := n5_; have BK211 := n6_; have BK213 := n7_; have HB := n8_; clear n0_ n1_ n2_ n3_ n4_ n5_ n6_ n7_ n8_; have hnb36 := NB211_205.out; have hnc36 := NB205_211.out; have hnb37 := NB211_207.out; have hnc37 := NB207_211.out; have hcz38_0 : w35.cell? ⟨gb211, 0, none⟩ = some (.string ((qe l0 a1).f2)) := (qg BK211.out 0).trans rfl; have hcz38_1 : w35.cell? ⟨gb211, 1, none⟩ = some (.string ((qe l0 a1).f3)) := (qg BK211.out 1).trans rfl; have hcz38_2 : w35.cell? ⟨gb211, 2, none⟩ = some (.string ((qe l0 a1).f4)) := (qg BK211.out 2).trans rfl; have hcz38_3 : w35.cell? ⟨gb211, 3, none⟩ = some (.slice Ao16 t208.length co16) := (qg BK211.out 3).trans rfl; have hcz38_4 : w35.cell? ⟨gb211, 4, none⟩ = some (u212004) := (qg BK211.out 4).trans rfl; have hfz38_0 := qf BK211.out 0; have hfz38_1 := qf BK211.out 1; have hfz38_2 := qf BK211.out 2; have hfz38_3 := qf BK211.out 3; have hfz38_4 := qf BK211.out 4; have hcz39_0 : w35.cell? ⟨gb213, 0, none⟩ = some (.string t214) := (qg BK213.out 0).trans rfl; have hcz39_1 : w35.cell? ⟨gb213, 1, none⟩ = some (.string t215) := (qg BK213.out 1).trans rfl; have hcz39_2 : w35.cell? ⟨gb213, 2, none⟩ = some (.string t216) := (qg BK213.out 2).trans rfl; have hcz39_3 : w35.cell? ⟨gb213, 3, none⟩ = some (.slice Ao33 t217.length co33) := (qg BK213.out 3).trans rfl; have hcz39_4 : w35.cell? ⟨gb213, 4, none⟩ = some (.slice Ao34 t220.length co34) := (qg BK213.out 4).trans rfl; have hfz39_0 := qf BK213.out 0; have hfz39_1 := qf BK213.out 1; have hfz39_2 := qf BK213.out 2; have hfz39_3 := qf BK213.out 3; have hfz39_4 := qf BK213.out 4) | ((with_reducible refine gate_builtin (b := .append) (xs := #[.tmp 47, .tmp 49]) rfl ?_); at_builtin; refine Kd.R_append k84 (w0 := w) w.heap.size rfl (.tmp 47) (.tmp 49) 82 84 (.agg #[(.string ⟨#[]⟩), (.string ⟨#[]⟩), (.string ⟨#[]⟩), (.slice none 0 0), (.slice none 0 0)]) 96 rfl Tryd.underlying82 info84 rfl (by decide) (by omega) u212004 x212004_1 (⟨t214, t215, t216, t217, t220⟩ : S84) [.string t214, .string t215, .string t216, .slice Ao33 t217.length co33, .slice Ao34 t220.length co34] (fun k_ => some k_ ≠ (.slice Ao16 t208.length co16 : Value).ownBlock ∧ k_ ≠ gb205 ∧ k_ ≠ gb211 ∧ k_ ≠ gb213) (fun k_ => ((fun k_ => some k_ ≠ (.slice Ao16 t208.length co16 : Value).ownBlock ∧ k_ ≠ gb205 ∧ k_ ≠ gb211 ∧ k_ ≠ gb213)) k_ ∧ some k_ ≠ (u212004 : Value).ownBlock) rfl rfl ?aP (fun _ hk => hk) ?aF ?aO ?aB ?aS ?aL ?_; (case aP => exact k84_mkM _ _ _ (⟨t214, t215, t216, t217, t220⟩ : S84) (Kd.R_mono (Kd.R_types (Kd.R_types (Kd.R_types (Kd.R_apart' (HO219.out) (Kd.R_typed HO_212004.out) (by decide)) BK205.out (by decide)) BK211.out (by decide)) BK213.out (by decide)) (fun k_ hk => ⟨⟨hk.1.1.1.1, ⟨hk.1.1.2, ⟨hk.1.2, hk.2⟩⟩⟩, hk.1.1.1.2⟩)) (Kd.R_mono (HO222.out) (fun k_ hk => ⟨⟨hk.1, ⟨hk.2.2.2.1, ⟨hk.2.2.2.2.1, hk.2.2.2.2.2⟩⟩⟩, hk.2.1⟩))); (case aB => exact zz99); (case aF => exact (fun k_ hk => ⟨Kd.fresh' (Kd.R_lt zz37) k_ hk, Kd.freshB (g := gb205) (o := .cells #[.string (⟨#[]⟩ : ByteArray), .string (⟨#[]⟩ : ByteArray), .string (⟨#[]⟩ : ByteArray), .slice none 0 0, .slice none 0 0] 84 (0, 0)) zz20 k_ hk, Kd.freshB (g := gb211) (o := .cells #[.string ((qe l0 a1).f2), .string ((qe l0 a1).f3), .string ((qe l0 a1).f4), .slice Ao16 t208.length co16, u212004] 84 (0, 0)) zz22 k_ hk, Kd.freshB (g := gb213) (o := .cells #[.string t214, .string t215, .string t216, .slice Ao33 t217.length co33, .slice Ao34 t220.length co34] 84 (0, 0)) zz23 k_ hk⟩)); (case aO => exact (by (with_reducible repeat (first | apply Kd.R_alloc | apply Kd.R_drewN | apply Kd.R_drew)); exact Kd.R_mono HO_212004.out (fun _ hk => ⟨hk.1, ⟨hk.2.2.2.1, ⟨hk.2.2.2.2.1, hk.2.2.2.2.2⟩⟩⟩))); (case aS => exact (ql zz99)); (case aL => have := LMc26.out; omega); intro v225 w40 ho hb hg hat; rw [← Ny224.out] at ho; have n0_ := qa.mk (Kd.R_over' zz37 (Kd.R_typed zz38) (by decide) hg); have n1_ := qa.mk (blk_grown (g := gb205) (o := .cells #[.string (⟨#[]⟩ : ByteArray), .string (⟨#[]⟩ : ByteArray), .string (⟨#[]⟩ : ByteArray), .slice none 0 0, .slice none 0 0] 84 (0, 0)) zz20 hg (Kd.R_away HO_212004.out (fun _ hk => hk.2.2.2.1))); have n2_ := qa.mk (blk_grown (g := gb207) (o := .cells #[.int .i64 ((qe l0 a1).f0), .int .i64 ((qe l0 a1).f1), .string ((qe l0 a1).f2), .string ((qe l0 a1).f3), .string ((qe l0 a1).f4), .slice A206_5 ((qe l0 a1).f5).length c206_5] 46 (0, 0)) zz21 hg (Kd.R_ne HO_212004.out BK207.out (by decide))); have n3_ := qa.mk (blk_grown (g := gb211) (o := .cells #[.string ((qe l0 a1).f2), .string ((qe l0 a1).f3), .string ((qe l0 a1).f4), .slice Ao16 t208.length co16, u212004] 84 (0, 0)) zz22 hg (Kd.R_away HO_212004.out (fun _ hk => hk.2.2.2.2.1))); have n4_ := qa.mk (blk_grown (g := gb213) (o := .cells #[.string t214, .string t215, .string t216, .slice Ao33 t217.length co33, .slice Ao34 t220.length co34] 84 (0, 0)) zz23 hg (Kd.R_away HO_212004.out (fun _ hk => hk.2.2.2.2.2))); have n5_ := qa.mk (hb); have n6_ := qa.mk (ho); clear HO_212003; clear BK205; clear BK207; clear BK211; clear BK213; clear HB; clear HO_212004; clear HO219; clear HO222; have HO_212003 := n0_; have BK205 := n1_; have BK207 := n2_; have BK211 := n3_; have BK213 := n4_; have HB := n5_; have HO226 := n6_; clear n0_ n1_ n2_ n3_ n4_ n5_ n6_; clear ho hb hg hat; obtain ⟨Ao41, co41, eo41⟩ := Kd.R_slice HO226.out; subst eo41; have hcz42_0 : w40.cell? ⟨gb211, 0, none⟩ = some (.string ((qe l0 a1).f2)) := (qg BK211.out 0).trans rfl; have hcz42_1 : w40.cell? ⟨gb211, 1, none⟩ = some (.string ((qe l0 a1).f3)) := (qg BK211.out 1).trans rfl; have hcz42_2 : w40.cell? ⟨gb211, 2, none⟩ = some (.string ((qe l0 a1).f4)) := (qg BK211.out 2).trans rfl; have hcz42_3 : w40.cell? ⟨gb211, 3, none⟩ = some (.slice Ao16 t208.length co16) := (qg BK211.out 3).trans rfl; have hcz42_4 : w40.cell? ⟨gb211, 4, none⟩ = some (u212004) := (qg BK211.out 4).trans rfl; have hfz42_0 := qf BK211.out 0; have hfz42_1 := qf BK211.out 1; have hfz42_2 := qf BK211.out 2; have hfz42_3 := qf BK211.out 3; have hfz42_4 := qf BK211.out 4))
         go_roundg k1
         case measure => have := HK1.out; omega
         case rel => exact ⟨(t223), (y224), (.slice Ao41 y224.length co41), zz6, H', ⟨zz1⟩, ⟨by (with_reducible repeat (first | apply Kd.R_alloc | apply Kd.R_drewN | apply Kd.R_drew)); exact Kd.R_mono (Kd.R_far (p := ⟨gb211, 4, none⟩) (Kd.R_types HO_212003.out BK211.out (by decide)) (fun _ hk => hk.2) (.slice Ao41 y224.length co41)) (fun _ hk => trivial)⟩, ⟨by (with_reducible repeat (first | apply Kd.R_alloc | apply Kd.R_drewN | apply Kd.R_drew)); exact Kd.R_mono (Kd.R_far (p := ⟨gb211, 4, none⟩) (Kd.R_mono HO226.out (fun k_ hk => (⟨hk, hk.2.2.1⟩ : _ ∧ k_ ≠ gb211))) (fun _ hk => hk.2) (.slice Ao41 y224.length co41)) (fun _ hk => ⟨hk.1.1, ⟨hk.1.2.1, hk.1.2.2.1⟩⟩)⟩, ⟨by (with_reducible repeat (first | refine qi ?_ _ | refine qk ?_ | refine qh ?_ _)); refine qkb ?_ NB205_211.out _; (with_reducible repeat (first | refine qi ?_ _ | refine qk ?_ | refine qh ?_ _)); exact BK205.out⟩, ⟨by (with_reducible repeat (first | refine qi ?_ _ | refine qk ?_ | refine qh ?_ _)); refine qkb ?_ NB207_211.out _; (with_reducible repeat (first | refine qi ?_ _ | refine qk ?_ | refine qh ?_ _)); exact BK207.out⟩, ⟨by (with_reducible repeat (first | refine qi ?_ _ | refine qk ?_ | refine qh ?_ _)); refine qq (cs := #[.string ((qe l0 a1).f2), .string ((qe l0 a1).f3), .string ((qe l0 a1).f4), .slice Ao16 t208.length co16, u212004]) ?_ 4 _ rfl; (with_reducible repeat (first | refine qi ?_ _ | refine qk ?_ | refine qh ?_ _)); exact BK211.out⟩, ⟨zz99⟩⟩
        ·rw [if_neg c26] at H
         exact absurd H (by simp)
       ·rw [if_neg c24] at H
        have c24b0 : (((qe l0 x8_1).f1) == (wrap64 (a1 + 1))) = false := beq_eq_false_iff_ne.mpr c24
        have c24b1 : (((qe l0 x8_1).f1) != (wrap64 (a1 + 1))) = true := bne_iff_ne.mpr c24
        simp only [Option.some.injEq, Prod.mk.injEq] at H
        obtain ⟨rfl, rfl, rfl, rfl, rfl, rfl⟩ := H
        have p212 : 0 ≤ (x8_1 : Int) := of_decide_eq_true zz7
        have q212 : x8_1 < (l0.length : Int) := of_decide_eq_true zz7
        obtain ⟨ad212, A212_5, c212_5, e212, hx212_0, hx212_1, hx212_2, hx212_3, hx212_4, hx212_5, hl212_5, hi212_5⟩ := at_T46 HR0.out x8_1 p212 q212
        obtain rfl : ad206 = ad212 := (by injection e212)
        replace hx212_0 := (HB.out.cell (qic w _ hx212_0)).trans hx212_0
        replace hx212_1 := (HB.out.cell (qic w _ hx212_1)).trans hx212_1
        replace hx212_2 := (HB.out.cell (qic w _ hx212_2)).trans hx212_2
        replace hx212_3 := (HB.out.cell (qic w _ hx212_3)).trans hx212_3
        replace hx212_4 := (HB.out.cell (qic w _ hx212_4)).trans hx212_4
        replace hx212_5 := (HB.out.cell (qic w _ hx212_5)).trans hx212_5
        have HR212_5 := qa.mk hi212_5
        have HC212_5 := qa.mk hl212_5
        clear hi212_5 hl212_5
        replace p212 := eq_true p212
        replace q212 := eq_true q212
        have hnb43 := NB211_205.out
        have hnc43 := NB205_211.out
        have hnb44 := NB211_207.out
        have hnc44 := NB207_211.out
        have hcz45_0 : wr.cell? ⟨gb211, 0, none⟩ = some (.string ((qe l0 a1).f2)) := (qg BK211.out 0).trans rfl
        have hcz45_1 : wr.cell? ⟨gb211, 1, none⟩ = some (.string ((qe l0 a1).f3)) := (qg BK211.out 1).trans rfl
        have hcz45_2 : wr.cell? ⟨gb211, 2, none⟩ = some (.string ((qe l0 a1).f4)) := (qg BK211.out 2).trans rfl
        have hcz45_3 : wr.cell? ⟨gb211, 3, none⟩ = some (.slice Ao16 t208.length co16) := (qg BK211.out 3).trans rfl
        have hcz45_4 : wr.cell? ⟨gb211, 4, none⟩ = some (u212004) := (qg BK211.out 4).trans rfl
        have hfz45_0 := qf BK211.out 0
        have hfz45_1 := qf BK211.out 1
        have hfz45_2 := qf BK211.out 2
        have hfz45_3 := qf BK211.out 3
        have hfz45_4 := qf BK211.out 4
        have hnb46 := NB205_207.out
        have hnc46 := NB207_205.out
        have hcz47_0 : wr.cell? ⟨gb205, 0, none⟩ = some (.string (⟨#[]⟩ : ByteArray)) := (qg BK205.out 0).trans rfl
        have hcz47_1 : wr.cell? ⟨gb205, 1, none⟩ = some (.string (⟨#[]⟩ : ByteArray)) := (qg BK205.out 1).trans rfl
        have hcz47_2 : wr.cell? ⟨gb205, 2, none⟩ = some (.string (⟨#[]⟩ : ByteArray)) := (qg BK205.out 2).trans rfl
        have hcz47_3 : wr.cell? ⟨gb205, 3, none⟩ = some (.slice none 0 0) := (qg BK205.out 3).trans rfl
        have hcz47_4 : wr.cell? ⟨gb205, 4, none⟩ = some (.slice none 0 0) := (qg BK205.out 4).trans rfl
        have hfz47_0 := qf BK205.out 0
        have hfz47_1 := qf BK205.out 1
        have hfz47_2 := qf BK205.out 2
        have hfz47_3 := qf BK205.out 3
        have hfz47_4 := qf BK205.out 4
        obtain ⟨Ao48, co48, eo48⟩ := Kd.R_slice HO_212004.out
        subst eo48
        go_wp2
        refine bodyPost_ret (results_ct rfl _ _ gb205 84 #[.string ((qe l0 a1).f2), .string ((qe l0 a1).f3), .string ((qe l0 a1).f4), .slice Ao16 t208.length co16, .slice Ao48 x212004_1.length co48] (0, 0) _ rfl zz123 Tryd.underlying84 rfl (by kernel_rfl)) rfl ?_
        exact ⟨_, _, zz65, by (with_reducible repeat (first | apply Kd.R_alloc | apply Kd.R_drewN | apply Kd.R_drew)); exact Kd.R_mono (Kd.R_far (p := ⟨gb205, 4, none⟩) (Kd.R_far (p := ⟨gb205, 3, none⟩) (Kd.R_far (p := ⟨gb205, 2, none⟩) (Kd.R_far (p := ⟨gb205, 1, none⟩) (Kd.R_far (p := ⟨gb205, 0, none⟩) (Kd.R_types HO_212003.out BK205.out (by decide)) (fun _ hk => hk.2) (.string ((qe l0 a1).f2))) (fun _ hk => hk.2) (.string ((qe l0 a1).f3))) (fun _ hk => hk.2) (.string ((qe l0 a1).f4))) (fun _ hk => hk.2) (.slice Ao16 t208.length co16)) (fun _ hk => hk.2) (.slice Ao48 x212004_1.length co48)) (fun _ hk => trivial), by (with_reducible repeat (first | apply Kd.R_alloc | apply Kd.R_drewN | apply Kd.R_drew)); exact Kd.R_mono (Kd.R_far (p := ⟨gb205, 4, none⟩) (Kd.R_far (p := ⟨gb205, 3, none⟩) (Kd.R_far (p := ⟨gb205, 2, none⟩) (Kd.R_far (p := ⟨gb205, 1, none⟩) (Kd.R_far (p := ⟨gb205, 0, none⟩) (Kd.R_mono HO_212004.out (fun k_ hk => (⟨hk, hk.2.1⟩ : _ ∧ k_ ≠ gb205))) (fun _ hk => hk.2) (.string ((qe l0 a1).f2))) (fun _ hk => hk.2) (.string ((qe l0 a1).f3))) (fun _ hk => hk.2) (.string ((qe l0 a1).f4))) (fun _ hk => hk.2) (.slice Ao16 t208.length co16)) (fun _ hk => hk.2) (.slice Ao48 x212004_1.length co48)) (fun _ hk => hk.1.1), zz92⟩
      ·rw [if_neg c23] at H
       exact absurd H (by simp)
     ·rw [if_neg c22] at H
      have c22b0 : decide (x8_1 < (l0.length : Int)) = false := decide_eq_false c22
      clear c22
      simp only [Option.some.injEq, Prod.mk.injEq] at H
      obtain ⟨rfl, rfl, rfl, rfl, rfl, rfl⟩ := H
      have hnb49 := NB211_205.out
      have hnc49 := NB205_211.out
      have hnb50 := NB211_207.out
      have hnc50 := NB207_211.out
      have hcz51_0 : wr.cell? ⟨gb211, 0, none⟩ = some (.string ((qe l0 a1).f2)) := (qg BK211.out 0).trans rfl
      have hcz51_1 : wr.cell? ⟨gb211, 1, none⟩ = some (.string ((qe l0 a1).f3)) := (qg BK211.out 1).trans rfl
      have hcz51_2 : wr.cell? ⟨gb211, 2, none⟩ = some (.string ((qe l0 a1).f4)) := (qg BK211.out 2).trans rfl
      have hcz51_3 : wr.cell? ⟨gb211, 3, none⟩ = some (.slice Ao16 t208.length co16) := (qg BK211.out 3).trans rfl
      have hcz51_4 : wr.cell? ⟨gb211, 4, none⟩ = some (u212004) := (qg BK211.out 4).trans rfl
      have hfz51_0 := qf BK211.out 0
      have hfz51_1 := qf BK211.out 1
      have hfz51_2 := qf BK211.out 2
      have hfz51_3 := qf BK211.out 3
      have hfz51_4 := qf BK211.out 4
      have hnb52 := NB205_207.out
      have hnc52 := NB207_205.out
      have hcz53_0 : wr.cell? ⟨gb205, 0, none⟩ = some (.string (⟨#[]⟩ : ByteArray)) := (qg BK205.out 0).trans rfl
      have hcz53_1 : wr.cell? ⟨gb205, 1, none⟩ = some (.string (⟨#[]⟩ : ByteArray)) := (qg BK205.out 1).trans rfl
      have hcz53_2 : wr.cell? ⟨gb205, 2, none⟩ = some (.string (⟨#[]⟩ : ByteArray)) := (qg BK205.out 2).trans rfl
      have hcz53_3 : wr.cell? ⟨gb205, 3, none⟩ = some (.slice none 0 0) := (qg BK205.out 3).trans rfl
      have hcz53_4 : wr.cell? ⟨gb205, 4, none⟩ = some (.slice none 0 0) := (qg BK205.out 4).trans rfl
      have hfz53_0 := qf BK205.out 0
      have hfz53_1 := qf BK205.out 1
      have hfz53_2 := qf BK205.out 2
      have hfz53_3 := qf BK205.out 3
      have hfz53_4 := qf BK205.out 4
      obtain ⟨Ao54, co54, eo54⟩ := Kd.R_slice HO_212004.out
      subst eo54
      go_wp2
      refine bodyPost_ret (results_ct rfl _ _ gb205 84 #[.string ((qe l0 a1).f2), .string ((qe l0 a1).f3), .string ((qe l0 a1).f4), .slice Ao16 t208.length co16, .slice Ao54 x212004_1.length co54] (0, 0) _ rfl zz123 Tryd.underlying84 rfl (by kernel_rfl)) rfl ?_
      exact ⟨_, _, zz65, by (with_reducible repeat (first | apply Kd.R_alloc | apply Kd.R_drewN | apply Kd.R_drew)); exact Kd.R_mono (Kd.R_far (p := ⟨gb205, 4, none⟩) (Kd.R_far (p := ⟨gb205, 3, none⟩) (Kd.R_far (p := ⟨gb205, 2, none⟩) (Kd.R_far (p := ⟨gb205, 1, none⟩) (Kd.R_far (p := ⟨gb205, 0, none⟩) (Kd.R_types HO_212003.out BK205.out (by decide)) (fun _ hk => hk.2) (.string ((qe l0 a1).f2))) (fun _ hk => hk.2) (.string ((qe l0 a1).f3))) (fun _ hk => hk.2) (.string ((qe l0 a1).f4))) (fun _ hk => hk.2) (.slice Ao16 t208.length co16)) (fun _ hk => hk.2) (.slice Ao54 x212004_1.length co54)) (fun _ hk => trivial), by (with_reducible repeat (first | apply Kd.R_alloc | apply Kd.R_drewN | apply Kd.R_drew)); exact Kd.R_mono (Kd.R_far (p := ⟨gb205, 4, none⟩) (Kd.R_far (p := ⟨gb205, 3, none⟩) (Kd.R_far (p := ⟨gb205, 2, none⟩) (Kd.R_far (p := ⟨gb205, 1, none⟩) (Kd.R_far (p := ⟨gb205, 0, none⟩) (Kd.R_mono HO_212004.out (fun k_ hk => (⟨hk, hk.2.1⟩ : _ ∧ k_ ≠ gb205))) (fun _ hk => hk.2) (.string ((qe l0 a1).f2))) (fun _ hk => hk.2) (.string ((qe l0 a1).f3))) (fun _ hk => hk.2) (.string ((qe l0 a1).f4))) (fun _ hk => hk.2) (.slice Ao16 t208.length co16)) (fun _ hk => hk.2) (.slice Ao54 x212004_1.length co54)) (fun _ hk => hk.1.1), zz92⟩
  ·rw [if_neg c4] at H
   exact absurd H (by simp)
 ·rw [if_neg c3] at H
  exact absurd H (by simp)
mutual
def qr.l0 : Nat → List (S48) → List (S48) → Int → Int → Option (Int × Int)
 | 0, _, _, _, _ => none
 | k + 1, x0, x7, x8, x9 => if x9 < x8 then (if 0 ≤ x9 then (if x9 < (x7.length : Int) then (if x9 = 64 then (some (x9, 12)) else ((qac.f k ((qy x7 x9).f0)).bind fun t229 => (if t229 = true then ((qnb.f ((qy x7 x9).f1)).bind fun t230 => (if t230 = true then (if x9 > 0 then (if 0 ≤ (wrap64 (x9 - 1)) then (if (wrap64 (x9 - 1)) < (x0.length : Int) then (qr.j1 k x0 x9 0 x7 x8 x9 (((qy x0 (wrap64 (x9 - 1))).f0).toList == ((qy x7 x9).f0).toList) ((qy x7 x9).f0) ((qy x7 x9).f1)) else (none)) else (none)) else (qr.j1 k x0 x9 0 x7 x8 x9 false ((qy x7 x9).f0) ((qy x7 x9).f1))) else (some (x9, 3)))) else (some (x9, 8))))) else (none)) else (none)) else (some (0, 0))
def qr.j1 : Nat → List (S48) → Int → Int → List (S48) → Int → Int → Bool → ByteArray → ByteArray → Option (Int × Int)
 | 0, _, _, _, _, _, _, _, _, _ => none
 | k + 1, x0, x4, x6, x7, x8, x9, x27, x229000, x229001 => if x27 = true then (some (x4, 10)) else (if x4 > 0 then (if 0 ≤ (wrap64 (x4 - 1)) then (if (wrap64 (x4 - 1)) < (x0.length : Int) then (qr.j2 k x0 x4 x6 x7 x8 x9 (!(Op.bytesLess (((qy x0 (wrap64 (x4 - 1))).f0).toList) x229000.toList || (((qy x0 (wrap64 (x4 - 1))).f0).toList) == x229000.toList))) else (none)) else (none)) else (qr.j2 k x0 x4 x6 x7 x8 x9 false))
def qr.j2 : Nat → List (S48) → Int → Int → List (S48) → Int → Int → Bool → Option (Int × Int)
 | 0, _, _, _, _, _, _, _ => none
 | k + 1, x0, x4, x6, x7, x8, x9, x41 => if x41 = true then (some (x4, 9)) else (if x6 = 0 then (qr.l0 k x0 x7 x8 (wrap64 (x9 + 1))) else (some (x4, x6)))
end
def qr.f (k : Nat) (l0 : List (S48)) : Option (Int × Int) := qr.l0 k l0 l0 (l0.length : Int) 0
theorem qr.mono_l : ∀ k, (∀ y0 y1 y2 y3, LeO (qr.l0 k y0 y1 y2 y3) (qr.l0 (k + 1) y0 y1 y2 y3)) ∧ (∀ y0 y1 y2 y3 y4 y5 y6 y7 y8, LeO (qr.j1 k y0 y1 y2 y3 y4 y5 y6 y7 y8) (qr.j1 (k + 1) y0 y1 y2 y3 y4 y5 y6 y7 y8)) ∧ (∀ y0 y1 y2 y3 y4 y5 y6, LeO (qr.j2 k y0 y1 y2 y3 y4 y5 y6) (qr.j2 (k + 1) y0 y1 y2 y3 y4 y5 y6))
 | 0 => ⟨fun _ _ _ _ r h => by simp [qr.l0] at h, fun _ _ _ _ _ _ _ _ _ r h => by simp [qr.j1] at h, fun _ _ _ _ _ _ _ r h => by simp [qr.j2] at h⟩
 | k + 1 => by
  obtain ⟨ih0, ih1, ih2⟩ := qr.mono_l k
  refine ⟨?_, ?_, ?_⟩
  ·intro y0 y1 y2 y3
   unfold qr.l0
   repeat' first
   | (with_reducible exact ih0 _ _ _ _)
   | (with_reducible exact ih1 _ _ _ _ _ _ _ _ _)
   | (with_reducible exact ih2 _ _ _ _ _ _ _)
   | (with_reducible exact qac.mono _ _)
   | (with_reducible exact LeO.refl _)
   | (with_reducible exact LeO.none _)
   | (with_reducible refine LeO.ite ?_ ?_)
   | (with_reducible refine LeO.bind ?_ (fun _ => ?_))
   | exact ih0 _ _ _ _
   | exact ih1 _ _ _ _ _ _ _ _ _
   | exact ih2 _ _ _ _ _ _ _
   | exact qac.mono _ _
   | exact LeO.none _
   | refine LeO.ite ?_ ?_
   | refine LeO.bind ?_ (fun _ => ?_)
  ·intro y0 y1 y2 y3 y4 y5 y6 y7 y8
   unfold qr.j1
   repeat' first
   | (with_reducible exact ih0 _ _ _ _)
   | (with_reducible exact ih1 _ _ _ _ _ _ _ _ _)
   | (with_reducible exact ih2 _ _ _ _ _ _ _)
   | (with_reducible exact qac.mono _ _)
   | (with_reducible exact LeO.refl _)
   | (with_reducible exact LeO.none _)
   | (with_reducible refine LeO.ite ?_ ?_)
   | (with_reducible refine LeO.bind ?_ (fun _ => ?_))
   | exact ih0 _ _ _ _
   | exact ih1 _ _ _ _ _ _ _ _ _
   | exact ih2 _ _ _ _ _ _ _
   | exact qac.mono _ _
   | exact LeO.none _
   | refine LeO.ite ?_ ?_
   | refine LeO.bind ?_ (fun _ => ?_)
  ·intro y0 y1 y2 y3 y4 y5 y6
   unfold qr.j2
   repeat' first
   | (with_reducible exact ih0 _ _ _ _)
   | (with_reducible exact ih1 _ _ _ _ _ _ _ _ _)
   | (with_reducible exact ih2 _ _ _ _ _ _ _)
   | (with_reducible exact qac.mono _ _)
   | (with_reducible exact LeO.refl _)
   | (with_reducible exact LeO.none _)
   | (with_reducible refine LeO.ite ?_ ?_)
   | (with_reducible refine LeO.bind ?_ (fun _ => ?_))
   | exact ih0 _ _ _ _
   | exact ih1 _ _ _ _ _ _ _ _ _
   | exact ih2 _ _ _ _ _ _ _
   | exact qac.mono _ _
   | exact LeO.none _
   | refine LeO.ite ?_ ?_
   | refine LeO.bind ?_ (fun _ => ?_)
theorem qr.mono : ∀ a0 k, LeO (qr.f k a0) (qr.f (k + 1) a0) := by
 intro a0 k
 obtain ⟨ih0, ih1, ih2⟩ := qr.mono_l k
 unfold qr.f
 repeat' first
   | (with_reducible exact ih0 _ _ _ _)
   | (with_reducible exact ih1 _ _ _ _ _ _ _ _ _)
   | (with_reducible exact ih2 _ _ _ _ _ _ _)
   | (with_reducible exact qac.mono _ _)
   | (with_reducible exact LeO.refl _)
   | (with_reducible exact LeO.none _)
   | (with_reducible refine LeO.ite ?_ ?_)
   | (with_reducible refine LeO.bind ?_ (fun _ => ?_))
   | exact ih0 _ _ _ _
   | exact ih1 _ _ _ _ _ _ _ _ _
   | exact ih2 _ _ _ _ _ _ _
   | exact qac.mono _ _
   | exact LeO.none _
   | refine LeO.ite ?_ ?_
   | refine LeO.bind ?_ (fun _ => ?_)
set_option maxHeartbeats 8000000 in
set_option maxRecDepth 100000 in
theorem qr.calls (k : Nat) (A0 : Option Addr) (c0 : Nat) (l0 : List (S48)) (r1 : Int) (r2 : Int) (w : World) (hr0 : Kd.C k48 w A0 l0.length l0) (hc0 : l0.length ≤ c0) (h : qr.f k l0 = some (r1, r2)) :
  Calls Tryd.prog 78 #[.slice A0 l0.length c0] w fun e w' => e = .returned (.tuple #[.int .i64 r1, .int .i64 r2]) ∧ Below w.heap.size w w' := by
 have hu48 := Tryd.underlying48
 have HR0 := qa.mk hr0
 have HC0 := qa.mk hc0
 clear hr0 hc0
 have HB := qa.mk (Below.refl w.heap.size w)
 have H : (qr.l0 k l0 l0 (l0.length : Int) 0) = some (r1, r2) := h
 clear h
 have H' := qa.mk H
 clear H
 go_enter Tryd.func78, Tryd.ntmps78
 go_wp2
 repeat (go_quiet (fail); try go_wp2)
 go_loopg [9] k (fun kq v9 w' => ∃ (x9_1 : Int), v9 = .int .i64 x9_1 ∧ qa (qr.l0 kq l0 l0 (l0.length : Int) x9_1 = some (r1, r2)) ∧ qa (kq ≤ k) ∧ qa (Below w.heap.size w w'))
 case atStart => exact ⟨(0), zz6, H', ⟨Nat.le_refl _⟩, ⟨zz24⟩⟩
 case round =>
  clear H'
  obtain ⟨x9_1, rfl, HA, HK1, HB⟩ := hrel
  cases gk with
  | zero => exact absurd HA.out (by simp [qr.l0])
  | succ k1 =>
   have H := HA.out
   clear HA
   simp only [qr.l0] at H
   by_cases c2 : x9_1 < (l0.length : Int)
   ·rw [if_pos c2] at H
    have c2b0 : decide (x9_1 < (l0.length : Int)) = true := decide_eq_true c2
    clear c2
    by_cases c3 : 0 ≤ x9_1
    ·rw [if_pos c3] at H
     have c3b0 : decide (0 ≤ x9_1) = true := decide_eq_true c3
     clear c3
     by_cases c4 : x9_1 < (l0.length : Int)
     ·rw [if_pos c4] at H
      have c4b0 : decide (x9_1 < (l0.length : Int)) = true := decide_eq_true c4
      clear c4
      by_cases c5 : x9_1 = 64
      ·rw [if_pos c5] at H
       have c5b0 : (x9_1 == 64) = true := beq_iff_eq.mpr c5
       have c5b1 : (x9_1 != 64) = false := bne_eq_false_iff_eq.mpr c5
       clear c5
       simp only [Option.some.injEq, Prod.mk.injEq] at H
       obtain ⟨rfl, rfl⟩ := H
       have p227 : 0 ≤ (x9_1 : Int) := of_decide_eq_true zz7
       have q227 : x9_1 < (l0.length : Int) := of_decide_eq_true zz7
       obtain ⟨ad227, e227, hx227_0, hx227_1⟩ := at_T48 HR0.out x9_1 p227 q227
       cases e227
       replace hx227_0 := (HB.out.cell (qic w _ hx227_0)).trans hx227_0
       replace hx227_1 := (HB.out.cell (qic w _ hx227_1)).trans hx227_1
       replace p227 := eq_true p227
       replace q227 := eq_true q227
       go_wp2_with (first | ((with_reducible refine qeb (N := 5) rfl ?_); refine qib ?hg (N := 5) ?hd (cs := #[.string (⟨#[]⟩ : ByteArray), .string (⟨#[]⟩ : ByteArray)]) (t := 48) ?hr ?_; (case hd => rfl); (case hg => rfl); (case hr => exact zz5); intro gb228 hg w6 hbox hb; have n0_ := qa.mk (qm zz24 hb); have n1_ := qa.mk (hbox); have n2_ := qa.mk ((by rw [hg]; exact (ql zz24) : w.heap.size ≤ gb228)); have n3_ := qa.mk ((by rw [hg]; exact (ql zz24) : w.heap.size ≤ gb228)); clear HB; have HB := n0_; have BK228 := n1_; have GW228 := n2_; have GE228 := n3_; clear n0_ n1_ n2_ n3_; clear hb hbox hg; have hcz7_0 : w6.cell? ⟨gb228, 0, none⟩ = some (.string (⟨#[]⟩ : ByteArray)) := (qg BK228.out 0).trans rfl; have hcz7_1 : w6.cell? ⟨gb228, 1, none⟩ = some (.string (⟨#[]⟩ : ByteArray)) := (qg BK228.out 1).trans rfl; have hfz7_0 := qf BK228.out 0; have hfz7_1 := qf BK228.out 1))
       repeat (go_quiet (first | ((with_reducible refine qeb (N := 5) rfl ?_); refine qib ?hg (N := 5) ?hd (cs := #[.string (⟨#[]⟩ : ByteArray), .string (⟨#[]⟩ : ByteArray)]) (t := 48) ?hr ?_; (case hd => rfl); (case hg => rfl); (case hr => exact zz5); intro gb228 hg w6 hbox hb; have n0_ := qa.mk (qm zz24 hb); have n1_ := qa.mk (hbox); have n2_ := qa.mk ((by rw [hg]; exact (ql zz24) : w.heap.size ≤ gb228)); have n3_ := qa.mk ((by rw [hg]; exact (ql zz24) : w.heap.size ≤ gb228)); clear HB; have HB := n0_; have BK228 := n1_; have GW228 := n2_; have GE228 := n3_; clear n0_ n1_ n2_ n3_; clear hb hbox hg; have hcz7_0 : w6.cell? ⟨gb228, 0, none⟩ = some (.string (⟨#[]⟩ : ByteArray)) := (qg BK228.out 0).trans rfl; have hcz7_1 : w6.cell? ⟨gb228, 1, none⟩ = some (.string (⟨#[]⟩ : ByteArray)) := (qg BK228.out 1).trans rfl; have hfz7_0 := qf BK228.out 0; have hfz7_1 := qf BK228.out 1)); try go_wp2_with (first | ((with_reducible refine qeb (N := 5) rfl ?_); refine qib ?hg (N := 5) ?hd (cs := #[.string (⟨#[]⟩ : ByteArray), .string (⟨#[]⟩ : ByteArray)]) (t := 48) ?hr ?_; (case hd => rfl); (case hg => rfl); (case hr => exact zz5); intro gb228 hg w6 hbox hb; have n0_ := qa.mk (qm zz24 hb); have n1_ := qa.mk (hbox); have n2_ := qa.mk ((by rw [hg]; exact (ql zz24) : w.heap.size ≤ gb228)); have n3_ := qa.mk ((by rw [hg]; exact (ql zz24) : w.heap.size ≤ gb228)); clear HB; have HB := n0_; have BK228 := n1_; have GW228 := n2_; have GE228 := n3_; clear n0_ n1_ n2_ n3_; clear hb hbox hg; have hcz7_0 : w6.cell? ⟨gb228, 0, none⟩ = some (.string (⟨#[]⟩ : ByteArray)) := (qg BK228.out 0).trans rfl; have hcz7_1 : w6.cell? ⟨gb228, 1, none⟩ = some (.string (⟨#[]⟩ : ByteArray)) := (qg BK228.out 1).trans rfl; have hfz7_0 := qf BK228.out 0; have hfz7_1 := qf BK228.out 1)))
       go_ret2
       exact ⟨zz65, zz50⟩
      ·rw [if_neg c5] at H
       have c5b0 : (x9_1 == 64) = false := beq_eq_false_iff_ne.mpr c5
       have c5b1 : (x9_1 != 64) = true := bne_iff_ne.mpr c5
       replace H := Option.bind_eq_some_iff.mp H
       obtain ⟨t229, A80, H⟩ := H
       replace H : (if t229 = true then ((qnb.f ((qy l0 x9_1).f1)).bind fun t230 => (if t230 = true then (if x9_1 > 0 then (if 0 ≤ (wrap64 (x9_1 - 1)) then (if (wrap64 (x9_1 - 1)) < (l0.length : Int) then (qr.j1 k1 l0 x9_1 0 l0 (l0.length : Int) x9_1 (((qy l0 (wrap64 (x9_1 - 1))).f0).toList == ((qy l0 x9_1).f0).toList) ((qy l0 x9_1).f0) ((qy l0 x9_1).f1)) else (none)) else (none)) else (qr.j1 k1 l0 x9_1 0 l0 (l0.length : Int) x9_1 false ((qy l0 x9_1).f0) ((qy l0 x9_1).f1))) else (some (x9_1, 3)))) else (some (x9_1, 8))) = some (r1, r2) := H
       have A8 := qa.mk A80
       clear A80
       by_cases c9 : t229 = true
       ·subst c9
        have H1 : ((qnb.f ((qy l0 x9_1).f1)).bind fun t230 => (if t230 = true then (if x9_1 > 0 then (if 0 ≤ (wrap64 (x9_1 - 1)) then (if (wrap64 (x9_1 - 1)) < (l0.length : Int) then (qr.j1 k1 l0 x9_1 0 l0 (l0.length : Int) x9_1 (((qy l0 (wrap64 (x9_1 - 1))).f0).toList == ((qy l0 x9_1).f0).toList) ((qy l0 x9_1).f0) ((qy l0 x9_1).f1)) else (none)) else (none)) else (qr.j1 k1 l0 x9_1 0 l0 (l0.length : Int) x9_1 false ((qy l0 x9_1).f0) ((qy l0 x9_1).f1))) else (some (x9_1, 3)))) = some (r1, r2) := by rw [if_pos rfl] at H; exact H
        clear H
        have H := H1
        clear H1
        replace H := Option.bind_eq_some_iff.mp H
        obtain ⟨t230, A100, H⟩ := H
        replace H : (if t230 = true then (if x9_1 > 0 then (if 0 ≤ (wrap64 (x9_1 - 1)) then (if (wrap64 (x9_1 - 1)) < (l0.length : Int) then (qr.j1 k1 l0 x9_1 0 l0 (l0.length : Int) x9_1 (((qy l0 (wrap64 (x9_1 - 1))).f0).toList == ((qy l0 x9_1).f0).toList) ((qy l0 x9_1).f0) ((qy l0 x9_1).f1)) else (none)) else (none)) else (qr.j1 k1 l0 x9_1 0 l0 (l0.length : Int) x9_1 false ((qy l0 x9_1).f0) ((qy l0 x9_1).f1))) else (some (x9_1, 3))) = some (r1, r2) := H
        have A10 := qa.mk A100
        clear A100
        by_cases c11 : t230 = true
        ·subst c11
         have H1 : (if x9_1 > 0 then (if 0 ≤ (wrap64 (x9_1 - 1)) then (if (wrap64 (x9_1 - 1)) < (l0.length : Int) then (qr.j1 k1 l0 x9_1 0 l0 (l0.length : Int) x9_1 (((qy l0 (wrap64 (x9_1 - 1))).f0).toList == ((qy l0 x9_1).f0).toList) ((qy l0 x9_1).f0) ((qy l0 x9_1).f1)) else (none)) else (none)) else (qr.j1 k1 l0 x9_1 0 l0 (l0.length : Int) x9_1 false ((qy l0 x9_1).f0) ((qy l0 x9_1).f1))) = some (r1, r2) := by rw [if_pos rfl] at H; exact H
         clear H
         have H := H1
         clear H1
         have HC12 := qa.mk H
         clear H
         have p227 : 0 ≤ (x9_1 : Int) := of_decide_eq_true zz7
         have q227 : x9_1 < (l0.length : Int) := of_decide_eq_true zz7
         obtain ⟨ad227, e227, hx227_0, hx227_1⟩ := at_T48 HR0.out x9_1 p227 q227
         cases e227
         replace hx227_0 := (HB.out.cell (qic w _ hx227_0)).trans hx227_0
         replace hx227_1 := (HB.out.cell (qic w _ hx227_1)).trans hx227_1
         replace p227 := eq_true p227
         replace q227 := eq_true q227
         go_upto_region 11 with (first | ((with_reducible refine qeb (N := 5) rfl ?_); refine qib ?hg (N := 5) ?hd (cs := #[.string (⟨#[]⟩ : ByteArray), .string (⟨#[]⟩ : ByteArray)]) (t := 48) ?hr ?_; (case hd => rfl); (case hg => rfl); (case hr => exact zz5); intro gb228 hg w13 hbox hb; have n0_ := qa.mk (qm zz24 hb); have n1_ := qa.mk (hbox); have n2_ := qa.mk ((by rw [hg]; exact (ql zz24) : w.heap.size ≤ gb228)); have n3_ := qa.mk ((by rw [hg]; exact (ql zz24) : w.heap.size ≤ gb228)); clear HB; have HB := n0_; have BK228 := n1_; have GW228 := n2_; have GE228 := n3_; clear n0_ n1_ n2_ n3_; clear hb hbox hg; have hcz14_0 : w13.cell? ⟨gb228, 0, none⟩ = some (.string (⟨#[]⟩ : ByteArray)) := (qg BK228.out 0).trans rfl; have hcz14_1 : w13.cell? ⟨gb228, 1, none⟩ = some (.string (⟨#[]⟩ : ByteArray)) := (qg BK228.out 1).trans rfl; have hfz14_0 := qf BK228.out 0; have hfz14_1 := qf BK228.out 1) | (go_at_call 47; (with_reducible refine (qac.calls k1 ((qy l0 x9_1).f0) true _ A8.out).mono ?_); rintro e w' ⟨rfl, ⟨nd, rfl⟩⟩; (try first | exact ⟨rfl, _, World.drewN_drewN _ _ _⟩ | exact ⟨rfl, _, Eq.trans (World.drewN_drewN _ _ _) (congrArg (World.drewN _) (Nat.add_assoc _ _ _))⟩)) | (go_at_call 44; (with_reducible refine (qnb.calls ((qy l0 x9_1).f1) true _ A10.out).mono ?_); rintro e w' ⟨rfl, ⟨nd, rfl⟩⟩; (try first | exact ⟨rfl, _, World.drewN_drewN _ _ _⟩ | exact ⟨rfl, _, Eq.trans (World.drewN_drewN _ _ _) (congrArg (World.drewN _) (Nat.add_assoc _ _ _))⟩)))
         repeat (go_quiet (first | ((with_reducible refine qeb (N := 5) rfl ?_); refine qib ?hg (N := 5) ?hd (cs := #[.string (⟨#[]⟩ : ByteArray), .string (⟨#[]⟩ : ByteArray)]) (t := 48) ?hr ?_; (case hd => rfl); (case hg => rfl); (case hr => exact zz5); intro gb228 hg w13 hbox hb; have n0_ := qa.mk (qm zz24 hb); have n1_ := qa.mk (hbox); have n2_ := qa.mk ((by rw [hg]; exact (ql zz24) : w.heap.size ≤ gb228)); have n3_ := qa.mk ((by rw [hg]; exact (ql zz24) : w.heap.size ≤ gb228)); clear HB; have HB := n0_; have BK228 := n1_; have GW228 := n2_; have GE228 := n3_; clear n0_ n1_ n2_ n3_; clear hb hbox hg; have hcz14_0 : w13.cell? ⟨gb228, 0, none⟩ = some (.string (⟨#[]⟩ : ByteArray)) := (qg BK228.out 0).trans rfl; have hcz14_1 : w13.cell? ⟨gb228, 1, none⟩ = some (.string (⟨#[]⟩ : ByteArray)) := (qg BK228.out 1).trans rfl; have hfz14_0 := qf BK228.out 0; have hfz14_1 := qf BK228.out 1) | (go_at_call 47; (with_reducible refine (qac.calls k1 ((qy l0 x9_1).f0) true _ A8.out).mono ?_); rintro e w' ⟨rfl, ⟨nd, rfl⟩⟩; (try first | exact ⟨rfl, _, World.drewN_drewN _ _ _⟩ | exact ⟨rfl, _, Eq.trans (World.drewN_drewN _ _ _) (congrArg (World.drewN _) (Nat.add_assoc _ _ _))⟩)) | (go_at_call 44; (with_reducible refine (qnb.calls ((qy l0 x9_1).f1) true _ A10.out).mono ?_); rintro e w' ⟨rfl, ⟨nd, rfl⟩⟩; (try first | exact ⟨rfl, _, World.drewN_drewN _ _ _⟩ | exact ⟨rfl, _, Eq.trans (World.drewN_drewN _ _ _) (congrArg (World.drewN _) (Nat.add_assoc _ _ _))⟩))); go_upto_region 11 with (first | ((with_reducible refine qeb (N := 5) rfl ?_); refine qib ?hg (N := 5) ?hd (cs := #[.string (⟨#[]⟩ : ByteArray), .string (⟨#[]⟩ : ByteArray)]) (t := 48) ?hr ?_; (case hd => rfl); (case hg => rfl); (case hr => exact zz5); intro gb228 hg w13 hbox hb; have n0_ := qa.mk (qm zz24 hb); have n1_ := qa.mk (hbox); have n2_ := qa.mk ((by rw [hg]; exact (ql zz24) : w.heap.size ≤ gb228)); have n3_ := qa.mk ((by rw [hg]; exact (ql zz24) : w.heap.size ≤ gb228)); clear HB; have HB := n0_; have BK228 := n1_; have GW228 := n2_; have GE228 := n3_; clear n0_ n1_ n2_ n3_; clear hb hbox hg; have hcz14_0 : w13.cell? ⟨gb228, 0, none⟩ = some (.string (⟨#[]⟩ : ByteArray)) := (qg BK228.out 0).trans rfl; have hcz14_1 : w13.cell? ⟨gb228, 1, none⟩ = some (.string (⟨#[]⟩ : ByteArray)) := (qg BK228.out 1).trans rfl; have hfz14_0 := qf BK228.out 0; have hfz14_1 := qf BK228.out 1) | (go_at_call 47; (with_reducible refine (qac.calls k1 ((qy l0 x9_1).f0) true _ A8.out).mono ?_); rintro e w' ⟨rfl, ⟨nd, rfl⟩⟩; (try first | exact ⟨rfl, _, World.drewN_drewN _ _ _⟩ | exact ⟨rfl, _, Eq.trans (World.drewN_drewN _ _ _) (congrArg (World.drewN _) (Nat.add_assoc _ _ _))⟩)) | (go_at_call 44; (with_reducible refine (qnb.calls ((qy l0 x9_1).f1) true _ A10.out).mono ?_); rintro e w' ⟨rfl, ⟨nd, rfl⟩⟩; (try first | exact ⟨rfl, _, World.drewN_drewN _ _ _⟩ | exact ⟨rfl, _, Eq.trans (World.drewN_drewN _ _ _) (congrArg (World.drewN _) (Nat.add_assoc _ _ _))⟩))))
         (try simp only [Act.put, List.setIfInBounds_toArray, List.set_cons_zero, List.set_cons_succ])
         go_cut [27] (fun v27 wc => ∃ (kq : Nat) (x27_11 : Bool), v27 = .bool x27_11 ∧ qa (qr.j1 kq l0 x9_1 0 l0 (l0.length : Int) x9_1 x27_11 ((qy l0 x9_1).f0) ((qy l0 x9_1).f1) = some (r1, r2)) ∧ qa (kq ≤ k1) ∧ qa (wc.heap[gb228]? = some (.cells #[.string ((qy l0 x9_1).f0), .string ((qy l0 x9_1).f1)] 48 (0, 0))) ∧ qa (Below w.heap.size w wc))
         case first =>
          have H := HC12.out
          clear HC12
          by_cases c15 : x9_1 > 0
          ·rw [if_pos c15] at H
           have c15b0 : decide (0 < x9_1) = true := decide_eq_true c15
           clear c15
           (first | rw [c15b0] | (simp only [i64_w, i32_w]; rw [c15b0]) | rw [c15b2] | skip)
           obtain ⟨ji16, hji16⟩ : ∃ j_ : Int, (wrap64 (x9_1 - 1)) = j_ := ⟨_, rfl⟩
           replace H : (if 0 ≤ (ji16) then (if (ji16) < (l0.length : Int) then (qr.j1 k1 l0 x9_1 0 l0 (l0.length : Int) x9_1 (((qy l0 (ji16)).f0).toList == ((qy l0 x9_1).f0).toList) ((qy l0 x9_1).f0) ((qy l0 x9_1).f1)) else (none)) else (none)) = some (r1, r2) := by first | (rw [hji16] at H; exact H) | (simp only [hji16] at H ⊢; exact H)
           have hji16w : (IntKind.i64.wrap (x9_1 - 1)) = ji16 := (i64_w _).trans hji16
           by_cases c17 : 0 ≤ (ji16)
           ·rw [if_pos c17] at H
            have c17b0 : decide (0 ≤ (ji16)) = true := decide_eq_true c17
            clear c17
            by_cases c18 : (ji16) < (l0.length : Int)
            ·rw [if_pos c18] at H
             have c18b0 : decide ((ji16) < (l0.length : Int)) = true := decide_eq_true c18
             clear c18
             have H' := qa.mk H
             clear H
             have p231 : 0 ≤ ((ji16) : Int) := of_decide_eq_true zz7
             have q231 : (ji16) < (l0.length : Int) := of_decide_eq_true zz7
             obtain ⟨ad231, e231, hx231_0, hx231_1⟩ := at_T48 HR0.out (ji16) p231 q231
             obtain rfl : ad227 = ad231 := (by injection e231)
             have hn231_0 : ad227.block ≠ gb228 := qkc (qjc (by have := qic _ _ hx231_0; first | rwa [add_block] at this | exact this) GW228.out)
             have hn231_1 : ad227.block ≠ gb228 := qkc (qjc (by have := qic _ _ hx231_0; first | rwa [add_block] at this | exact this) GW228.out)
             replace hx231_0 := (HB.out.cell (qic w _ hx231_0)).trans hx231_0
             replace hx231_1 := (HB.out.cell (qic w _ hx231_1)).trans hx231_1
             replace hx231_0 := (qdc (p := ⟨gb228, 0, none⟩) zz39 (.string ((qy l0 x9_1).f0))).trans hx231_0
             replace hx231_1 := (qdc (p := ⟨gb228, 0, none⟩) zz39 (.string ((qy l0 x9_1).f0))).trans hx231_1
             replace hx231_0 := (qdc (p := ⟨gb228, 1, none⟩) zz40 (.string ((qy l0 x9_1).f1))).trans hx231_0
             replace hx231_1 := (qdc (p := ⟨gb228, 1, none⟩) zz40 (.string ((qy l0 x9_1).f1))).trans hx231_1
             (try have hy231_0 := fun (n_ : Nat) => (show ((((w13.drewN n_).setCell ⟨gb228, 0, none⟩ (.string ((qy l0 x9_1).f0))).setCell ⟨gb228, 1, none⟩ (.string ((qy l0 x9_1).f1)))).cell? _ = some _ from hx231_0))
             (try have hy231_1 := fun (n_ : Nat) => (show ((((w13.drewN n_).setCell ⟨gb228, 0, none⟩ (.string ((qy l0 x9_1).f0))).setCell ⟨gb228, 1, none⟩ (.string ((qy l0 x9_1).f1)))).cell? _ = some _ from hx231_1))
             clear hn231_0
             clear hn231_1
             replace p231 := eq_true p231
             replace q231 := eq_true q231
             have hcz19_0 : w13.cell? ⟨gb228, 0, none⟩ = some (.string (⟨#[]⟩ : ByteArray)) := (qg BK228.out 0).trans rfl
             have hcz19_1 : w13.cell? ⟨gb228, 1, none⟩ = some (.string (⟨#[]⟩ : ByteArray)) := (qg BK228.out 1).trans rfl
             have hfz19_0 := qf BK228.out 0
             have hfz19_1 := qf BK228.out 1
             go_wp2
             repeat (go_quiet (fail); try go_wp2)
             go_meet
             case rel => exact ⟨_, ((((qy l0 (ji16)).f0).toList == ((qy l0 x9_1).f0).toList)), (by first | rfl | (simp; done) | (simp only [← hji16] <;> (first | rfl | simp)) | (simp [*]; done)), H', ⟨zz12⟩, ⟨zz107⟩, ⟨zz50⟩⟩
            ·rw [if_neg c18] at H
             exact absurd H (by simp)
           ·rw [if_neg c17] at H
            exact absurd H (by simp)
          ·rw [if_neg c15] at H
           have c15b0 : decide (0 < x9_1) = false := decide_eq_false c15
           clear c15
           (first | rw [c15b0] | (simp only [i64_w, i32_w]; rw [c15b0]) | rw [c15b2] | skip)
           have H' := qa.mk H
           clear H
           go_wp2
           repeat (go_quiet (fail); try go_wp2)
           go_meet
           case rel => exact ⟨_, (false), zz6, H', ⟨zz12⟩, ⟨zz107⟩, ⟨zz50⟩⟩
         case rest =>
          clear HC12
          try clear c1
          try clear c2
          try clear c2b0
          try clear p2
          try clear q2
          try clear hx2
          try clear c3
          try clear c3b0
          try clear c4
          try clear c4b0
          try clear c5
          try clear c5b0
          try clear c5b1
          try clear p6
          try clear c7
          try clear c9
          try clear c11
          try clear c15
          try clear c15b0
          try clear c15b2
          try clear c17
          try clear c17b0
          try clear c18
          try clear c18b0
          try clear hcz14_0
          try clear hcz14_1
          try clear hcz19_0
          try clear hcz19_1
          try clear hcz7_0
          try clear hcz7_1
          try clear hfz14_0
          try clear hfz14_1
          try clear hfz19_0
          try clear hfz19_1
          try clear hfz7_0
          try clear hfz7_1
          try clear hx227_0
          try clear hx227_1
          try clear hx231_0
          try clear hx231_1
          try clear p227
          try clear p231
          try clear q227
          try clear q231
          obtain ⟨kq, x27_11, rfl, HA, HJ11, BK228, HB⟩ := hcut
          cases kq with
          | zero => exact absurd HA.out (by simp [qr.j1])
          | succ kj11 =>
           have H := HA.out
           clear HA
           simp only [qr.j1] at H
           by_cases c20 : x27_11 = true
           ·subst c20
            have H1 : (some (x9_1, 10)) = some (r1, r2) := by rw [if_pos rfl] at H; exact H
            clear H
            have H := H1
            clear H1
            simp only [Option.some.injEq, Prod.mk.injEq] at H
            obtain ⟨rfl, rfl⟩ := H
            go_wp2
            repeat (go_quiet (fail); try go_wp2)
            go_ret2
            exact ⟨zz65, zz50⟩
           ·replace c20 := Bool.eq_false_iff.mpr c20
            subst c20
            have H1 : (if x9_1 > 0 then (if 0 ≤ (wrap64 (x9_1 - 1)) then (if (wrap64 (x9_1 - 1)) < (l0.length : Int) then (qr.j2 kj11 l0 x9_1 0 l0 (l0.length : Int) x9_1 (!(Op.bytesLess (((qy l0 (wrap64 (x9_1 - 1))).f0).toList) ((qy l0 x9_1).f0).toList || (((qy l0 (wrap64 (x9_1 - 1))).f0).toList) == ((qy l0 x9_1).f0).toList))) else (none)) else (none)) else (qr.j2 kj11 l0 x9_1 0 l0 (l0.length : Int) x9_1 false)) = some (r1, r2) := by rw [if_neg (show ¬ (false = true) by decide)] at H; exact H
            clear H
            have H := H1
            clear H1
            have HC21 := qa.mk H
            clear H
            go_upto_region 13 with (fail)
            repeat (go_quiet (fail); go_upto_region 13 with (fail))
            go_cut [41] (fun v41 wc => ∃ (kq : Nat) (x41_20 : Bool), v41 = .bool x41_20 ∧ qa (qr.j2 kq l0 x9_1 0 l0 (l0.length : Int) x9_1 x41_20 = some (r1, r2)) ∧ qa (kq ≤ kj11) ∧ qa (wc.heap[gb228]? = some (.cells #[.string ((qy l0 x9_1).f0), .string ((qy l0 x9_1).f1)] 48 (0, 0))) ∧ qa (Below w.heap.size w wc))
            case first =>
             have H := HC21.out
             clear HC21
             by_cases c22 : x9_1 > 0
             ·rw [if_pos c22] at H
              have c22b0 : decide (0 < x9_1) = true := decide_eq_true c22
              clear c22
              (first | rw [c22b0] | (simp only [i64_w, i32_w]; rw [c22b0]) | rw [c22b2] | skip)
              obtain ⟨ji23, hji23⟩ : ∃ j_ : Int, (wrap64 (x9_1 - 1)) = j_ := ⟨_, rfl⟩
              replace H : (if 0 ≤ (ji23) then (if (ji23) < (l0.length : Int) then (qr.j2 kj11 l0 x9_1 0 l0 (l0.length : Int) x9_1 (!(Op.bytesLess (((qy l0 (ji23)).f0).toList) ((qy l0 x9_1).f0).toList || (((qy l0 (ji23)).f0).toList) == ((qy l0 x9_1).f0).toList))) else (none)) else (none)) = some (r1, r2) := by first | (rw [hji23] at H; exact H) | (simp only [hji23] at H ⊢; exact H)
              have hji23w : (IntKind.i64.wrap (x9_1 - 1)) = ji23 := (i64_w _).trans hji23
              by_cases c24 : 0 ≤ (ji23)
              ·rw [if_pos c24] at H
               have c24b0 : decide (0 ≤ (ji23)) = true := decide_eq_true c24
               clear c24
               by_cases c25 : (ji23) < (l0.length : Int)
               ·rw [if_pos c25] at H
                have c25b0 : decide ((ji23) < (l0.length : Int)) = true := decide_eq_true c25
                clear c25
                have H' := qa.mk H
                clear H
                have p232 : 0 ≤ ((ji23) : Int) := of_decide_eq_true zz7
                have q232 : (ji23) < (l0.length : Int) := of_decide_eq_true zz7
                obtain ⟨ad232, e232, hx232_0, hx232_1⟩ := at_T48 HR0.out (ji23) p232 q232
                obtain rfl : ad227 = ad232 := (by injection e232)
                replace hx232_0 := (HB.out.cell (qic w _ hx232_0)).trans hx232_0
                replace hx232_1 := (HB.out.cell (qic w _ hx232_1)).trans hx232_1
                replace p232 := eq_true p232
                replace q232 := eq_true q232
                have hcz26_0 : wc.cell? ⟨gb228, 0, none⟩ = some (.string ((qy l0 x9_1).f0)) := (qg BK228.out 0).trans rfl
                have hcz26_1 : wc.cell? ⟨gb228, 1, none⟩ = some (.string ((qy l0 x9_1).f1)) := (qg BK228.out 1).trans rfl
                have hfz26_0 := qf BK228.out 0
                have hfz26_1 := qf BK228.out 1
                go_wp2
                repeat (go_quiet (fail); try go_wp2)
                go_meet
                case rel => exact ⟨_, (!(Op.bytesLess (((qy l0 (ji23)).f0).toList) ((qy l0 x9_1).f0).toList || (((qy l0 (ji23)).f0).toList) == ((qy l0 x9_1).f0).toList)), (by first | rfl | (simp; done) | (simp only [← hji23] <;> (first | rfl | simp)) | (simp [*]; done)), H', ⟨by have := HK1.out; have := HJ11.out; first | omega | exact Nat.le_refl _⟩, ⟨by (with_reducible repeat (first | refine qi ?_ _ | refine qk ?_ | refine qh ?_ _)); exact BK228.out⟩, ⟨zz50⟩⟩
               ·rw [if_neg c25] at H
                exact absurd H (by simp)
              ·rw [if_neg c24] at H
               exact absurd H (by simp)
             ·rw [if_neg c22] at H
              have c22b0 : decide (0 < x9_1) = false := decide_eq_false c22
              clear c22
              (first | rw [c22b0] | (simp only [i64_w, i32_w]; rw [c22b0]) | rw [c22b2] | skip)
              have H' := qa.mk H
              clear H
              go_wp2
              repeat (go_quiet (fail); try go_wp2)
              go_meet
              case rel => exact ⟨_, (false), zz6, H', ⟨by have := HK1.out; have := HJ11.out; first | omega | exact Nat.le_refl _⟩, ⟨by (with_reducible repeat (first | refine qi ?_ _ | refine qk ?_ | refine qh ?_ _)); exact BK228.out⟩, ⟨zz50⟩⟩
            case rest =>
             clear HC21
             try clear c1
             try clear c2
             try clear c2b0
             try clear p2
             try clear q2
             try clear hx2
             try clear c3
             try clear c3b0
             try clear c4
             try clear c4b0
             try clear c5
             try clear c5b0
             try clear c5b1
             try clear p6
             try clear c7
             try clear c9
             try clear c11
             try clear c15
             try clear c15b0
             try clear c15b2
             try clear c17
             try clear c17b0
             try clear c18
             try clear c18b0
             try clear c20
             try clear c22
             try clear c22b0
             try clear c22b2
             try clear p22
             try clear q22
             try clear hx22
             try clear p23
             try clear q23
             try clear hx23
             try clear c24
             try clear c24b0
             try clear c25
             try clear c25b0
             try clear hcz14_0
             try clear hcz14_1
             try clear hcz19_0
             try clear hcz19_1
             try clear hcz26_0
             try clear hcz26_1
             try clear hcz7_0
             try clear hcz7_1
             try clear hfz14_0
             try clear hfz14_1
             try clear hfz19_0
             try clear hfz19_1
             try clear hfz26_0
             try clear hfz26_1
             try clear hfz7_0
             try clear hfz7_1
             try clear hx227_0
             try clear hx227_1
             try clear hx231_0
             try clear hx231_1
             try clear hx232_0
             try clear hx232_1
             try clear p2
             try clear p227
             try clear p231
             try clear p232
             try clear p6
             try clear q2
             try clear q227
             try clear q231
             try clear q232
             obtain ⟨kq, x41_20, rfl, HA, HJ20, BK228, HB⟩ := hcut
             cases kq with
             | zero => exact absurd HA.out (by simp [qr.j2])
             | succ kj20 =>
              have H := HA.out
              clear HA
              simp only [qr.j2] at H
              by_cases c27 : x41_20 = true
              ·subst c27
               have H1 : (some (x9_1, 9)) = some (r1, r2) := by rw [if_pos rfl] at H; exact H
               clear H
               have H := H1
               clear H1
               simp only [Option.some.injEq, Prod.mk.injEq] at H
               obtain ⟨rfl, rfl⟩ := H
               go_wp2
               repeat (go_quiet (fail); try go_wp2)
               go_ret2
               exact ⟨zz65, zz50⟩
              ·replace c27 := Bool.eq_false_iff.mpr c27
               subst c27
               have H1 : (if 0 = 0 then (qr.l0 kj20 l0 l0 (l0.length : Int) (wrap64 (x9_1 + 1))) else (some (x9_1, 0))) = some (r1, r2) := by rw [if_neg (show ¬ (false = true) by decide)] at H; exact H
               clear H
               have H := H1
               clear H1
               by_cases c28 : 0 = 0
               ·rw [if_pos c28] at H
                have c28b0 : (0 == 0) = true := beq_iff_eq.mpr c28
                have c28b1 : (0 != 0) = false := bne_eq_false_iff_eq.mpr c28
                clear c28
                have H' := qa.mk H
                clear H
                go_wp2
                repeat (go_quiet (fail); try go_wp2)
                go_roundg kj20
                case measure => have := HK1.out; have := HJ11.out; have := HJ20.out; omega
                case rel => exact ⟨(wrap64 (x9_1 + 1)), zz6, H', ⟨by have := HK1.out; have := HJ11.out; have := HJ20.out; omega⟩, ⟨zz50⟩⟩
               ·exact absurd (by decide) c28
        ·replace c11 := Bool.eq_false_iff.mpr c11
         subst c11
         have H1 : (some (x9_1, 3)) = some (r1, r2) := by rw [if_neg (show ¬ (false = true) by decide)] at H; exact H
         clear H
         have H := H1
         clear H1
         simp only [Option.some.injEq, Prod.mk.injEq] at H
         obtain ⟨rfl, rfl⟩ := H
         have p227 : 0 ≤ (x9_1 : Int) := of_decide_eq_true zz7
         have q227 : x9_1 < (l0.length : Int) := of_decide_eq_true zz7
         obtain ⟨ad227, e227, hx227_0, hx227_1⟩ := at_T48 HR0.out x9_1 p227 q227
         cases e227
         replace hx227_0 := (HB.out.cell (qic w _ hx227_0)).trans hx227_0
         replace hx227_1 := (HB.out.cell (qic w _ hx227_1)).trans hx227_1
         replace p227 := eq_true p227
         replace q227 := eq_true q227
         go_wp2_with (first | ((with_reducible refine qeb (N := 5) rfl ?_); refine qib ?hg (N := 5) ?hd (cs := #[.string (⟨#[]⟩ : ByteArray), .string (⟨#[]⟩ : ByteArray)]) (t := 48) ?hr ?_; (case hd => rfl); (case hg => rfl); (case hr => exact zz5); intro gb228 hg w29 hbox hb; have n0_ := qa.mk (qm zz24 hb); have n1_ := qa.mk (hbox); have n2_ := qa.mk ((by rw [hg]; exact (ql zz24) : w.heap.size ≤ gb228)); have n3_ := qa.mk ((by rw [hg]; exact (ql zz24) : w.heap.size ≤ gb228)); clear HB; have HB := n0_; have BK228 := n1_; have GW228 := n2_; have GE228 := n3_; clear n0_ n1_ n2_ n3_; clear hb hbox hg; have hcz30_0 : w29.cell? ⟨gb228, 0, none⟩ = some (.string (⟨#[]⟩ : ByteArray)) := (qg BK228.out 0).trans rfl; have hcz30_1 : w29.cell? ⟨gb228, 1, none⟩ = some (.string (⟨#[]⟩ : ByteArray)) := (qg BK228.out 1).trans rfl; have hfz30_0 := qf BK228.out 0; have hfz30_1 := qf BK228.out 1) | (go_at_call 47; (with_reducible refine (qac.calls k1 ((qy l0 x9_1).f0) true _ A8.out).mono ?_); rintro e w' ⟨rfl, ⟨nd, rfl⟩⟩; (try first | exact ⟨rfl, _, World.drewN_drewN _ _ _⟩ | exact ⟨rfl, _, Eq.trans (World.drewN_drewN _ _ _) (congrArg (World.drewN _) (Nat.add_assoc _ _ _))⟩)) | (go_at_call 44; (with_reducible refine (qnb.calls ((qy l0 x9_1).f1) false _ A10.out).mono ?_); rintro e w' ⟨rfl, ⟨nd, rfl⟩⟩; (try first | exact ⟨rfl, _, World.drewN_drewN _ _ _⟩ | exact ⟨rfl, _, Eq.trans (World.drewN_drewN _ _ _) (congrArg (World.drewN _) (Nat.add_assoc _ _ _))⟩)))
         repeat (go_quiet (first | ((with_reducible refine qeb (N := 5) rfl ?_); refine qib ?hg (N := 5) ?hd (cs := #[.string (⟨#[]⟩ : ByteArray), .string (⟨#[]⟩ : ByteArray)]) (t := 48) ?hr ?_; (case hd => rfl); (case hg => rfl); (case hr => exact zz5); intro gb228 hg w29 hbox hb; have n0_ := qa.mk (qm zz24 hb); have n1_ := qa.mk (hbox); have n2_ := qa.mk ((by rw [hg]; exact (ql zz24) : w.heap.size ≤ gb228)); have n3_ := qa.mk ((by rw [hg]; exact (ql zz24) : w.heap.size ≤ gb228)); clear HB; have HB := n0_; have BK228 := n1_; have GW228 := n2_; have GE228 := n3_; clear n0_ n1_ n2_ n3_; clear hb hbox hg; have hcz30_0 : w29.cell? ⟨gb228, 0, none⟩ = some (.string (⟨#[]⟩ : ByteArray)) := (qg BK228.out 0).trans rfl; have hcz30_1 : w29.cell? ⟨gb228, 1, none⟩ = some (.string (⟨#[]⟩ : ByteArray)) := (qg BK228.out 1).trans rfl; have hfz30_0 := qf BK228.out 0; have hfz30_1 := qf BK228.out 1) | (go_at_call 47; (with_reducible refine (qac.calls k1 ((qy l0 x9_1).f0) true _ A8.out).mono ?_); rintro e w' ⟨rfl, ⟨nd, rfl⟩⟩; (try first | exact ⟨rfl, _, World.drewN_drewN _ _ _⟩ | exact ⟨rfl, _, Eq.trans (World.drewN_drewN _ _ _) (congrArg (World.drewN _) (Nat.add_assoc _ _ _))⟩)) | (go_at_call 44; (with_reducible refine (qnb.calls ((qy l0 x9_1).f1) false _ A10.out).mono ?_); rintro e w' ⟨rfl, ⟨nd, rfl⟩⟩; (try first | exact ⟨rfl, _, World.drewN_drewN _ _ _⟩ | exact ⟨rfl, _, Eq.trans (World.drewN_drewN _ _ _) (congrArg (World.drewN _) (Nat.add_assoc _ _ _))⟩))); try go_wp2_with (first | ((with_reducible refine qeb (N := 5) rfl ?_); refine qib ?hg (N := 5) ?hd (cs := #[.string (⟨#[]⟩ : ByteArray), .string (⟨#[]⟩ : ByteArray)]) (t := 48) ?hr ?_; (case hd => rfl); (case hg => rfl); (case hr => exact zz5); intro gb228 hg w29 hbox hb; have n0_ := qa.mk (qm zz24 hb); have n1_ := qa.mk (hbox); have n2_ := qa.mk ((by rw [hg]; exact (ql zz24) : w.heap.size ≤ gb228)); have n3_ := qa.mk ((by rw [hg]; exact (ql zz24) : w.heap.size ≤ gb228)); clear HB; have HB := n0_; have BK228 := n1_; have GW228 := n2_; have GE228 := n3_; clear n0_ n1_ n2_ n3_; clear hb hbox hg; have hcz30_0 : w29.cell? ⟨gb228, 0, none⟩ = some (.string (⟨#[]⟩ : ByteArray)) := (qg BK228.out 0).trans rfl; have hcz30_1 : w29.cell? ⟨gb228, 1, none⟩ = some (.string (⟨#[]⟩ : ByteArray)) := (qg BK228.out 1).trans rfl; have hfz30_0 := qf BK228.out 0; have hfz30_1 := qf BK228.out 1) | (go_at_call 47; (with_reducible refine (qac.calls k1 ((qy l0 x9_1).f0) true _ A8.out).mono ?_); rintro e w' ⟨rfl, ⟨nd, rfl⟩⟩; (try first | exact ⟨rfl, _, World.drewN_drewN _ _ _⟩ | exact ⟨rfl, _, Eq.trans (World.drewN_drewN _ _ _) (congrArg (World.drewN _) (Nat.add_assoc _ _ _))⟩)) | (go_at_call 44; (with_reducible refine (qnb.calls ((qy l0 x9_1).f1) false _ A10.out).mono ?_); rintro e w' ⟨rfl, ⟨nd, rfl⟩⟩; (try first | exact ⟨rfl, _, World.drewN_drewN _ _ _⟩ | exact ⟨rfl, _, Eq.trans (World.drewN_drewN _ _ _) (congrArg (World.drewN _) (Nat.add_assoc _ _ _))⟩))))
         go_ret2
         exact ⟨zz65, zz50⟩
       ·replace c9 := Bool.eq_false_iff.mpr c9
        subst c9
        have H1 : (some (x9_1, 8)) = some (r1, r2) := by rw [if_neg (show ¬ (false = true) by decide)] at H; exact H
        clear H
        have H := H1
        clear H1
        simp only [Option.some.injEq, Prod.mk.injEq] at H
        obtain ⟨rfl, rfl⟩ := H
        have p227 : 0 ≤ (x9_1 : Int) := of_decide_eq_true zz7
        have q227 : x9_1 < (l0.length : Int) := of_decide_eq_true zz7
        obtain ⟨ad227, e227, hx227_0, hx227_1⟩ := at_T48 HR0.out x9_1 p227 q227
        cases e227
        replace hx227_0 := (HB.out.cell (qic w _ hx227_0)).trans hx227_0
        replace hx227_1 := (HB.out.cell (qic w _ hx227_1)).trans hx227_1
        replace p227 := eq_true p227
        replace q227 := eq_true q227
        go_wp2_with (first | ((with_reducible refine qeb (N := 5) rfl ?_); refine qib ?hg (N := 5) ?hd (cs := #[.string (⟨#[]⟩ : ByteArray), .string (⟨#[]⟩ : ByteArray)]) (t := 48) ?hr ?_; (case hd => rfl); (case hg => rfl); (case hr => exact zz5); intro gb228 hg w31 hbox hb; have n0_ := qa.mk (qm zz24 hb); have n1_ := qa.mk (hbox); have n2_ := qa.mk ((by rw [hg]; exact (ql zz24) : w.heap.size ≤ gb228)); have n3_ := qa.mk ((by rw [hg]; exact (ql zz24) : w.heap.size ≤ gb228)); clear HB; have HB := n0_; have BK228 := n1_; have GW228 := n2_; have GE228 := n3_; clear n0_ n1_ n2_ n3_; clear hb hbox hg; have hcz32_0 : w31.cell? ⟨gb228, 0, none⟩ = some (.string (⟨#[]⟩ : ByteArray)) := (qg BK228.out 0).trans rfl; have hcz32_1 : w31.cell? ⟨gb228, 1, none⟩ = some (.string (⟨#[]⟩ : ByteArray)) := (qg BK228.out 1).trans rfl; have hfz32_0 := qf BK228.out 0; have hfz32_1 := qf BK228.out 1) | (go_at_call 47; (with_reducible refine (qac.calls k1 ((qy l0 x9_1).f0) false _ A8.out).mono ?_); rintro e w' ⟨rfl, ⟨nd, rfl⟩⟩; (try first | exact ⟨rfl, _, World.drewN_drewN _ _ _⟩ | exact ⟨rfl, _, Eq.trans (World.drewN_drewN _ _ _) (congrArg (World.drewN _) (Nat.add_assoc _ _ _))⟩)))
        repeat (go_quiet (first | ((with_reducible refine qeb (N := 5) rfl ?_); refine qib ?hg (N := 5) ?hd (cs := #[.string (⟨#[]⟩ : ByteArray), .string (⟨#[]⟩ : ByteArray)]) (t := 48) ?hr ?_; (case hd => rfl); (case hg => rfl); (case hr => exact zz5); intro gb228 hg w31 hbox hb; have n0_ := qa.mk (qm zz24 hb); have n1_ := qa.mk (hbox); have n2_ := qa.mk ((by rw [hg]; exact (ql zz24) : w.heap.size ≤ gb228)); have n3_ := qa.mk ((by rw [hg]; exact (ql zz24) : w.heap.size ≤ gb228)); clear HB; have HB := n0_; have BK228 := n1_; have GW228 := n2_; have GE228 := n3_; clear n0_ n1_ n2_ n3_; clear hb hbox hg; have hcz32_0 : w31.cell? ⟨gb228, 0, none⟩ = some (.string (⟨#[]⟩ : ByteArray)) := (qg BK228.out 0).trans rfl; have hcz32_1 : w31.cell? ⟨gb228, 1, none⟩ = some (.string (⟨#[]⟩ : ByteArray)) := (qg BK228.out 1).trans rfl; have hfz32_0 := qf BK228.out 0; have hfz32_1 := qf BK228.out 1) | (go_at_call 47; (with_reducible refine (qac.calls k1 ((qy l0 x9_1).f0) false _ A8.out).mono ?_); rintro e w' ⟨rfl, ⟨nd, rfl⟩⟩; (try first | exact ⟨rfl, _, World.drewN_drewN _ _ _⟩ | exact ⟨rfl, _, Eq.trans (World.drewN_drewN _ _ _) (congrArg (World.drewN _) (Nat.add_assoc _ _ _))⟩))); try go_wp2_with (first | ((with_reducible refine qeb (N := 5) rfl ?_); refine qib ?hg (N := 5) ?hd (cs := #[.string (⟨#[]⟩ : ByteArray), .string (⟨#[]⟩ : ByteArray)]) (t := 48) ?hr ?_; (case hd => rfl); (case hg => rfl); (case hr => exact zz5); intro gb228 hg w31 hbox hb; have n0_ := qa.mk (qm zz24 hb); have n1_ := qa.mk (hbox); have n2_ := qa.mk ((by rw [hg]; exact (ql zz24) : w.heap.size ≤ gb228)); have n3_ := qa.mk ((by rw [hg]; exact (ql zz24) : w.heap.size ≤ gb228)); clear HB; have HB := n0_; have BK228 := n1_; have GW228 := n2_; have GE228 := n3_; clear n0_ n1_ n2_ n3_; clear hb hbox hg; have hcz32_0 : w31.cell? ⟨gb228, 0, none⟩ = some (.string (⟨#[]⟩ : ByteArray)) := (qg BK228.out 0).trans rfl; have hcz32_1 : w31.cell? ⟨gb228, 1, none⟩ = some (.string (⟨#[]⟩ : ByteArray)) := (qg BK228.out 1).trans rfl; have hfz32_0 := qf BK228.out 0; have hfz32_1 := qf BK228.out 1) | (go_at_call 47; (with_reducible refine (qac.calls k1 ((qy l0 x9_1).f0) false _ A8.out).mono ?_); rintro e w' ⟨rfl, ⟨nd, rfl⟩⟩; (try first | exact ⟨rfl, _, World.drewN_drewN _ _ _⟩ | exact ⟨rfl, _, Eq.trans (World.drewN_drewN _ _ _) (congrArg (World.drewN _) (Nat.add_assoc _ _ _))⟩))))
        go_ret2
        exact ⟨zz65, zz50⟩
     ·rw [if_neg c4] at H
      exact absurd H (by simp)
    ·rw [if_neg c3] at H
     exact absurd H (by simp)
   ·rw [if_neg c2] at H
    have c2b0 : decide (x9_1 < (l0.length : Int)) = false := decide_eq_false c2
    clear c2
    simp only [Option.some.injEq, Prod.mk.injEq] at H
    obtain ⟨rfl, rfl⟩ := H
    go_wp2
    repeat (go_quiet (fail); try go_wp2)
    go_ret2
    exact ⟨zz65, zz24⟩
def vtree_wrong.f (k : Nat) (a0_0 : ByteArray) (a0_1 : ByteArray) (a0_2 : ByteArray) (l0_3 : List (S48)) (l0_4 : List (S84)) : Option (Int) := (qfc.f k a0_0).bind fun t234 => (if t234 = true then ((qnb.f a0_1).bind fun t235 => (if t235 = true then ((qnb.f a0_2).bind fun t236 => (if t236 = true then ((qr.f k l0_3).bind fun bt237 => (some bt237.2)) else (some 3))) else (some 3))) else (some 7))
theorem vtree_wrong.mono : ∀ a0 a1 a2 a3 a4 k, LeO (vtree_wrong.f k a0 a1 a2 a3 a4) (vtree_wrong.f (k + 1) a0 a1 a2 a3 a4) := by
 intro a0 a1 a2 a3 a4 k
 unfold vtree_wrong.f
 repeat' first
   | (with_reducible exact qr.mono _ _)
   | (with_reducible exact qfc.mono _ _)
   | (with_reducible exact LeO.refl _)
   | (with_reducible exact LeO.none _)
   | (with_reducible refine LeO.ite ?_ ?_)
   | (with_reducible refine LeO.bind ?_ (fun _ => ?_))
   | exact qr.mono _ _
   | exact qfc.mono _ _
   | exact LeO.none _
   | refine LeO.ite ?_ ?_
   | refine LeO.bind ?_ (fun _ => ?_)
set_option maxHeartbeats 8000000 in
set_option maxRecDepth 100000 in
theorem vtree_wrong.calls (k : Nat) (a0_0 : ByteArray) (a0_1 : ByteArray) (a0_2 : ByteArray) (A0_3 : Option Addr) (c0_3 : Nat) (l0_3 : List (S48)) (A0_4 : Option Addr) (c0_4 : Nat) (l0_4 : List (S84)) (r : Int) (w : World) (hr0_3 : Kd.C k48 w A0_3 l0_3.length l0_3) (hc0_3 : l0_3.length ≤ c0_3) (hr0_4 : Kd.C k84 w A0_4 l0_4.length l0_4) (hc0_4 : l0_4.length ≤ c0_4) (h : vtree_wrong.f k a0_0 a0_1 a0_2 l0_3 l0_4 = some r) :
  Calls Tryd.prog 73 #[.agg #[.string a0_0, .string a0_1, .string a0_2, .slice A0_3 l0_3.length c0_3, .slice A0_4 l0_4.length c0_4]] w fun e w' => e = .returned (.int .i64 r) ∧ Below w.heap.size w w' := by
 have hu84 := Tryd.underlying84
 have HR0_3 := qa.mk hr0_3
 have HC0_3 := qa.mk hc0_3
 clear hr0_3 hc0_3
 have HR0_4 := qa.mk hr0_4
 have HC0_4 := qa.mk hc0_4
 clear hr0_4 hc0_4
 have HB := qa.mk (Below.refl w.heap.size w)
 have H : ((qfc.f k a0_0).bind fun t234 => (if t234 = true then ((qnb.f a0_1).bind fun t235 => (if t235 = true then ((qnb.f a0_2).bind fun t236 => (if t236 = true then ((qr.f k l0_3).bind fun bt237 => (some bt237.2)) else (some 3))) else (some 3))) else (some 7))) = some r := h
 clear h
 replace H := Option.bind_eq_some_iff.mp H
 obtain ⟨t234, A20, H⟩ := H
 replace H : (if t234 = true then ((qnb.f a0_1).bind fun t235 => (if t235 = true then ((qnb.f a0_2).bind fun t236 => (if t236 = true then ((qr.f k l0_3).bind fun bt237 => (some bt237.2)) else (some 3))) else (some 3))) else (some 7)) = some r := H
 have A2 := qa.mk A20
 clear A20
 by_cases c3 : t234 = true
 ·subst c3
  have H1 : ((qnb.f a0_1).bind fun t235 => (if t235 = true then ((qnb.f a0_2).bind fun t236 => (if t236 = true then ((qr.f k l0_3).bind fun bt237 => (some bt237.2)) else (some 3))) else (some 3))) = some r := by rw [if_pos rfl] at H; exact H
  clear H
  have H := H1
  clear H1
  replace H := Option.bind_eq_some_iff.mp H
  obtain ⟨t235, A40, H⟩ := H
  replace H : (if t235 = true then ((qnb.f a0_2).bind fun t236 => (if t236 = true then ((qr.f k l0_3).bind fun bt237 => (some bt237.2)) else (some 3))) else (some 3)) = some r := H
  have A4 := qa.mk A40
  clear A40
  by_cases c5 : t235 = true
  ·subst c5
   have H1 : ((qnb.f a0_2).bind fun t236 => (if t236 = true then ((qr.f k l0_3).bind fun bt237 => (some bt237.2)) else (some 3))) = some r := by rw [if_pos rfl] at H; exact H
   clear H
   have H := H1
   clear H1
   replace H := Option.bind_eq_some_iff.mp H
   obtain ⟨t236, A60, H⟩ := H
   replace H : (if t236 = true then ((qr.f k l0_3).bind fun bt237 => (some bt237.2)) else (some 3)) = some r := H
   have A6 := qa.mk A60
   clear A60
   by_cases c7 : t236 = true
   ·subst c7
    have H1 : ((qr.f k l0_3).bind fun bt237 => (some bt237.2)) = some r := by rw [if_pos rfl] at H; exact H
    clear H
    have H := H1
    clear H1
    replace H := Option.bind_eq_some_iff.mp H
    obtain ⟨⟨t237, t238⟩, A80, H⟩ := H
    replace H : (some t238) = some r := H
    have A8 := qa.mk A80
    clear A80
    obtain rfl := Option.some.inj H
    go_enter Tryd.func73, Tryd.ntmps73
    go_wp2_with (first | ((with_reducible refine qeb (N := 1) rfl ?_); refine qib ?hg (N := 1) ?hd (cs := #[.string a0_0, .string a0_1, .string a0_2, .slice A0_3 l0_3.length c0_3, .slice A0_4 l0_4.length c0_4]) (t := 84) ?hr ?_; (case hd => rfl); (case hg => rfl); (case hr => exact zz5); intro gb233 hg w9 hbox hb; have n0_ := qa.mk (qm zz24 hb); have n1_ := qa.mk (hbox); have n2_ := qa.mk ((by rw [hg]; exact (ql zz24) : w.heap.size ≤ gb233)); have n3_ := qa.mk ((by rw [hg]; exact (ql zz24) : w.heap.size ≤ gb233)); clear HB; have HB := n0_; have BK233 := n1_; have GW233 := n2_; have GE233 := n3_; clear n0_ n1_ n2_ n3_; clear hb hbox hg; have hcz10_0 : w9.cell? ⟨gb233, 0, none⟩ = some (.string a0_0) := (qg BK233.out 0).trans rfl; have hcz10_1 : w9.cell? ⟨gb233, 1, none⟩ = some (.string a0_1) := (qg BK233.out 1).trans rfl; have hcz10_2 : w9.cell? ⟨gb233, 2, none⟩ = some (.string a0_2) := (qg BK233.out 2).trans rfl; have hcz10_3 : w9.cell? ⟨gb233, 3, none⟩ = some (.slice A0_3 l0_3.length c0_3) := (qg BK233.out 3).trans rfl; have hcz10_4 : w9.cell? ⟨gb233, 4, none⟩ = some (.slice A0_4 l0_4.length c0_4) := (qg BK233.out 4).trans rfl; have hfz10_0 := qf BK233.out 0; have hfz10_1 := qf BK233.out 1; have hfz10_2 := qf BK233.out 2; have hfz10_3 := qf BK233.out 3; have hfz10_4 := qf BK233.out 4) | ((with_reducible refine qv (f := 43) rfl ?_); refine qob (some 8) rfl rfl Tryd.func43 (by kernel_rfl) rfl #[.string a0_0] rfl zz56 ?_; (with_reducible refine (qfc.calls k a0_0 true _ A2.out).mono ?_); rintro e w' ⟨rfl, ⟨nd, rfl⟩⟩; refine ⟨_, rfl, ?_⟩) | ((with_reducible refine qv (f := 44) rfl ?_); refine qob (some 13) rfl rfl Tryd.func44 (by kernel_rfl) rfl #[.string a0_1] rfl zz56 ?_; (with_reducible refine (qnb.calls a0_1 true _ A4.out).mono ?_); rintro e w' ⟨rfl, ⟨nd, rfl⟩⟩; refine ⟨_, rfl, ?_⟩) | (go_at_call 44; (with_reducible refine (qnb.calls a0_2 true _ A6.out).mono ?_); rintro e w' ⟨rfl, ⟨nd, rfl⟩⟩) | ((with_reducible refine qv (f := 78) rfl ?_); refine qob (some 24) rfl rfl Tryd.func78 (by kernel_rfl) rfl #[.slice A0_3 l0_3.length c0_3] rfl zz56 ?_; (with_reducible refine (qr.calls k _ _ l0_3 t237 t238 _ ?side1 ?side2 A8.out).mono ?_); (case side1 => repeat (first | exact (Kd.C_below HR0_3.out zz51) | (with_reducible refine Kd.C_alloc ?_ _) | (with_reducible refine Kd.C_drewN ?_ _) | (with_reducible refine Kd.C_drew ?_))); (case side2 => exact HC0_3.out); rintro e w11 ⟨rfl, hb⟩; refine ⟨_, rfl, ?_⟩; have n0_ := qa.mk (qjb (g := gb233) (o := .cells #[.string a0_0, .string a0_1, .string a0_2, .slice A0_3 l0_3.length c0_3, .slice A0_4 l0_4.length c0_4] 84 (0, 0)) (by (with_reducible repeat (first | refine qi ?_ _ | refine qk ?_ | refine qh ?_ _)); exact BK233.out) hb); have n1_ := qa.mk (qm zz51 hb); clear BK233; clear HB; have BK233 := n0_; have HB := n1_; clear n0_ n1_; (try clear hb); (try clear hb2); (try clear hk); (try clear hi)))
    go_ret
    exact ⟨zz65, zz51⟩
   ·replace c7 := Bool.eq_false_iff.mpr c7
    subst c7
    have H1 : (some 3) = some r := by rw [if_neg (show ¬ (false = true) by decide)] at H; exact H
    clear H
    have H := H1
    clear H1
    obtain rfl := Option.some.inj H
    go_enter Tryd.func73, Tryd.ntmps73
    go_wp2_with (first | ((with_reducible refine qeb (N := 1) rfl ?_); refine qib ?hg (N := 1) ?hd (cs := #[.string a0_0, .string a0_1, .string a0_2, .slice A0_3 l0_3.length c0_3, .slice A0_4 l0_4.length c0_4]) (t := 84) ?hr ?_; (case hd => rfl); (case hg => rfl); (case hr => exact zz5); intro gb233 hg w12 hbox hb; have n0_ := qa.mk (qm zz24 hb); have n1_ := qa.mk (hbox); have n2_ := qa.mk ((by rw [hg]; exact (ql zz24) : w.heap.size ≤ gb233)); have n3_ := qa.mk ((by rw [hg]; exact (ql zz24) : w.heap.size ≤ gb233)); clear HB; have HB := n0_; have BK233 := n1_; have GW233 := n2_; have GE233 := n3_; clear n0_ n1_ n2_ n3_; clear hb hbox hg; have hcz13_0 : w12.cell? ⟨gb233, 0, none⟩ = some (.string a0_0) := (qg BK233.out 0).trans rfl; have hcz13_1 : w12.cell? ⟨gb233, 1, none⟩ = some (.string a0_1) := (qg BK233.out 1).trans rfl; have hcz13_2 : w12.cell? ⟨gb233, 2, none⟩ = some (.string a0_2) := (qg BK233.out 2).trans rfl; have hcz13_3 : w12.cell? ⟨gb233, 3, none⟩ = some (.slice A0_3 l0_3.length c0_3) := (qg BK233.out 3).trans rfl; have hcz13_4 : w12.cell? ⟨gb233, 4, none⟩ = some (.slice A0_4 l0_4.length c0_4) := (qg BK233.out 4).trans rfl; have hfz13_0 := qf BK233.out 0; have hfz13_1 := qf BK233.out 1; have hfz13_2 := qf BK233.out 2; have hfz13_3 := qf BK233.out 3; have hfz13_4 := qf BK233.out 4) | ((with_reducible refine qv (f := 43) rfl ?_); refine qob (some 8) rfl rfl Tryd.func43 (by kernel_rfl) rfl #[.string a0_0] rfl zz56 ?_; (with_reducible refine (qfc.calls k a0_0 true _ A2.out).mono ?_); rintro e w' ⟨rfl, ⟨nd, rfl⟩⟩; refine ⟨_, rfl, ?_⟩) | ((with_reducible refine qv (f := 44) rfl ?_); refine qob (some 13) rfl rfl Tryd.func44 (by kernel_rfl) rfl #[.string a0_1] rfl zz56 ?_; (with_reducible refine (qnb.calls a0_1 true _ A4.out).mono ?_); rintro e w' ⟨rfl, ⟨nd, rfl⟩⟩; refine ⟨_, rfl, ?_⟩) | (go_at_call 44; (with_reducible refine (qnb.calls a0_2 false _ A6.out).mono ?_); rintro e w' ⟨rfl, ⟨nd, rfl⟩⟩))
    go_ret
    exact ⟨zz65, zz51⟩
  ·replace c5 := Bool.eq_false_iff.mpr c5
   subst c5
   have H1 : (some 3) = some r := by rw [if_neg (show ¬ (false = true) by decide)] at H; exact H
   clear H
   have H := H1
   clear H1
   obtain rfl := Option.some.inj H
   go_enter Tryd.func73, Tryd.ntmps73
   go_wp2_with (first | ((with_reducible refine qeb (N := 1) rfl ?_); refine qib ?hg (N := 1) ?hd (cs := #[.string a0_0, .string a0_1, .string a0_2, .slice A0_3 l0_3.length c0_3, .slice A0_4 l0_4.length c0_4]) (t := 84) ?hr ?_; (case hd => rfl); (case hg => rfl); (case hr => exact zz5); intro gb233 hg w14 hbox hb; have n0_ := qa.mk (qm zz24 hb); have n1_ := qa.mk (hbox); have n2_ := qa.mk ((by rw [hg]; exact (ql zz24) : w.heap.size ≤ gb233)); have n3_ := qa.mk ((by rw [hg]; exact (ql zz24) : w.heap.size ≤ gb233)); clear HB; have HB := n0_; have BK233 := n1_; have GW233 := n2_; have GE233 := n3_; clear n0_ n1_ n2_ n3_; clear hb hbox hg; have hcz15_0 : w14.cell? ⟨gb233, 0, none⟩ = some (.string a0_0) := (qg BK233.out 0).trans rfl; have hcz15_1 : w14.cell? ⟨gb233, 1, none⟩ = some (.string a0_1) := (qg BK233.out 1).trans rfl; have hcz15_2 : w14.cell? ⟨gb233, 2, none⟩ = some (.string a0_2) := (qg BK233.out 2).trans rfl; have hcz15_3 : w14.cell? ⟨gb233, 3, none⟩ = some (.slice A0_3 l0_3.length c0_3) := (qg BK233.out 3).trans rfl; have hcz15_4 : w14.cell? ⟨gb233, 4, none⟩ = some (.slice A0_4 l0_4.length c0_4) := (qg BK233.out 4).trans rfl; have hfz15_0 := qf BK233.out 0; have hfz15_1 := qf BK233.out 1; have hfz15_2 := qf BK233.out 2; have hfz15_3 := qf BK233.out 3; have hfz15_4 := qf BK233.out 4) | ((with_reducible refine qv (f := 43) rfl ?_); refine qob (some 8) rfl rfl Tryd.func43 (by kernel_rfl) rfl #[.string a0_0] rfl zz56 ?_; (with_reducible refine (qfc.calls k a0_0 true _ A2.out).mono ?_); rintro e w' ⟨rfl, ⟨nd, rfl⟩⟩; refine ⟨_, rfl, ?_⟩) | ((with_reducible refine qv (f := 44) rfl ?_); refine qob (some 13) rfl rfl Tryd.func44 (by kernel_rfl) rfl #[.string a0_1] rfl zz56 ?_; (with_reducible refine (qnb.calls a0_1 false _ A4.out).mono ?_); rintro e w' ⟨rfl, ⟨nd, rfl⟩⟩; refine ⟨_, rfl, ?_⟩))
   go_ret
   exact ⟨zz65, zz51⟩
 ·replace c3 := Bool.eq_false_iff.mpr c3
  subst c3
  have H1 : (some 7) = some r := by rw [if_neg (show ¬ (false = true) by decide)] at H; exact H
  clear H
  have H := H1
  clear H1
  obtain rfl := Option.some.inj H
  go_enter Tryd.func73, Tryd.ntmps73
  go_wp2_with (first | ((with_reducible refine qeb (N := 1) rfl ?_); refine qib ?hg (N := 1) ?hd (cs := #[.string a0_0, .string a0_1, .string a0_2, .slice A0_3 l0_3.length c0_3, .slice A0_4 l0_4.length c0_4]) (t := 84) ?hr ?_; (case hd => rfl); (case hg => rfl); (case hr => exact zz5); intro gb233 hg w16 hbox hb; have n0_ := qa.mk (qm zz24 hb); have n1_ := qa.mk (hbox); have n2_ := qa.mk ((by rw [hg]; exact (ql zz24) : w.heap.size ≤ gb233)); have n3_ := qa.mk ((by rw [hg]; exact (ql zz24) : w.heap.size ≤ gb233)); clear HB; have HB := n0_; have BK233 := n1_; have GW233 := n2_; have GE233 := n3_; clear n0_ n1_ n2_ n3_; clear hb hbox hg; have hcz17_0 : w16.cell? ⟨gb233, 0, none⟩ = some (.string a0_0) := (qg BK233.out 0).trans rfl; have hcz17_1 : w16.cell? ⟨gb233, 1, none⟩ = some (.string a0_1) := (qg BK233.out 1).trans rfl; have hcz17_2 : w16.cell? ⟨gb233, 2, none⟩ = some (.string a0_2) := (qg BK233.out 2).trans rfl; have hcz17_3 : w16.cell? ⟨gb233, 3, none⟩ = some (.slice A0_3 l0_3.length c0_3) := (qg BK233.out 3).trans rfl; have hcz17_4 : w16.cell? ⟨gb233, 4, none⟩ = some (.slice A0_4 l0_4.length c0_4) := (qg BK233.out 4).trans rfl; have hfz17_0 := qf BK233.out 0; have hfz17_1 := qf BK233.out 1; have hfz17_2 := qf BK233.out 2; have hfz17_3 := qf BK233.out 3; have hfz17_4 := qf BK233.out 4) | ((with_reducible refine qv (f := 43) rfl ?_); refine qob (some 8) rfl rfl Tryd.func43 (by kernel_rfl) rfl #[.string a0_0] rfl zz56 ?_; (with_reducible refine (qfc.calls k a0_0 false _ A2.out).mono ?_); rintro e w' ⟨rfl, ⟨nd, rfl⟩⟩; refine ⟨_, rfl, ?_⟩))
  go_ret
  exact ⟨zz65, zz51⟩
def qz.kids (v : S84 → Int → Int → List ByteArray → Option (Bool × Int × Int × Int × List ByteArray)) : List S84 → Int → Int → Int → List ByteArray → Option (Bool × Int × Int × Int)
 | [], nu, de, er, _ => some (true, nu, de, er)
 | y :: r, nu, de, _, met => (v y nu de met).bind fun t => if t.1 = true then qz.kids v r t.2.1 t.2.2.1 t.2.2.2.1 t.2.2.2.2 else some (false, t.2.1, t.2.2.1, t.2.2.2.1)
def qz.has (met : List ByteArray) (s : ByteArray) : Bool := met.any fun t => t.data.toList == s.data.toList
def qz.add (met : List ByteArray) (s : ByteArray) : List ByteArray := if s.data.toList = [] then met else met ++ [s]
def qz.visit : Nat → S84 → Int → Int → Int → List ByteArray → Option (Bool × Int × Int × Int × List ByteArray)
 | 0, _, _, _, _, _ => none
 | k + 1, x, d, nu, de, met =>
  if 0 ≤ nu ∧ nu ≤ 4096 ∧ 0 ≤ d ∧ d ≤ 65 ∧ met.length ≤ 4096 ∧ x.f1.size ≤ 1000000000 then
   (if nu = 4096 then some 12 else if d > 64 then some 11 else vtree_wrong.f k x.f0 x.f1 x.f2 x.f3 x.f4).bind fun e =>
    if e = 0 then
     if qz.has met x.f1 = true then some (false, nu, mx de d, 10, met)
     else (qz.kids (fun y a b m => qz.visit k y (d + 1) a b m) x.f4 (nu + 1) (mx de d) 0 []).bind fun t => some (t.1, t.2.1, t.2.2.1, t.2.2.2, qz.add met x.f1)
    else some (false, nu, mx de d, e, met)
  else none
def qz.f (k : Nat) (a0_0 : ByteArray) (a0_1 : ByteArray) (a0_2 : ByteArray) (l0_3 : List S48) (l0_4 : List S84) : Option (Int × Int × Int) :=
 (qz.visit k ⟨a0_0, a0_1, a0_2, l0_3, l0_4⟩ 1 0 0 []).bind fun t => some (t.2.1, t.2.2.1, t.2.2.2.1)
theorem qz.kids_mono {v v' : S84 → Int → Int → List ByteArray → Option (Bool × Int × Int × Int × List ByteArray)} (h : ∀ y a b m, LeO (v y a b m) (v' y a b m)) : ∀ (l : List S84) (nu de er : Int) (m : List ByteArray), LeO (qz.kids v l nu de er m) (qz.kids v' l nu de er m)
 | [], _, _, _, _ => LeO.refl _
 | y :: r, nu, de, er, m => by
  unfold qz.kids
  exact LeO.bind (h _ _ _ _) (fun t => LeO.ite (qz.kids_mono h r _ _ _ _) (LeO.refl _))
theorem qz.visit_mono : ∀ (k : Nat) (x : S84) (d nu de : Int) (m : List ByteArray), LeO (qz.visit k x d nu de m) (qz.visit (k + 1) x d nu de m)
 | 0, _, _, _, _, _ => LeO.none _
 | k + 1, x, d, nu, de, m => by
  unfold qz.visit
  exact LeO.ite (LeO.bind (LeO.ite (LeO.refl _) (LeO.ite (LeO.refl _) (vtree_wrong.mono _ _ _ _ _ _))) (fun e => LeO.ite (LeO.ite (LeO.refl _) (LeO.bind (qz.kids_mono (fun y a b q => qz.visit_mono k y (d + 1) a b q) _ _ _ _ _) (fun _ => LeO.refl _))) (LeO.refl _))) (LeO.refl _)
theorem qz.mono : ∀ a0 a1 a2 a3 a4 k, LeO (qz.f k a0 a1 a2 a3 a4) (qz.f (k + 1) a0 a1 a2 a3 a4) := fun _ _ _ _ _ k => LeO.bind (qz.visit_mono k _ _ _ _ _) (fun _ => LeO.refl _)
def mset (met : List ByteArray) : DataW Unit := Maps.setOf (.agg []) (met.map fun s => Lit.string s.data.toList)
def OM (W : World) (b : Nat) (met : List ByteArray) : Prop := W.ownsMap Tryd.prog 9 (unitElem (H := Unit)) b met.length (mset met)
theorem OM.frame {W W1 : World} {b : Nat} {met : List ByteArray} (h : OM W b met) (e : W1.heap[b]? = W.heap[b]?) : OM W1 b met := by
 obtain ⟨es, clock, hb, r⟩ := h
 exact ⟨es, clock, e.trans hb, r⟩
theorem OM.ne {W : World} {b g : Nat} {met : List ByteArray} {cs : Array Value} {t : TypeId} (h : OM W b met) (hg : W.heap[g]? = some (.cells cs t (0, 0))) : b ≠ g := by
 obtain ⟨es, clock, hb, r⟩ := h
 rintro rfl
 rw [hb] at hg
 cases hg
theorem OM.has (met : List ByteArray) (s : ByteArray) : Maps.has (mset met) (.string s.data.toList) = qz.has met s := by
 unfold mset
 rw [Maps.has_setOf]
 ·simp only [List.any_map, qz.has]
  rfl
 ·intro x hx
  obtain ⟨t, _, rfl⟩ := List.mem_map.1 hx
  trivial
theorem OM.put (met : List ByteArray) (s : ByteArray) : (mset met).put (.string s.data.toList) (.agg []) = mset (met ++ [s]) := by
 unfold mset
 rw [List.map_append, List.map_cons, List.map_nil, Maps.setOf_snoc]
def vfn (bl bv : Nat) : Value := .func (.func 72) #[] #[.pointer (some ⟨bl, 0, none⟩), .pointer (some ⟨bv, 0, none⟩)]
structure VS (w0 w : World) (bl bv bm : Nat) (nu de er : Int) (met : List ByteArray) (W : World) : Prop where
 hl : W.heap[bl]? = some (.cells #[.int .i64 nu, .int .i64 de, .int .i64 er] 112 (0, 0))
 hv : W.heap[bv]? = some (.cells #[vfn bl bv] 118 (0, 0))
 hm : OM W bm met
 gl : w0.heap.size ≤ bl
 gm : w0.heap.size ≤ bm
 hb : Below w0.heap.size w0 W
 hk : KeepBut w W bl (some bm)
section
variable {w0 w W W1 : World} {bl bv bm : Nat} {nu de er : Int} {met : List ByteArray}
theorem VS.ne (h : VS w0 w bl bv bm nu de er met W) : bl ≠ bv ∧ bm ≠ bl ∧ bm ≠ bv := ⟨blk_ne h.hl h.hv (by decide), h.hm.ne h.hl, h.hm.ne h.hv⟩
theorem VS.lt (h : VS w0 w bl bv bm nu de er met W) : bl < W.heap.size ∧ bv < W.heap.size ∧ bm < W.heap.size := ⟨blk_lt h.hl, blk_lt h.hv, h.hm.lt⟩
theorem VS.below (h : VS w0 w bl bv bm nu de er met W) (hb : Below W.heap.size W W1) : VS w0 w bl bv bm nu de er met W1 :=
 ⟨qjb h.hl hb, qjb h.hv hb, h.hm.frame (hb.block _ h.lt.2.2), h.gl, h.gm, below_then h.hb h.hb.size hb, h.hk.trans (KeepBut.of_below hb bl (some bm)) (.inl rfl)⟩
theorem VS.put (h : VS w0 w bl bv bm nu de er met W) (j : Nat) (u : Value) {nu1 de1 er1 : Int} (e : #[Value.int .i64 nu, .int .i64 de, .int .i64 er].setIfInBounds j u = #[Value.int .i64 nu1, .int .i64 de1, .int .i64 er1]) : VS w0 w bl bv bm nu1 de1 er1 met (W.setCell ⟨bl, j, none⟩ u) :=
 ⟨qq h.hl j u e, qkb h.hv (Ne.symm h.ne.1) _, h.hm.frame (Below.heap_setCell W _ _ _ h.ne.2.1), h.gl, h.gm, h.hb.setCell h.gl _, h.hk.set_ j u⟩
theorem VS.set0 (h : VS w0 w bl bv bm nu de er met W) (x : Int) : VS w0 w bl bv bm x de er met (W.setCell ⟨bl, 0, none⟩ (.int .i64 x)) := h.put 0 _ rfl
theorem VS.set1 (h : VS w0 w bl bv bm nu de er met W) (x : Int) : VS w0 w bl bv bm nu x er met (W.setCell ⟨bl, 1, none⟩ (.int .i64 x)) := h.put 1 _ rfl
theorem VS.set2 (h : VS w0 w bl bv bm nu de er met W) (x : Int) : VS w0 w bl bv bm nu de x met (W.setCell ⟨bl, 2, none⟩ (.int .i64 x)) := h.put 2 _ rfl
theorem VS.map (h : VS w0 w bl bv bm nu de er met W) {met1 : List ByteArray} (hm : OM W1 bm met1) (hg : W.grownBy W1 (some bm)) : VS w0 w bl bv bm nu de er met1 W1 :=
 ⟨blk_grown h.hl hg (fun e => h.ne.2.1 (Option.some.inj e).symm), blk_grown h.hv hg (fun e => h.ne.2.2 (Option.some.inj e).symm), hm, h.gl, h.gm, h.hb.grown hg h.hb.size (fun k e => by cases e; exact h.gm), h.hk.trans (KeepBut.of_grown hg bl) (.inl rfl)⟩
theorem VS.look (h : VS w0 w bl bv bm nu de er met W) : W.cell? ⟨bl, 0, none⟩ = some (.int .i64 nu) ∧ W.cell? ⟨bl, 1, none⟩ = some (.int .i64 de) ∧ W.cell? ⟨bl, 2, none⟩ = some (.int .i64 er) ∧ W.cell? ⟨bv, 0, none⟩ = some (vfn bl bv) ∧ W.frozen? ⟨bl, 0, none⟩ = false ∧ W.frozen? ⟨bl, 1, none⟩ = false ∧ W.frozen? ⟨bl, 2, none⟩ = false :=
 ⟨(qg h.hl 0).trans rfl, (qg h.hl 1).trans rfl, (qg h.hl 2).trans rfl, (qg h.hv 0).trans rfl, qf h.hl 0, qf h.hl 1, qf h.hl 2⟩
end
structure VX (w0 w : World) (bl bv bm : Nat) (nu de er : Int) (met : List ByteArray) (x : S84) (A3 : Option Addr) (c3 : Nat) (A4 : Option Addr) (c4 : Nat) (W : World) : Prop where
 vs : VS w0 w bl bv bm nu de er met W
 hx : W.heap[w.heap.size]? = some (.cells #[.string x.f0, .string x.f1, .string x.f2, .slice A3 x.f3.length c3, .slice A4 x.f4.length c4] 84 (0, 0))
section
variable {w0 w W W1 : World} {bl bv bm : Nat} {nu de er : Int} {met : List ByteArray} {x : S84} {A3 A4 : Option Addr} {c3 c4 : Nat}
theorem VX.below (h : VX w0 w bl bv bm nu de er met x A3 c3 A4 c4 W) (hb : Below W.heap.size W W1) : VX w0 w bl bv bm nu de er met x A3 c3 A4 c4 W1 := ⟨h.vs.below hb, qjb h.hx hb⟩
theorem VX.ne (h : VX w0 w bl bv bm nu de er met x A3 c3 A4 c4 W) : w.heap.size ≠ bl := blk_ne h.hx h.vs.hl (by decide)
theorem VX.set0 (h : VX w0 w bl bv bm nu de er met x A3 c3 A4 c4 W) (y : Int) : VX w0 w bl bv bm y de er met x A3 c3 A4 c4 (W.setCell ⟨bl, 0, none⟩ (.int .i64 y)) := ⟨h.vs.set0 y, qkb h.hx h.ne _⟩
theorem VX.set1 (h : VX w0 w bl bv bm nu de er met x A3 c3 A4 c4 W) (y : Int) : VX w0 w bl bv bm nu y er met x A3 c3 A4 c4 (W.setCell ⟨bl, 1, none⟩ (.int .i64 y)) := ⟨h.vs.set1 y, qkb h.hx h.ne _⟩
theorem VX.set2 (h : VX w0 w bl bv bm nu de er met x A3 c3 A4 c4 W) (y : Int) : VX w0 w bl bv bm nu de y met x A3 c3 A4 c4 (W.setCell ⟨bl, 2, none⟩ (.int .i64 y)) := ⟨h.vs.set2 y, qkb h.hx h.ne _⟩
theorem VX.map (h : VX w0 w bl bv bm nu de er met x A3 c3 A4 c4 W) {met1 : List ByteArray} (hm : OM W1 bm met1) (hg : W.grownBy W1 (some bm)) : VX w0 w bl bv bm nu de er met1 x A3 c3 A4 c4 W1 :=
 ⟨h.vs.map hm hg, blk_grown h.hx hg (fun e => h.vs.hm.ne h.hx (Option.some.inj e).symm)⟩
theorem VX.look (h : VX w0 w bl bv bm nu de er met x A3 c3 A4 c4 W) : W.cell? ⟨w.heap.size, 0, none⟩ = some (.string x.f0) ∧ W.cell? ⟨w.heap.size, 1, none⟩ = some (.string x.f1) ∧ W.cell? ⟨w.heap.size, 2, none⟩ = some (.string x.f2) ∧ W.cell? ⟨w.heap.size, 3, none⟩ = some (.slice A3 x.f3.length c3) ∧ W.cell? ⟨w.heap.size, 4, none⟩ = some (.slice A4 x.f4.length c4) :=
 ⟨(qg h.hx 0).trans rfl, (qg h.hx 1).trans rfl, (qg h.hx 2).trans rfl, (qg h.hx 3).trans rfl, (qg h.hx 4).trans rfl⟩
theorem VX.fresh (h : VX w0 w bl bv bm nu de er met x A3 c3 A4 c4 W) {bn : Nat} {mm : List ByteArray} (hn : bm < w.heap.size ∧ w.heap.size < bn) (hm : OM W bn mm) : VS w0 W bl bv bn nu de er mm W :=
 ⟨h.vs.hl, h.vs.hv, hm, h.vs.gl, by have := h.vs.gm; omega, h.vs.hb, KeepBut.refl _ _ _⟩
theorem VX.call (h : VX w0 w bl bv bm nu de er met x A3 c3 A4 c4 W) {bn : Nat} {nu2 de2 er2 : Int} {mm : List ByteArray} (hn : bm < w.heap.size ∧ w.heap.size < bn) (h2 : VS w0 W bl bv bn nu2 de2 er2 mm W1) : VX w0 w bl bv bm nu2 de2 er2 met x A3 c3 A4 c4 W1 :=
 ⟨⟨h2.hl, h2.hv, h.vs.hm.frame (h2.hk.2 bm h.vs.lt.2.2 h.vs.ne.2.1 (fun e => by have := Option.some.inj e; omega)), h.vs.gl, h.vs.gm, h2.hb, h.vs.hk.trans h2.hk (.inr ⟨bn, rfl, by omega⟩)⟩, h2.hk.blk h.hx h.ne (fun e => by have := Option.some.inj e; omega)⟩
end
set_option maxHeartbeats 8000000 in
set_option maxRecDepth 100000 in
theorem qz.visit_calls (bl bv : Nat) (w0 : World) : ∀ (k : Nat) (x : S84) (A3 : Option Addr) (c3 : Nat) (A4 : Option Addr) (c4 : Nat) (d nu de er : Int) (met : List ByteArray) (bm : Nat) (b : Bool) (nu1 de1 er1 : Int) (met1 : List ByteArray) (w : World),
  Kd.C k48 w0 A3 x.f3.length x.f3 → x.f3.length ≤ c3 → Kd.C k84 w0 A4 x.f4.length x.f4 → x.f4.length ≤ c4 → VS w0 w bl bv bm nu de er met w → qz.visit k x d nu de met = some (b, nu1, de1, er1, met1) →
  Calls Tryd.prog 72 #[.agg #[.string x.f0, .string x.f1, .string x.f2, .slice A3 x.f3.length c3, .slice A4 x.f4.length c4], .int .i64 d, .map (some bm), .pointer (some ⟨bl, 0, none⟩), .pointer (some ⟨bv, 0, none⟩)] w fun e w' => e = .returned (.bool b) ∧ VS w0 w bl bv bm nu1 de1 er1 met1 w' := by
 intro k
 induction k with
 | zero => intro x A3 c3 A4 c4 d nu de er met bm b nu1 de1 er1 met1 w _ _ _ _ _ h; cases h
 | succ k ih =>
  intro x A3 c3 A4 c4 d nu de er met bm b nu1 de1 er1 met1 w hr3 hc3 hr4 hc4 hvs h
  obtain ⟨x0, x1, x2, x3, x4⟩ := x
  dsimp only at *
  unfold qz.visit at h
  dsimp only at h
  by_cases hg : 0 ≤ nu ∧ nu ≤ 4096 ∧ 0 ≤ d ∧ d ≤ 65 ∧ met.length ≤ 4096 ∧ x1.size ≤ 1000000000
  rotate_left
  ·rw [if_neg hg] at h
   cases h
  rw [if_pos hg] at h
  obtain ⟨hnu0, hnu1, hd0, hd1, hml, hxs⟩ := hg
  obtain ⟨e, he, h2⟩ := Option.bind_eq_some_iff.1 h
  have IH := qa.mk ih
  have HR3 := qa.mk (And.intro hr3 hc3)
  have HR4 := qa.mk (And.intro hr4 hc4)
  have HVS := qa.mk hvs
  have HE := qa.mk he
  have HH := qa.mk h2
  have HXS := qa.mk (And.intro hml hxs)
  clear ih hr3 hc3 hr4 hc4 hvs he h h2 hml hxs
  have hu86 := Tryd.underlying84
  have hu124 := Tryd.underlying112
  have HX0 := qa.mk (show VX w0 w bl bv bm nu de er met ⟨x0, x1, x2, x3, x4⟩ A3 c3 A4 c4 (w.alloc (.cells #[.string x0, .string x1, .string x2, .slice A3 x3.length c3, .slice A4 x4.length c4] 84)) from ⟨HVS.out.below (qc (Below.refl _ _) _), blk_new _ _⟩)
  obtain ⟨hp0, hp1, hp2, hp3, hp4, hp5, hp6⟩ := HX0.out.vs.look
  obtain ⟨hq0, hq1, hq2, hq3, hq4⟩ := HX0.out.look
  go_enter Tryd.func72, Tryd.ntmps72
  go_upto_block 0 with fail
  have HX1 := qa.mk (HX0.out.set1 (mx de d))
  have HBM := qa.mk HVS.out.lt.2.2
  clear hp0 hp1 hp2 hp3 hp4 hp5 hp6 hq0 hq1 hq2 hq3 hq4 HX0 HVS
  unfold mx at HX1 HH
  generalize (if de < d then d else de) = de2 at *
  generalize ((w.alloc (.cells #[.string x0, .string x1, .string x2, .slice A3 x3.length c3, .slice A4 x4.length c4] 84)).setCell ⟨bl, 1, none⟩ (.int .i64 de2)) = w1 at *
  obtain ⟨hp0, hp1, hp2, hp3, hp4, hp5, hp6⟩ := HX1.out.vs.look
  obtain ⟨hq0, hq1, hq2, hq3, hq4⟩ := HX1.out.look
  go_cut [] (fun wc => qa (VX w0 w bl bv bm nu de2 e met ⟨x0, x1, x2, x3, x4⟩ A3 c3 A4 c4 wc))
  case first =>
   have he := HE.out
   clear HE HH
   by_cases h1 : nu = 4096
   ·rw [if_pos h1] at he
    obtain rfl := Option.some.inj he
    subst h1
    go_wp2_with fail
    go_meet
    exact ⟨HX1.out.set2 12⟩
   ·rw [if_neg h1] at he
    have h1b : (nu == 4096) = false := by simpa using h1
    by_cases h2 : d > 64
    ·rw [if_pos h2] at he
     obtain rfl := Option.some.inj he
     go_wp2_with fail
     go_meet
     exact ⟨HX1.out.set2 11⟩
    ·rw [if_neg h2] at he
     have HE := qa.mk he
     clear he
     go_wp2_with (go_at_call 73; refine (vtree_wrong.calls k _ _ _ _ _ _ _ _ _ _ _ (Kd.C_below HR3.out.1 HX1.out.vs.hb) HR3.out.2 (Kd.C_below HR4.out.1 HX1.out.vs.hb) HR4.out.2 HE.out).mono ?_; rintro e2 w2 ⟨rfl, hb2⟩; have HX2 := qa.mk (HX1.out.below hb2); obtain ⟨hr0, hr1, hr2, hr3, hr4, hr5, hr6⟩ := HX2.out.vs.look; clear hb2)
     go_meet
     exact ⟨HX2.out.set2 e⟩
  case rest =>
   clear hp0 hp1 hp2 hp3 hp4 hp5 hp6 hq0 hq1 hq2 hq3 hq4 HX1 HE
   have HX1 := hcut
   clear hcut
   obtain ⟨hp0, hp1, hp2, hp3, hp4, hp5, hp6⟩ := HX1.out.vs.look
   obtain ⟨hq0, hq1, hq2, hq3, hq4⟩ := HX1.out.look
   have hz : ∀ w, (zeroValue 121).run Tryd.prog w = .ok (.agg #[]) w := fun w => by kernel_rfl
   have hlen : x1.size ≤ maxLen := by have := HXS.out.2; unfold maxLen; omega
   have HLEN := qa.mk hlen
   have HZ := qa.mk hz
   clear hz hlen
   go_upto_region 8 with (at_lookup; refine wpList_lookup_own_unit _ rfl _ _ 119 rfl 9 121 (Maps.string_keyed Tryd.underlying9) Tryd.underlying119 (HZ.out _) bm _ (mset met) rfl HX1.out.vs.hm _ (.string x1.data.toList) rfl (WideMaps.keyOf_string_mk Tryd.underlying9 HLEN.out) ?_)
   have HHAS := qa.mk (OM.has met x1)
   have HX2 := qa.mk (HX1.out.below (qc (Below.refl _ _) (.cells #[] 121)))
   clear hp0 hp1 hp2 hp3 hp4 hp5 hp6 hq0 hq1 hq2 hq3 hq4 HX1 HZ HLEN
   generalize wc.alloc (.cells #[] 121) = w2 at *
   generalize Maps.has (mset met) (.string x1.data.toList) = hs at *
   obtain ⟨hp0, hp1, hp2, hp3, hp4, hp5, hp6⟩ := HX2.out.vs.look
   obtain ⟨hq0, hq1, hq2, hq3, hq4⟩ := HX2.out.look
   have hh := HH.out
   rw [← HHAS.out] at hh
   clear HHAS HH
   by_cases he0 : e = 0
   rotate_left
   ·rw [if_neg he0] at hh
    simp only [Option.some.injEq, Prod.mk.injEq] at hh
    obtain ⟨rfl, rfl, rfl, rfl, rfl⟩ := hh
    have heb : (e == 0) = false := by simpa using he0
    have hen : (e != 0) = true := by simpa using he0
    go_wp2_with fail
    go_ret
    exact ⟨rfl, HX2.out.vs⟩
   subst he0
   rw [if_pos rfl] at hh
   cases hs
   rotate_left
   ·rw [if_pos rfl] at hh
    simp only [Option.some.injEq, Prod.mk.injEq] at hh
    obtain ⟨rfl, rfl, rfl, rfl, rfl⟩ := hh
    go_wp2_with fail
    go_ret
    exact ⟨rfl, (HX2.out.set2 10).vs⟩
   rw [if_neg Bool.false_ne_true] at hh
   obtain ⟨⟨tb, tn, td, te⟩, htk, hq⟩ := Option.bind_eq_some_iff.1 hh
   clear hh
   dsimp only at hq
   simp only [Option.some.injEq, Prod.mk.injEq] at hq
   obtain ⟨rfl, rfl, rfl, rfl, rfl⟩ := hq
   have HTK := qa.mk htk
   clear htk
   go_upto_if 50 with fail
   go_cut [] (fun wc => qa (VX w0 w bl bv bm nu de2 0 (qz.add met x1) ⟨x0, x1, x2, x3, x4⟩ A3 c3 A4 c4 wc))
   case first =>
    clear hp0 hp1 hp2 hp3 hp4 hp5 hp6 HTK IH
    have HEM := qa.mk (show x1.toList.isEmpty = x1.data.toList.isEmpty by rw [Lib.toList_data])
    have HLEN := qa.mk (show x1.size ≤ maxLen by have := HXS.out.2; unfold maxLen; omega)
    have HLM := qa.mk (show met.length < maxLen by have := HXS.out.1; unfold maxLen; omega)
    generalize x1.toList.isEmpty = em at *
    cases em
    ·have hk : ¬ x1.data.toList = [] := by have := HEM.out; intro h; rw [h] at this; cases this
     go_wp2_with (at_mapUpdate; refine wpList_mapUpdate_own _ rfl _ _ _ 119 rfl 9 121 (Maps.string_keyed Tryd.underlying9) Tryd.underlying119 (unitElem (H := Unit)) bm met.length (mset met) rfl HX2.out.vs.hm HLM.out _ _ (.string x1.data.toList) rfl rfl (WideMaps.keyOf_string_mk Tryd.underlying9 HLEN.out) (.agg []) [] unitElem_mk ?_; intro w3 hown3 hgrow3)
     go_meet
     refine ⟨?_⟩
     unfold qz.add
     rw [if_neg hk]
     rw [OM.put] at hown3
     exact HX2.out.map (by unfold OM; rw [List.length_append]; exact hown3) hgrow3
    ·have hk : x1.data.toList = [] := by have := HEM.out; rw [eq_comm, List.isEmpty_iff] at this; exact this
     go_wp2_with fail
     go_meet
     refine ⟨?_⟩
     unfold qz.add
     rw [if_pos hk]
     exact HX2.out
   case rest =>
    clear hp0 hp1 hp2 hp3 hp4 hp5 hp6 hq0 hq1 hq2 hq3 hq4 HX2 HXS
    have HX3 := hcut
    clear hcut
    obtain ⟨hp0, hp1, hp2, hp3, hp4, hp5, hp6⟩ := HX3.out.vs.look
    obtain ⟨hq0, hq1, hq2, hq3, hq4⟩ := HX3.out.look
    go_upto_region 15 with fail
    have HX4 := qa.mk (HX3.out.set0 (nu + 1))
    clear hp0 hp1 hp2 hp3 hp4 hp5 hp6 hq0 hq1 hq2 hq3 hq4 HX3
    generalize wc.setCell ⟨bl, 0, none⟩ (.int .i64 (nu + 1)) = w4 at *
    have hmm := @run_makeMap Tryd.prog
    go_upto_region 16 with fail
    have HM5 := qa.mk (show OM (w4.alloc (.map #[] 0)) w4.heap.size [] from World.ownsMap_made _ _ _ _)
    have HX5 := qa.mk (HX4.out.below (qc (Below.refl _ _) (.map #[] 0)))
    have HLT := qa.mk (And.intro HBM.out (show w.heap.size < w4.heap.size from blk_lt HX4.out.hx))
    generalize w4.alloc (.map #[] 0) = w5 at *
    generalize w4.heap.size = bn at *
    clear HX4 hmm
    obtain ⟨hq0, hq1, hq2, hq3, hq4⟩ := HX5.out.look
    go_wp2_with fail
    clear hq0 hq1 hq2 hq3 hq4
    have hlx := Kd.C_max HR4.out.1
    go_loopg [63] (x4.length + 1) (fun kq v63 w' => ∃ (i : Nat) (nn dd ee : Int) (mm : List ByteArray), v63 = .int .i64 (i : Int) ∧ qa (i ≤ x4.length ∧ kq = x4.length + 1 - i) ∧ qa (qz.kids (fun y a b m => qz.visit k y (d + 1) a b m) (x4.drop i) nn dd ee mm = some (tb, tn, td, te)) ∧ qa (VX w0 w bl bv bm nn dd ee (qz.add met x1) ⟨x0, x1, x2, x3, x4⟩ A3 c3 A4 c4 w' ∧ OM w' bn mm))
    case atStart => exact ⟨0, _, _, _, _, rfl, ⟨Nat.zero_le _, rfl⟩, HTK, ⟨HX5.out, HM5.out⟩⟩
    case round =>
     clear HX5 HM5 HTK
     obtain ⟨i, nn, dd, ee, mm, rfl, HK, HKD, HXM⟩ := hrel
     obtain ⟨hk1, hk2⟩ := HK.out
     clear HK
     subst hk2
     by_cases hi : i < x4.length
     ·obtain ⟨ad, B3, e3, B4, e4, eA, hy0, hy1, hy2, hy3, hy4, hl3, hg3, hl4, hg4⟩ := at_T84 HR4.out.1 (i : Int) (by omega) (by omega)
      cases eA
      replace hy0 := (HXM.out.1.vs.hb.cell (qic w0 _ hy0)).trans hy0
      replace hy1 := (HXM.out.1.vs.hb.cell (qic w0 _ hy1)).trans hy1
      replace hy2 := (HXM.out.1.vs.hb.cell (qic w0 _ hy2)).trans hy2
      replace hy3 := (HXM.out.1.vs.hb.cell (qic w0 _ hy3)).trans hy3
      replace hy4 := (HXM.out.1.vs.hb.cell (qic w0 _ hy4)).trans hy4
      rw [Int.toNat_natCast] at hy0 hy1 hy2 hy3 hy4
      have hkd := HKD.out
      have hdr : x4.drop i = rd_T84 x4 (i : Int) :: x4.drop (i + 1) := by
       rw [List.drop_eq_getElem_cons hi]
       unfold rd_T84
       rw [Int.toNat_natCast, List.getD_eq_getElem?_getD, List.getElem?_eq_getElem hi]
       rfl
      rw [hdr] at hkd
      have HG3 := qa.mk (And.intro hg3 hl3)
      have HG4 := qa.mk (And.intro hg4 hl4)
      clear hdr HKD hg3 hl3 hg4 hl4
      generalize rd_T84 x4 (i : Int) = y at *
      obtain ⟨y0, y1, y2, y3, y4⟩ := y
      dsimp only at *
      unfold qz.kids at hkd
      obtain ⟨⟨vb, vn, vd, ve, vm⟩, hvis, hkd2⟩ := Option.bind_eq_some_iff.1 hkd
      dsimp only at hkd2
      have HVIS := qa.mk hvis
      have HKD := qa.mk hkd2
      clear hvis hkd hkd2
      have HX6 := qa.mk (HXM.out.1.below (qc (Below.refl _ _) (.cells #[.string y0, .string y1, .string y2, .slice B3 y3.length e3, .slice B4 y4.length e4] 84)))
      have HM6 := qa.mk (HXM.out.2.frame (Below.heap_alloc wr (.cells #[.string y0, .string y1, .string y2, .slice B3 y3.length e3, .slice B4 y4.length e4] 84) bn HXM.out.2.lt))
      have hil : (i : Int) < (x4.length : Int) := by omega
      go_upto_region 19 with fail
      have HZ := qa.mk (blk_new wr (.cells #[.string y0, .string y1, .string y2, .slice B3 y3.length e3, .slice B4 y4.length e4] 84))
      clear hy0 hy1 hy2 hy3 hy4 HXM
      generalize wr.alloc (.cells #[.string y0, .string y1, .string y2, .slice B3 y3.length e3, .slice B4 y4.length e4] 84) = w6 at *
      have hz0 : _ = some (Value.string y0) := qg HZ.out 0
      have hz1 : _ = some (Value.string y1) := qg HZ.out 1
      have hz2 : _ = some (Value.string y2) := qg HZ.out 2
      have hz3 : _ = some (Value.slice B3 y3.length e3) := qg HZ.out 3
      have hz4 : _ = some (Value.slice B4 y4.length e4) := qg HZ.out 4
      have hfv : w6.cell? ⟨bv, 0, none⟩ = some (.func (.func 72) #[] #[.pointer (some ⟨bl, 0, none⟩), .pointer (some ⟨bv, 0, none⟩)]) := HX6.out.vs.look.2.2.2.1
      have hcall := IH.out ⟨y0, y1, y2, y3, y4⟩ B3 e3 B4 e4 (d + 1) nn dd ee mm bn vb vn vd ve vm w6 HG3.out.1 HG3.out.2 HG4.out.1 HG4.out.2 (HX6.out.fresh HLT.out HM6.out) HVIS.out
      dsimp only at hcall
      have HCALL := qa.mk hcall
      clear hcall
      cases vb
      ·go_wp2_with (go_at_call 72; go_loud (refine HCALL.out.mono ?_); rintro e w7 ⟨rfl, hvs7⟩; have HVS7 := qa.mk hvs7; clear hvs7)
       have hkd := HKD.out
       rw [if_neg Bool.false_ne_true] at hkd
       simp only [Option.some.injEq, Prod.mk.injEq] at hkd
       obtain ⟨rfl, rfl, rfl, rfl⟩ := hkd
       go_ret
       exact ⟨rfl, (HX6.out.call HLT.out HVS7.out).vs⟩
      ·go_wp2_with (go_at_call 72; refine HCALL.out.mono ?_; rintro e w7 ⟨rfl, hvs7⟩; have HVS7 := qa.mk hvs7; clear hvs7)
       go_roundg (x4.length + 1 - (i + 1))
       case measure => omega
       case rel =>
        have hkd := HKD.out
        simp only [if_true] at hkd
        exact ⟨i + 1, _, _, _, _, by go_num, ⟨by omega, rfl⟩, ⟨hkd⟩, ⟨HX6.out.call HLT.out HVS7.out, HVS7.out.hm⟩⟩
     ·have hie : i = x4.length := by omega
      subst hie
      have hkd := HKD.out
      rw [List.drop_eq_nil_of_le (Nat.le_refl _)] at hkd
      unfold qz.kids at hkd
      simp only [Option.some.injEq, Prod.mk.injEq] at hkd
      obtain ⟨rfl, rfl, rfl, rfl⟩ := hkd
      go_wp2_with fail
      go_ret
      exact ⟨rfl, HXM.out.1.vs⟩
set_option maxHeartbeats 8000000 in
set_option maxRecDepth 100000 in
theorem qz.calls (k : Nat) (a0_0 : ByteArray) (a0_1 : ByteArray) (a0_2 : ByteArray) (A0_3 : Option Addr) (c0_3 : Nat) (l0_3 : List S48) (A0_4 : Option Addr) (c0_4 : Nat) (l0_4 : List S84) (r1 : Int) (r2 : Int) (r3 : Int) (w : World) (hr0_3 : Kd.C k48 w A0_3 l0_3.length l0_3) (hc0_3 : l0_3.length ≤ c0_3) (hr0_4 : Kd.C k84 w A0_4 l0_4.length l0_4) (hc0_4 : l0_4.length ≤ c0_4) (h : qz.f k a0_0 a0_1 a0_2 l0_3 l0_4 = some (r1, r2, r3)) :
  Calls Tryd.prog 65 #[.agg #[.string a0_0, .string a0_1, .string a0_2, .slice A0_3 l0_3.length c0_3, .slice A0_4 l0_4.length c0_4]] w fun e w' => e = .returned (.agg #[.int .i64 r1, .int .i64 r2, .int .i64 r3]) ∧ Below w.heap.size w w' := by
 obtain ⟨⟨vb, vn, vd, ve, vm⟩, hv, hq⟩ := Option.bind_eq_some_iff.1 h
 simp only [Option.some.injEq, Prod.mk.injEq] at hq
 obtain ⟨rfl, rfl, rfl⟩ := hq
 have HV := qa.mk hv
 have HR3 := qa.mk (And.intro hr0_3 hc0_3)
 have HR4 := qa.mk (And.intro hr0_4 hc0_4)
 clear h hv hr0_3 hc0_3 hr0_4 hc0_4
 have hu86 := Tryd.underlying84
 have hu124 := Tryd.underlying112
 have hmm := @run_makeMap Tryd.prog
 go_enter Tryd.func65, Tryd.ntmps65
 have hst := fun (w : World) (a : Addr) (fn : Fn) (first captured : Array Value) (m : Mode) => run_store Tryd.prog w a (.func fn first captured) m rfl
 go_upto_region 4 with fail
 have z1 : ∀ (W : World) (ob : Obj), (W.alloc ob).heap.size = W.heap.size + 1 := fun W ob => by simp
 have eX := qh (qh (qh (blk_new w (.cells #[.string a0_0, .string a0_1, .string a0_2, .slice A0_3 l0_3.length c0_3, .slice A0_4 l0_4.length c0_4] 84)) (.cells #[.int .i64 0, .int .i64 0, .int .i64 0] 112)) (.cells #[.int .i64 0, .int .i64 0, .int .i64 0] 112)) (.cells #[vfn (w.heap.size + 1 + 1) (w.heap.size + 1 + 1 + 1)] 118)
 have eR := qh (qh (blk_new (w.alloc (.cells #[.string a0_0, .string a0_1, .string a0_2, .slice A0_3 l0_3.length c0_3, .slice A0_4 l0_4.length c0_4] 84)) (.cells #[.int .i64 0, .int .i64 0, .int .i64 0] 112)) (.cells #[.int .i64 0, .int .i64 0, .int .i64 0] 112)) (.cells #[vfn (w.heap.size + 1 + 1) (w.heap.size + 1 + 1 + 1)] 118)
 have eL := qh (blk_new ((w.alloc (.cells #[.string a0_0, .string a0_1, .string a0_2, .slice A0_3 l0_3.length c0_3, .slice A0_4 l0_4.length c0_4] 84)).alloc (.cells #[.int .i64 0, .int .i64 0, .int .i64 0] 112)) (.cells #[.int .i64 0, .int .i64 0, .int .i64 0] 112)) (.cells #[vfn (w.heap.size + 1 + 1) (w.heap.size + 1 + 1 + 1)] 118)
 have eV := blk_new (((w.alloc (.cells #[.string a0_0, .string a0_1, .string a0_2, .slice A0_3 l0_3.length c0_3, .slice A0_4 l0_4.length c0_4] 84)).alloc (.cells #[.int .i64 0, .int .i64 0, .int .i64 0] 112)).alloc (.cells #[.int .i64 0, .int .i64 0, .int .i64 0] 112)) (.cells #[vfn (w.heap.size + 1 + 1) (w.heap.size + 1 + 1 + 1)] 118)
 have eB := qc (qc (qc (qc (Below.refl w.heap.size w) (.cells #[.string a0_0, .string a0_1, .string a0_2, .slice A0_3 l0_3.length c0_3, .slice A0_4 l0_4.length c0_4] 84)) (.cells #[.int .i64 0, .int .i64 0, .int .i64 0] 112)) (.cells #[.int .i64 0, .int .i64 0, .int .i64 0] 112)) (.cells #[vfn (w.heap.size + 1 + 1) (w.heap.size + 1 + 1 + 1)] 118)
 rw [z1] at eR
 rw [z1, z1] at eL
 rw [z1, z1, z1] at eV
 unfold vfn at eX eR eL eV eB
 generalize ((((w.alloc (.cells #[.string a0_0, .string a0_1, .string a0_2, .slice A0_3 l0_3.length c0_3, .slice A0_4 l0_4.length c0_4] 84)).alloc (.cells #[.int .i64 0, .int .i64 0, .int .i64 0] 112)).alloc (.cells #[.int .i64 0, .int .i64 0, .int .i64 0] 112)).alloc (.cells #[.func (.func 72) #[] #[.pointer (some ⟨w.heap.size + 1 + 1, 0, none⟩), .pointer (some ⟨w.heap.size + 1 + 1 + 1, 0, none⟩)]] 118)) = W at *
 clear z1
 have hx0 : _ = some (Value.string a0_0) := qg eX 0
 have hx1 : _ = some (Value.string a0_1) := qg eX 1
 have hx2 : _ = some (Value.string a0_2) := qg eX 2
 have hx3 : _ = some (Value.slice A0_3 l0_3.length c0_3) := qg eX 3
 have hx4 : _ = some (Value.slice A0_4 l0_4.length c0_4) := qg eX 4
 have hv0 : _ = some (Value.func (.func 72) #[] #[.pointer (some ⟨w.heap.size + 1 + 1, 0, none⟩), .pointer (some ⟨w.heap.size + 1 + 1 + 1, 0, none⟩)]) := qg eV 0
 have HVS := qa.mk (show VS w (W.alloc (.map #[] 0)) (w.heap.size + 1 + 1) (w.heap.size + 1 + 1 + 1) W.heap.size 0 0 0 [] (W.alloc (.map #[] 0)) from
  ⟨qh eL _, qh eV _, World.ownsMap_made _ _ _ _, by omega, eB.size, qc eB _, KeepBut.refl _ _ _⟩)
 have ER := qa.mk (And.intro (qh eR (.map #[] 0)) (blk_lt eR))
 clear eX eR eL eV eB
 go_upto_region 5 with (go_at_call 72; refine (qz.visit_calls _ _ w k ⟨a0_0, a0_1, a0_2, l0_3, l0_4⟩ _ _ _ _ 1 0 0 0 [] _ _ _ _ _ _ _ HR3.out.1 HR3.out.2 HR4.out.1 HR4.out.2 HVS.out HV.out).mono ?_; rintro e w7 ⟨rfl, hvs7⟩; have HVS7 := qa.mk hvs7; clear hvs7)
 obtain ⟨hp0, hp1, hp2, hp3, hp4, hp5, hp6⟩ := HVS7.out.look
 have eR7 := HVS7.out.hk.blk ER.out.1 (by omega) (fun e => by have := Option.some.inj e; have := ER.out.2; omega)
 have ER7 := qa.mk eR7
 have hr0 := qf eR7 0
 have hr1 := qf eR7 1
 have hr2 := qf eR7 2
 have hr3 : _ = some (Value.int .i64 0) := qg eR7 0
 have hr4 : _ = some (Value.int .i64 0) := qg eR7 1
 have hr5 : _ = some (Value.int .i64 0) := qg eR7 2
 clear eR7 ER hx0 hx1 hx2 hx3 hx4 hv0
 go_wp2_with fail
 (try simp only [Exit.inBlock, Exit.then])
 refine bodyPost_ret (v := .agg #[.int .i64 vn, .int .i64 vd, .int .i64 ve]) ?_ rfl ?_
 ·exact results_cell_row rfl _ _ (w.heap.size + 1) 112 #[.int .i64 vn, .int .i64 vd, .int .i64 ve] (0, 0) _ rfl (qq (qq (qq ER7.out 0 _ rfl) 1 _ rfl) 2 _ rfl) Tryd.underlying112 rfl (by kernel_rfl)
 ·exact ⟨rfl, qj (qj (qj HVS7.out.hb (by omega)) (by omega)) (by omega)⟩
def vtree_Check.f (k : Nat) (a0_0 : ByteArray) (a0_1 : ByteArray) (a0_2 : ByteArray) (l0_3 : List (S48)) (l0_4 : List (S84)) : Option (Int × Int) := (qz.f k a0_0 a0_1 a0_2 l0_3 l0_4).bind fun bt240 => (if bt240.2.2 = 0 then (some (0, 0)) else (some (bt240.1, bt240.2.2)))
theorem vtree_Check.mono : ∀ a0 a1 a2 a3 a4 k, LeO (vtree_Check.f k a0 a1 a2 a3 a4) (vtree_Check.f (k + 1) a0 a1 a2 a3 a4) := by
 intro a0 a1 a2 a3 a4 k
 unfold vtree_Check.f
 repeat' first
   | (with_reducible exact qz.mono _ _ _ _ _ _)
   | (with_reducible exact LeO.refl _)
   | (with_reducible exact LeO.none _)
   | (with_reducible refine LeO.ite ?_ ?_)
   | (with_reducible refine LeO.bind ?_ (fun _ => ?_))
   | exact qz.mono _ _ _ _ _ _
   | exact LeO.none _
   | refine LeO.ite ?_ ?_
   | refine LeO.bind ?_ (fun _ => ?_)
set_option maxHeartbeats 8000000 in
set_option maxRecDepth 100000 in
theorem vtree_Check.calls (k : Nat) (a0_0 : ByteArray) (a0_1 : ByteArray) (a0_2 : ByteArray) (A0_3 : Option Addr) (c0_3 : Nat) (l0_3 : List (S48)) (A0_4 : Option Addr) (c0_4 : Nat) (l0_4 : List (S84)) (r1 : Int) (r2 : Int) (w : World) (hr0_3 : Kd.C k48 w A0_3 l0_3.length l0_3) (hc0_3 : l0_3.length ≤ c0_3) (hr0_4 : Kd.C k84 w A0_4 l0_4.length l0_4) (hc0_4 : l0_4.length ≤ c0_4) (h : vtree_Check.f k a0_0 a0_1 a0_2 l0_3 l0_4 = some (r1, r2)) :
  Calls Tryd.prog 53 #[.agg #[.string a0_0, .string a0_1, .string a0_2, .slice A0_3 l0_3.length c0_3, .slice A0_4 l0_4.length c0_4]] w fun e w' => e = .returned (.tuple #[.int .i64 r1, .int .i64 r2]) ∧ Below w.heap.size w w' := by
 have hu84 := Tryd.underlying84
 have hu112 := Tryd.underlying112
 have HR0_3 := qa.mk hr0_3
 have HC0_3 := qa.mk hc0_3
 clear hr0_3 hc0_3
 have HR0_4 := qa.mk hr0_4
 have HC0_4 := qa.mk hc0_4
 clear hr0_4 hc0_4
 have HB := qa.mk (Below.refl w.heap.size w)
 have H : ((qz.f k a0_0 a0_1 a0_2 l0_3 l0_4).bind fun bt240 => (if bt240.2.2 = 0 then (some (0, 0)) else (some (bt240.1, bt240.2.2)))) = some (r1, r2) := h
 clear h
 replace H := Option.bind_eq_some_iff.mp H
 obtain ⟨⟨t240, t241, t242⟩, A20, H⟩ := H
 replace H : (if t242 = 0 then (some (0, 0)) else (some (t240, t242))) = some (r1, r2) := H
 have A2 := qa.mk A20
 clear A20
 by_cases c3 : t242 = 0
 ·rw [if_pos c3] at H
  have c3b0 : (t242 == 0) = true := beq_iff_eq.mpr c3
  have c3b1 : (t242 != 0) = false := bne_eq_false_iff_eq.mpr c3
  clear c3
  simp only [Option.some.injEq, Prod.mk.injEq] at H
  obtain ⟨rfl, rfl⟩ := H
  go_enter Tryd.func53, Tryd.ntmps53
  go_wp2_with (first | ((with_reducible refine qeb (N := 1) rfl ?_); refine qib ?hg (N := 1) ?hd (cs := #[.string a0_0, .string a0_1, .string a0_2, .slice A0_3 l0_3.length c0_3, .slice A0_4 l0_4.length c0_4]) (t := 84) ?hr ?_; (case hd => rfl); (case hg => rfl); (case hr => exact zz5); intro gb239 hg w4 hbox hb; have n0_ := qa.mk (qm zz24 hb); have n1_ := qa.mk (hbox); have n2_ := qa.mk ((by rw [hg]; exact (ql zz24) : w.heap.size ≤ gb239)); have n3_ := qa.mk ((by rw [hg]; exact (ql zz24) : w.heap.size ≤ gb239)); clear HB; have HB := n0_; have BK239 := n1_; have GW239 := n2_; have GE239 := n3_; clear n0_ n1_ n2_ n3_; clear hb hbox hg; have hcz5_0 : w4.cell? ⟨gb239, 0, none⟩ = some (.string a0_0) := (qg BK239.out 0).trans rfl; have hcz5_1 : w4.cell? ⟨gb239, 1, none⟩ = some (.string a0_1) := (qg BK239.out 1).trans rfl; have hcz5_2 : w4.cell? ⟨gb239, 2, none⟩ = some (.string a0_2) := (qg BK239.out 2).trans rfl; have hcz5_3 : w4.cell? ⟨gb239, 3, none⟩ = some (.slice A0_3 l0_3.length c0_3) := (qg BK239.out 3).trans rfl; have hcz5_4 : w4.cell? ⟨gb239, 4, none⟩ = some (.slice A0_4 l0_4.length c0_4) := (qg BK239.out 4).trans rfl; have hfz5_0 := qf BK239.out 0; have hfz5_1 := qf BK239.out 1; have hfz5_2 := qf BK239.out 2; have hfz5_3 := qf BK239.out 3; have hfz5_4 := qf BK239.out 4) | (go_at_call 65; (with_reducible refine (qz.calls k a0_0 a0_1 a0_2 _ _ l0_3 _ _ l0_4 t240 t241 t242 _ ?side1 ?side2 ?side3 ?side4 A2.out).mono ?_); (case side1 => exact zz90); (case side2 => exact HC0_3.out); (case side3 => exact zz91); (case side4 => exact HC0_4.out); rintro e w6 ⟨rfl, hb⟩; have n0_ := qa.mk (qjb (g := gb239) (o := .cells #[.string a0_0, .string a0_1, .string a0_2, .slice A0_3 l0_3.length c0_3, .slice A0_4 l0_4.length c0_4] 84 (0, 0)) zz17 hb); have n1_ := qa.mk (qm zz41 hb); clear BK239; clear HB; have BK239 := n0_; have HB := n1_; clear n0_ n1_; (try clear hb); (try clear hb2); (try clear hk); (try clear hi)) | ((with_reducible refine qeb (N := 4) rfl ?_); refine qib ?hg (N := 4) ?hd (cs := #[.int .i64 0, .int .i64 0, .int .i64 0]) (t := 112) ?hr ?_; (case hd => rfl); (case hg => rfl); (case hr => exact zz5); intro gb243 hg w7 hbox hb; have n0_ := qa.mk (qjb (g := gb239) (o := .cells #[.string a0_0, .string a0_1, .string a0_2, .slice A0_3 l0_3.length c0_3, .slice A0_4 l0_4.length c0_4] 84 (0, 0)) zz17 hb); have n1_ := qa.mk (qm zz41 hb); have n2_ := qa.mk (hbox); have n3_ := qa.mk ((by rw [hg]; exact (ql zz41) : w.heap.size ≤ gb243)); have n4_ := qa.mk ((by rw [hg]; exact (ql zz41) : w.heap.size ≤ gb243)); have n5_ := qa.mk ((by rw [hg]; exact qkc (blk_lt (g := gb239) (o := .cells #[.string a0_0, .string a0_1, .string a0_2, .slice A0_3 l0_3.length c0_3, .slice A0_4 l0_4.length c0_4] 84 (0, 0)) zz17) : gb239 ≠ gb243)); have n6_ := qa.mk ((by rw [hg]; exact Nat.ne_of_gt (blk_lt (g := gb239) (o := .cells #[.string a0_0, .string a0_1, .string a0_2, .slice A0_3 l0_3.length c0_3, .slice A0_4 l0_4.length c0_4] 84 (0, 0)) zz17) : gb243 ≠ gb239)); clear BK239; clear HB; have BK239 := n0_; have HB := n1_; have BK243 := n2_; have GW243 := n3_; have GE243 := n4_; have NB239_243 := n5_; have NB243_239 := n6_; clear n0_ n1_ n2_ n3_ n4_ n5_ n6_; clear hb hbox hg; have hnb8 := NB243_239.out; have hnc8 := NB239_243.out; have hcz9_0 : w7.cell? ⟨gb243, 0, none⟩ = some (.int .i64 0) := (qg BK243.out 0).trans rfl; have hcz9_1 : w7.cell? ⟨gb243, 1, none⟩ = some (.int .i64 0) := (qg BK243.out 1).trans rfl; have hcz9_2 : w7.cell? ⟨gb243, 2, none⟩ = some (.int .i64 0) := (qg BK243.out 2).trans rfl; have hfz9_0 := qf BK243.out 0; have hfz9_1 := qf BK243.out 1; have hfz9_2 := qf BK243.out 2))
  repeat (go_quiet (first | ((with_reducible refine qeb (N := 1) rfl ?_); refine qib ?hg (N := 1) ?hd (cs := #[.string a0_0, .string a0_1, .string a0_2, .slice A0_3 l0_3.length c0_3, .slice A0_4 l0_4.length c0_4]) (t := 84) ?hr ?_; (case hd => rfl); (case hg => rfl); (case hr => exact zz5); intro gb239 hg w4 hbox hb; have n0_ := qa.mk (qm zz24 hb); have n1_ := qa.mk (hbox); have n2_ := qa.mk ((by rw [hg]; exact (ql zz24) : w.heap.size ≤ gb239)); have n3_ := qa.mk ((by rw [hg]; exact (ql zz24) : w.heap.size ≤ gb239)); clear HB; have HB := n0_; have BK239 := n1_; have GW239 := n2_; have GE239 := n3_; clear n0_ n1_ n2_ n3_; clear hb hbox hg; have hcz5_0 : w4.cell? ⟨gb239, 0, none⟩ = some (.string a0_0) := (qg BK239.out 0).trans rfl; have hcz5_1 : w4.cell? ⟨gb239, 1, none⟩ = some (.string a0_1) := (qg BK239.out 1).trans rfl; have hcz5_2 : w4.cell? ⟨gb239, 2, none⟩ = some (.string a0_2) := (qg BK239.out 2).trans rfl; have hcz5_3 : w4.cell? ⟨gb239, 3, none⟩ = some (.slice A0_3 l0_3.length c0_3) := (qg BK239.out 3).trans rfl; have hcz5_4 : w4.cell? ⟨gb239, 4, none⟩ = some (.slice A0_4 l0_4.length c0_4) := (qg BK239.out 4).trans rfl; have hfz5_0 := qf BK239.out 0; have hfz5_1 := qf BK239.out 1; have hfz5_2 := qf BK239.out 2; have hfz5_3 := qf BK239.out 3; have hfz5_4 := qf BK239.out 4) | (go_at_call 65; (with_reducible refine (qz.calls k a0_0 a0_1 a0_2 _ _ l0_3 _ _ l0_4 t240 t241 t242 _ ?side1 ?side2 ?side3 ?side4 A2.out).mono ?_); (case side1 => exact zz90); (case side2 => exact HC0_3.out); (case side3 => exact zz91); (case side4 => exact HC0_4.out); rintro e w6 ⟨rfl, hb⟩; have n0_ := qa.mk (qjb (g := gb239) (o := .cells #[.string a0_0, .string a0_1, .string a0_2, .slice A0_3 l0_3.length c0_3, .slice A0_4 l0_4.length c0_4] 84 (0, 0)) zz17 hb); have n1_ := qa.mk (qm zz41 hb); clear BK239; clear HB; have BK239 := n0_; have HB := n1_; clear n0_ n1_; (try clear hb); (try clear hb2); (try clear hk); (try clear hi)) | ((with_reducible refine qeb (N := 4) rfl ?_); refine qib ?hg (N := 4) ?hd (cs := #[.int .i64 0, .int .i64 0, .int .i64 0]) (t := 112) ?hr ?_; (case hd => rfl); (case hg => rfl); (case hr => exact zz5); intro gb243 hg w7 hbox hb; have n0_ := qa.mk (qjb (g := gb239) (o := .cells #[.string a0_0, .string a0_1, .string a0_2, .slice A0_3 l0_3.length c0_3, .slice A0_4 l0_4.length c0_4] 84 (0, 0)) zz17 hb); have n1_ := qa.mk (qm zz41 hb); have n2_ := qa.mk (hbox); have n3_ := qa.mk ((by rw [hg]; exact (ql zz41) : w.heap.size ≤ gb243)); have n4_ := qa.mk ((by rw [hg]; exact (ql zz41) : w.heap.size ≤ gb243)); have n5_ := qa.mk ((by rw [hg]; exact qkc (blk_lt (g := gb239) (o := .cells #[.string a0_0, .string a0_1, .string a0_2, .slice A0_3 l0_3.length c0_3, .slice A0_4 l0_4.length c0_4] 84 (0, 0)) zz17) : gb239 ≠ gb243)); have n6_ := qa.mk ((by rw [hg]; exact Nat.ne_of_gt (blk_lt (g := gb239) (o := .cells #[.string a0_0, .string a0_1, .string a0_2, .slice A0_3 l0_3.length c0_3, .slice A0_4 l0_4.length c0_4] 84 (0, 0)) zz17) : gb243 ≠ gb239)); clear BK239; clear HB; have BK239 := n0_; have HB := n1_; have BK243 := n2_; have GW243 := n3_; have GE243 := n4_; have NB239_243 := n5_; have NB243_239 := n6_; clear n0_ n1_ n2_ n3_ n4_ n5_ n6_; clear hb hbox hg; have hnb8 := NB243_239.out; have hnc8 := NB239_243.out; have hcz9_0 : w7.cell? ⟨gb243, 0, none⟩ = some (.int .i64 0) := (qg BK243.out 0).trans rfl; have hcz9_1 : w7.cell? ⟨gb243, 1, none⟩ = some (.int .i64 0) := (qg BK243.out 1).trans rfl; have hcz9_2 : w7.cell? ⟨gb243, 2, none⟩ = some (.int .i64 0) := (qg BK243.out 2).trans rfl; have hfz9_0 := qf BK243.out 0; have hfz9_1 := qf BK243.out 1; have hfz9_2 := qf BK243.out 2)); try go_wp2_with (first | ((with_reducible refine qeb (N := 1) rfl ?_); refine qib ?hg (N := 1) ?hd (cs := #[.string a0_0, .string a0_1, .string a0_2, .slice A0_3 l0_3.length c0_3, .slice A0_4 l0_4.length c0_4]) (t := 84) ?hr ?_; (case hd => rfl); (case hg => rfl); (case hr => exact zz5); intro gb239 hg w4 hbox hb; have n0_ := qa.mk (qm zz24 hb); have n1_ := qa.mk (hbox); have n2_ := qa.mk ((by rw [hg]; exact (ql zz24) : w.heap.size ≤ gb239)); have n3_ := qa.mk ((by rw [hg]; exact (ql zz24) : w.heap.size ≤ gb239)); clear HB; have HB := n0_; have BK239 := n1_; have GW239 := n2_; have GE239 := n3_; clear n0_ n1_ n2_ n3_; clear hb hbox hg; have hcz5_0 : w4.cell? ⟨gb239, 0, none⟩ = some (.string a0_0) := (qg BK239.out 0).trans rfl; have hcz5_1 : w4.cell? ⟨gb239, 1, none⟩ = some (.string a0_1) := (qg BK239.out 1).trans rfl; have hcz5_2 : w4.cell? ⟨gb239, 2, none⟩ = some (.string a0_2) := (qg BK239.out 2).trans rfl; have hcz5_3 : w4.cell? ⟨gb239, 3, none⟩ = some (.slice A0_3 l0_3.length c0_3) := (qg BK239.out 3).trans rfl; have hcz5_4 : w4.cell? ⟨gb239, 4, none⟩ = some (.slice A0_4 l0_4.length c0_4) := (qg BK239.out 4).trans rfl; have hfz5_0 := qf BK239.out 0; have hfz5_1 := qf BK239.out 1; have hfz5_2 := qf BK239.out 2; have hfz5_3 := qf BK239.out 3; have hfz5_4 := qf BK239.out 4) | (go_at_call 65; (with_reducible refine (qz.calls k a0_0 a0_1 a0_2 _ _ l0_3 _ _ l0_4 t240 t241 t242 _ ?side1 ?side2 ?side3 ?side4 A2.out).mono ?_); (case side1 => exact zz90); (case side2 => exact HC0_3.out); (case side3 => exact zz91); (case side4 => exact HC0_4.out); rintro e w6 ⟨rfl, hb⟩; have n0_ := qa.mk (qjb (g := gb239) (o := .cells #[.string a0_0, .string a0_1, .string a0_2, .slice A0_3 l0_3.length c0_3, .slice A0_4 l0_4.length c0_4] 84 (0, 0)) zz17 hb); have n1_ := qa.mk (qm zz41 hb); clear BK239; clear HB; have BK239 := n0_; have HB := n1_; clear n0_ n1_; (try clear hb); (try clear hb2); (try clear hk); (try clear hi)) | ((with_reducible refine qeb (N := 4) rfl ?_); refine qib ?hg (N := 4) ?hd (cs := #[.int .i64 0, .int .i64 0, .int .i64 0]) (t := 112) ?hr ?_; (case hd => rfl); (case hg => rfl); (case hr => exact zz5); intro gb243 hg w7 hbox hb; have n0_ := qa.mk (qjb (g := gb239) (o := .cells #[.string a0_0, .string a0_1, .string a0_2, .slice A0_3 l0_3.length c0_3, .slice A0_4 l0_4.length c0_4] 84 (0, 0)) zz17 hb); have n1_ := qa.mk (qm zz41 hb); have n2_ := qa.mk (hbox); have n3_ := qa.mk ((by rw [hg]; exact (ql zz41) : w.heap.size ≤ gb243)); have n4_ := qa.mk ((by rw [hg]; exact (ql zz41) : w.heap.size ≤ gb243)); have n5_ := qa.mk ((by rw [hg]; exact qkc (blk_lt (g := gb239) (o := .cells #[.string a0_0, .string a0_1, .string a0_2, .slice A0_3 l0_3.length c0_3, .slice A0_4 l0_4.length c0_4] 84 (0, 0)) zz17) : gb239 ≠ gb243)); have n6_ := qa.mk ((by rw [hg]; exact Nat.ne_of_gt (blk_lt (g := gb239) (o := .cells #[.string a0_0, .string a0_1, .string a0_2, .slice A0_3 l0_3.length c0_3, .slice A0_4 l0_4.length c0_4] 84 (0, 0)) zz17) : gb243 ≠ gb239)); clear BK239; clear HB; have BK239 := n0_; have HB := n1_; have BK243 := n2_; have GW243 := n3_; have GE243 := n4_; have NB239_243 := n5_; have NB243_239 := n6_; clear n0_ n1_ n2_ n3_ n4_ n5_ n6_; clear hb hbox hg; have hnb8 := NB243_239.out; have hnc8 := NB239_243.out; have hcz9_0 : w7.cell? ⟨gb243, 0, none⟩ = some (.int .i64 0) := (qg BK243.out 0).trans rfl; have hcz9_1 : w7.cell? ⟨gb243, 1, none⟩ = some (.int .i64 0) := (qg BK243.out 1).trans rfl; have hcz9_2 : w7.cell? ⟨gb243, 2, none⟩ = some (.int .i64 0) := (qg BK243.out 2).trans rfl; have hfz9_0 := qf BK243.out 0; have hfz9_1 := qf BK243.out 1; have hfz9_2 := qf BK243.out 2)))
  go_ret2
  exact ⟨zz65, zz66⟩
 ·rw [if_neg c3] at H
  have c3b0 : (t242 == 0) = false := beq_eq_false_iff_ne.mpr c3
  have c3b1 : (t242 != 0) = true := bne_iff_ne.mpr c3
  simp only [Option.some.injEq, Prod.mk.injEq] at H
  obtain ⟨rfl, rfl⟩ := H
  go_enter Tryd.func53, Tryd.ntmps53
  go_wp2_with (first | ((with_reducible refine qeb (N := 1) rfl ?_); refine qib ?hg (N := 1) ?hd (cs := #[.string a0_0, .string a0_1, .string a0_2, .slice A0_3 l0_3.length c0_3, .slice A0_4 l0_4.length c0_4]) (t := 84) ?hr ?_; (case hd => rfl); (case hg => rfl); (case hr => exact zz5); intro gb239 hg w10 hbox hb; have n0_ := qa.mk (qm zz24 hb); have n1_ := qa.mk (hbox); have n2_ := qa.mk ((by rw [hg]; exact (ql zz24) : w.heap.size ≤ gb239)); have n3_ := qa.mk ((by rw [hg]; exact (ql zz24) : w.heap.size ≤ gb239)); clear HB; have HB := n0_; have BK239 := n1_; have GW239 := n2_; have GE239 := n3_; clear n0_ n1_ n2_ n3_; clear hb hbox hg; have hcz11_0 : w10.cell? ⟨gb239, 0, none⟩ = some (.string a0_0) := (qg BK239.out 0).trans rfl; have hcz11_1 : w10.cell? ⟨gb239, 1, none⟩ = some (.string a0_1) := (qg BK239.out 1).trans rfl; have hcz11_2 : w10.cell? ⟨gb239, 2, none⟩ = some (.string a0_2) := (qg BK239.out 2).trans rfl; have hcz11_3 : w10.cell? ⟨gb239, 3, none⟩ = some (.slice A0_3 l0_3.length c0_3) := (qg BK239.out 3).trans rfl; have hcz11_4 : w10.cell? ⟨gb239, 4, none⟩ = some (.slice A0_4 l0_4.length c0_4) := (qg BK239.out 4).trans rfl; have hfz11_0 := qf BK239.out 0; have hfz11_1 := qf BK239.out 1; have hfz11_2 := qf BK239.out 2; have hfz11_3 := qf BK239.out 3; have hfz11_4 := qf BK239.out 4) | (go_at_call 65; (with_reducible refine (qz.calls k a0_0 a0_1 a0_2 _ _ l0_3 _ _ l0_4 t240 t241 t242 _ ?side1 ?side2 ?side3 ?side4 A2.out).mono ?_); (case side1 => exact zz90); (case side2 => exact HC0_3.out); (case side3 => exact zz91); (case side4 => exact HC0_4.out); rintro e w12 ⟨rfl, hb⟩; have n0_ := qa.mk (qjb (g := gb239) (o := .cells #[.string a0_0, .string a0_1, .string a0_2, .slice A0_3 l0_3.length c0_3, .slice A0_4 l0_4.length c0_4] 84 (0, 0)) zz17 hb); have n1_ := qa.mk (qm zz41 hb); clear BK239; clear HB; have BK239 := n0_; have HB := n1_; clear n0_ n1_; (try clear hb); (try clear hb2); (try clear hk); (try clear hi)) | ((with_reducible refine qeb (N := 4) rfl ?_); refine qib ?hg (N := 4) ?hd (cs := #[.int .i64 0, .int .i64 0, .int .i64 0]) (t := 112) ?hr ?_; (case hd => rfl); (case hg => rfl); (case hr => exact zz5); intro gb243 hg w13 hbox hb; have n0_ := qa.mk (qjb (g := gb239) (o := .cells #[.string a0_0, .string a0_1, .string a0_2, .slice A0_3 l0_3.length c0_3, .slice A0_4 l0_4.length c0_4] 84 (0, 0)) zz17 hb); have n1_ := qa.mk (qm zz41 hb); have n2_ := qa.mk (hbox); have n3_ := qa.mk ((by rw [hg]; exact (ql zz41) : w.heap.size ≤ gb243)); have n4_ := qa.mk ((by rw [hg]; exact (ql zz41) : w.heap.size ≤ gb243)); have n5_ := qa.mk ((by rw [hg]; exact qkc (blk_lt (g := gb239) (o := .cells #[.string a0_0, .string a0_1, .string a0_2, .slice A0_3 l0_3.length c0_3, .slice A0_4 l0_4.length c0_4] 84 (0, 0)) zz17) : gb239 ≠ gb243)); have n6_ := qa.mk ((by rw [hg]; exact Nat.ne_of_gt (blk_lt (g := gb239) (o := .cells #[.string a0_0, .string a0_1, .string a0_2, .slice A0_3 l0_3.length c0_3, .slice A0_4 l0_4.length c0_4] 84 (0, 0)) zz17) : gb243 ≠ gb239)); clear BK239; clear HB; have BK239 := n0_; have HB := n1_; have BK243 := n2_; have GW243 := n3_; have GE243 := n4_; have NB239_243 := n5_; have NB243_239 := n6_; clear n0_ n1_ n2_ n3_ n4_ n5_ n6_; clear hb hbox hg; have hnb14 := NB243_239.out; have hnc14 := NB239_243.out; have hcz15_0 : w13.cell? ⟨gb243, 0, none⟩ = some (.int .i64 0) := (qg BK243.out 0).trans rfl; have hcz15_1 : w13.cell? ⟨gb243, 1, none⟩ = some (.int .i64 0) := (qg BK243.out 1).trans rfl; have hcz15_2 : w13.cell? ⟨gb243, 2, none⟩ = some (.int .i64 0) := (qg BK243.out 2).trans rfl; have hfz15_0 := qf BK243.out 0; have hfz15_1 := qf BK243.out 1; have hfz15_2 := qf BK243.out 2))
  repeat (go_quiet (first | ((with_reducible refine qeb (N := 1) rfl ?_); refine qib ?hg (N := 1) ?hd (cs := #[.string a0_0, .string a0_1, .string a0_2, .slice A0_3 l0_3.length c0_3, .slice A0_4 l0_4.length c0_4]) (t := 84) ?hr ?_; (case hd => rfl); (case hg => rfl); (case hr => exact zz5); intro gb239 hg w10 hbox hb; have n0_ := qa.mk (qm zz24 hb); have n1_ := qa.mk (hbox); have n2_ := qa.mk ((by rw [hg]; exact (ql zz24) : w.heap.size ≤ gb239)); have n3_ := qa.mk ((by rw [hg]; exact (ql zz24) : w.heap.size ≤ gb239)); clear HB; have HB := n0_; have BK239 := n1_; have GW239 := n2_; have GE239 := n3_; clear n0_ n1_ n2_ n3_; clear hb hbox hg; have hcz11_0 : w10.cell? ⟨gb239, 0, none⟩ = some (.string a0_0) := (qg BK239.out 0).trans rfl; have hcz11_1 : w10.cell? ⟨gb239, 1, none⟩ = some (.string a0_1) := (qg BK239.out 1).trans rfl; have hcz11_2 : w10.cell? ⟨gb239, 2, none⟩ = some (.string a0_2) := (qg BK239.out 2).trans rfl; have hcz11_3 : w10.cell? ⟨gb239, 3, none⟩ = some (.slice A0_3 l0_3.length c0_3) := (qg BK239.out 3).trans rfl; have hcz11_4 : w10.cell? ⟨gb239, 4, none⟩ = some (.slice A0_4 l0_4.length c0_4) := (qg BK239.out 4).trans rfl; have hfz11_0 := qf BK239.out 0; have hfz11_1 := qf BK239.out 1; have hfz11_2 := qf BK239.out 2; have hfz11_3 := qf BK239.out 3; have hfz11_4 := qf BK239.out 4) | (go_at_call 65; (with_reducible refine (qz.calls k a0_0 a0_1 a0_2 _ _ l0_3 _ _ l0_4 t240 t241 t242 _ ?side1 ?side2 ?side3 ?side4 A2.out).mono ?_); (case side1 => exact zz90); (case side2 => exact HC0_3.out); (case side3 => exact zz91); (case side4 => exact HC0_4.out); rintro e w12 ⟨rfl, hb⟩; have n0_ := qa.mk (qjb (g := gb239) (o := .cells #[.string a0_0, .string a0_1, .string a0_2, .slice A0_3 l0_3.length c0_3, .slice A0_4 l0_4.length c0_4] 84 (0, 0)) zz17 hb); have n1_ := qa.mk (qm zz41 hb); clear BK239; clear HB; have BK239 := n0_; have HB := n1_; clear n0_ n1_; (try clear hb); (try clear hb2); (try clear hk); (try clear hi)) | ((with_reducible refine qeb (N := 4) rfl ?_); refine qib ?hg (N := 4) ?hd (cs := #[.int .i64 0, .int .i64 0, .int .i64 0]) (t := 112) ?hr ?_; (case hd => rfl); (case hg => rfl); (case hr => exact zz5); intro gb243 hg w13 hbox hb; have n0_ := qa.mk (qjb (g := gb239) (o := .cells #[.string a0_0, .string a0_1, .string a0_2, .slice A0_3 l0_3.length c0_3, .slice A0_4 l0_4.length c0_4] 84 (0, 0)) zz17 hb); have n1_ := qa.mk (qm zz41 hb); have n2_ := qa.mk (hbox); have n3_ := qa.mk ((by rw [hg]; exact (ql zz41) : w.heap.size ≤ gb243)); have n4_ := qa.mk ((by rw [hg]; exact (ql zz41) : w.heap.size ≤ gb243)); have n5_ := qa.mk ((by rw [hg]; exact qkc (blk_lt (g := gb239) (o := .cells #[.string a0_0, .string a0_1, .string a0_2, .slice A0_3 l0_3.length c0_3, .slice A0_4 l0_4.length c0_4] 84 (0, 0)) zz17) : gb239 ≠ gb243)); have n6_ := qa.mk ((by rw [hg]; exact Nat.ne_of_gt (blk_lt (g := gb239) (o := .cells #[.string a0_0, .string a0_1, .string a0_2, .slice A0_3 l0_3.length c0_3, .slice A0_4 l0_4.length c0_4] 84 (0, 0)) zz17) : gb243 ≠ gb239)); clear BK239; clear HB; have BK239 := n0_; have HB := n1_; have BK243 := n2_; have GW243 := n3_; have GE243 := n4_; have NB239_243 := n5_; have NB243_239 := n6_; clear n0_ n1_ n2_ n3_ n4_ n5_ n6_; clear hb hbox hg; have hnb14 := NB243_239.out; have hnc14 := NB239_243.out; have hcz15_0 : w13.cell? ⟨gb243, 0, none⟩ = some (.int .i64 0) := (qg BK243.out 0).trans rfl; have hcz15_1 : w13.cell? ⟨gb243, 1, none⟩ = some (.int .i64 0) := (qg BK243.out 1).trans rfl; have hcz15_2 : w13.cell? ⟨gb243, 2, none⟩ = some (.int .i64 0) := (qg BK243.out 2).trans rfl; have hfz15_0 := qf BK243.out 0; have hfz15_1 := qf BK243.out 1; have hfz15_2 := qf BK243.out 2)); try go_wp2_with (first | ((with_reducible refine qeb (N := 1) rfl ?_); refine qib ?hg (N := 1) ?hd (cs := #[.string a0_0, .string a0_1, .string a0_2, .slice A0_3 l0_3.length c0_3, .slice A0_4 l0_4.length c0_4]) (t := 84) ?hr ?_; (case hd => rfl); (case hg => rfl); (case hr => exact zz5); intro gb239 hg w10 hbox hb; have n0_ := qa.mk (qm zz24 hb); have n1_ := qa.mk (hbox); have n2_ := qa.mk ((by rw [hg]; exact (ql zz24) : w.heap.size ≤ gb239)); have n3_ := qa.mk ((by rw [hg]; exact (ql zz24) : w.heap.size ≤ gb239)); clear HB; have HB := n0_; have BK239 := n1_; have GW239 := n2_; have GE239 := n3_; clear n0_ n1_ n2_ n3_; clear hb hbox hg; have hcz11_0 : w10.cell? ⟨gb239, 0, none⟩ = some (.string a0_0) := (qg BK239.out 0).trans rfl; have hcz11_1 : w10.cell? ⟨gb239, 1, none⟩ = some (.string a0_1) := (qg BK239.out 1).trans rfl; have hcz11_2 : w10.cell? ⟨gb239, 2, none⟩ = some (.string a0_2) := (qg BK239.out 2).trans rfl; have hcz11_3 : w10.cell? ⟨gb239, 3, none⟩ = some (.slice A0_3 l0_3.length c0_3) := (qg BK239.out 3).trans rfl; have hcz11_4 : w10.cell? ⟨gb239, 4, none⟩ = some (.slice A0_4 l0_4.length c0_4) := (qg BK239.out 4).trans rfl; have hfz11_0 := qf BK239.out 0; have hfz11_1 := qf BK239.out 1; have hfz11_2 := qf BK239.out 2; have hfz11_3 := qf BK239.out 3; have hfz11_4 := qf BK239.out 4) | (go_at_call 65; (with_reducible refine (qz.calls k a0_0 a0_1 a0_2 _ _ l0_3 _ _ l0_4 t240 t241 t242 _ ?side1 ?side2 ?side3 ?side4 A2.out).mono ?_); (case side1 => exact zz90); (case side2 => exact HC0_3.out); (case side3 => exact zz91); (case side4 => exact HC0_4.out); rintro e w12 ⟨rfl, hb⟩; have n0_ := qa.mk (qjb (g := gb239) (o := .cells #[.string a0_0, .string a0_1, .string a0_2, .slice A0_3 l0_3.length c0_3, .slice A0_4 l0_4.length c0_4] 84 (0, 0)) zz17 hb); have n1_ := qa.mk (qm zz41 hb); clear BK239; clear HB; have BK239 := n0_; have HB := n1_; clear n0_ n1_; (try clear hb); (try clear hb2); (try clear hk); (try clear hi)) | ((with_reducible refine qeb (N := 4) rfl ?_); refine qib ?hg (N := 4) ?hd (cs := #[.int .i64 0, .int .i64 0, .int .i64 0]) (t := 112) ?hr ?_; (case hd => rfl); (case hg => rfl); (case hr => exact zz5); intro gb243 hg w13 hbox hb; have n0_ := qa.mk (qjb (g := gb239) (o := .cells #[.string a0_0, .string a0_1, .string a0_2, .slice A0_3 l0_3.length c0_3, .slice A0_4 l0_4.length c0_4] 84 (0, 0)) zz17 hb); have n1_ := qa.mk (qm zz41 hb); have n2_ := qa.mk (hbox); have n3_ := qa.mk ((by rw [hg]; exact (ql zz41) : w.heap.size ≤ gb243)); have n4_ := qa.mk ((by rw [hg]; exact (ql zz41) : w.heap.size ≤ gb243)); have n5_ := qa.mk ((by rw [hg]; exact qkc (blk_lt (g := gb239) (o := .cells #[.string a0_0, .string a0_1, .string a0_2, .slice A0_3 l0_3.length c0_3, .slice A0_4 l0_4.length c0_4] 84 (0, 0)) zz17) : gb239 ≠ gb243)); have n6_ := qa.mk ((by rw [hg]; exact Nat.ne_of_gt (blk_lt (g := gb239) (o := .cells #[.string a0_0, .string a0_1, .string a0_2, .slice A0_3 l0_3.length c0_3, .slice A0_4 l0_4.length c0_4] 84 (0, 0)) zz17) : gb243 ≠ gb239)); clear BK239; clear HB; have BK239 := n0_; have HB := n1_; have BK243 := n2_; have GW243 := n3_; have GE243 := n4_; have NB239_243 := n5_; have NB243_239 := n6_; clear n0_ n1_ n2_ n3_ n4_ n5_ n6_; clear hb hbox hg; have hnb14 := NB243_239.out; have hnc14 := NB239_243.out; have hcz15_0 : w13.cell? ⟨gb243, 0, none⟩ = some (.int .i64 0) := (qg BK243.out 0).trans rfl; have hcz15_1 : w13.cell? ⟨gb243, 1, none⟩ = some (.int .i64 0) := (qg BK243.out 1).trans rfl; have hcz15_2 : w13.cell? ⟨gb243, 2, none⟩ = some (.int .i64 0) := (qg BK243.out 2).trans rfl; have hfz15_0 := qf BK243.out 0; have hfz15_1 := qf BK243.out 1; have hfz15_2 := qf BK243.out 2)))
  go_ret2
  exact ⟨zz65, zz66⟩
def qub.j0 : Nat → List (S46) → Option (ByteArray × ByteArray × ByteArray × (List (S48)) × (List (S84)) × Int)
 | 0, _ => none
 | k + 1, x0 => (qhb.f k x0 0).bind fun bt250 => ((vtree_Check.f k bt250.1 bt250.2.1 bt250.2.2.1 bt250.2.2.2.1 bt250.2.2.2.2.1).bind fun bt261 => (if bt261.2 = 0 then (some (bt250.1, bt250.2.1, bt250.2.2.1, bt250.2.2.2.1, bt250.2.2.2.2.1, 0)) else (some ((⟨#[]⟩ : ByteArray), (⟨#[]⟩ : ByteArray), (⟨#[]⟩ : ByteArray), ([] : List (S48)), ([] : List (S84)), bt261.2))))
def qub.f (k : Nat) (l0 : List (S46)) : Option (ByteArray × ByteArray × ByteArray × (List (S48)) × (List (S84)) × Int) := if (l0.length : Int) = 0 then (some ((⟨#[]⟩ : ByteArray), (⟨#[]⟩ : ByteArray), (⟨#[]⟩ : ByteArray), ([] : List (S48)), ([] : List (S84)), 23)) else ((qdb.f k l0).bind fun t245 => (if t245 = true then ((qsb.f k l0).bind fun t246 => (if t246 = true then ((qxb.f k l0).bind fun t247 => (qub.j0 k t247)) else (qub.j0 k l0))) else (some ((⟨#[]⟩ : ByteArray), (⟨#[]⟩ : ByteArray), (⟨#[]⟩ : ByteArray), ([] : List (S48)), ([] : List (S84)), 2))))
theorem qub.mono_l : ∀ k, (∀ y0, LeO (qub.j0 k y0) (qub.j0 (k + 1) y0))
 | 0 => fun _ r h => by simp [qub.j0] at h
 | k + 1 => by
  have ih0 := qub.mono_l k
  ·intro y0
   unfold qub.j0
   repeat' first
   | (with_reducible exact ih0 _)
   | (with_reducible exact qhb.mono _ _ _)
   | (with_reducible exact qxb.mono _ _)
   | (with_reducible exact qsb.mono _ _)
   | (with_reducible exact qdb.mono _ _)
   | (with_reducible exact vtree_Check.mono _ _ _ _ _ _)
   | (with_reducible exact LeO.refl _)
   | (with_reducible exact LeO.none _)
   | (with_reducible refine LeO.ite ?_ ?_)
   | (with_reducible refine LeO.bind ?_ (fun _ => ?_))
   | exact ih0 _
   | exact qhb.mono _ _ _
   | exact qxb.mono _ _
   | exact qsb.mono _ _
   | exact qdb.mono _ _
   | exact vtree_Check.mono _ _ _ _ _ _
   | exact LeO.none _
   | refine LeO.ite ?_ ?_
   | refine LeO.bind ?_ (fun _ => ?_)
theorem qub.mono : ∀ a0 k, LeO (qub.f k a0) (qub.f (k + 1) a0) := by
 intro a0 k
 have ih0 := qub.mono_l k
 unfold qub.f
 repeat' first
   | (with_reducible exact ih0 _)
   | (with_reducible exact qhb.mono _ _ _)
   | (with_reducible exact qxb.mono _ _)
   | (with_reducible exact qsb.mono _ _)
   | (with_reducible exact qdb.mono _ _)
   | (with_reducible exact vtree_Check.mono _ _ _ _ _ _)
   | (with_reducible exact LeO.refl _)
   | (with_reducible exact LeO.none _)
   | (with_reducible refine LeO.ite ?_ ?_)
   | (with_reducible refine LeO.bind ?_ (fun _ => ?_))
   | exact ih0 _
   | exact qhb.mono _ _ _
   | exact qxb.mono _ _
   | exact qsb.mono _ _
   | exact qdb.mono _ _
   | exact vtree_Check.mono _ _ _ _ _ _
   | exact LeO.none _
   | refine LeO.ite ?_ ?_
   | refine LeO.bind ?_ (fun _ => ?_)
set_option maxHeartbeats 8000000 in
set_option maxRecDepth 100000 in
theorem qub.calls (k : Nat) (P0_ : Nat → Prop) (A0 : Option Addr) (c0 : Nat) (l0 : List (S46)) (r1 : ByteArray) (r2 : ByteArray) (r3 : ByteArray) (r4 : List (S48)) (r5 : List (S84)) (r6 : Int) (w : World) (hs0 : Kd.V k46 46 w w.heap.size (fun k_ => P0_ k_) (.slice A0 l0.length c0) l0) (h : qub.f k l0 = some (r1, r2, r3, r4, r5, r6)) :
  Calls Tryd.prog 35 #[.slice A0 l0.length c0] w fun e w' => ∃ v3_ v4_ : Value, e = .returned (.tuple #[.agg #[.string r1, .string r2, .string r3, v3_, v4_], .int .i64 r6]) ∧ Kd.R k48 48 w' w.heap.size (fun k_ => (w.heap.size ≤ k_)) v3_ r4 ∧ Kd.R k84 84 w' w.heap.size (fun k_ => (w.heap.size ≤ k_) ∧ some k_ ≠ (v3_ : Value).ownBlock) v4_ r5 ∧ Below w.heap.size w w' := by
 have hu84 := Tryd.underlying84
 have HO0 := qa.mk (show Kd.V k46 46 w w.heap.size (fun k_ => (P0_ k_ ∨ w.heap.size ≤ k_)) (.slice A0 l0.length c0) l0 from Kd.V_mono hs0 (fun k_ hk => .inl hk))
 have HB := qa.mk (Below.refl w.heap.size w)
 have H : (if (l0.length : Int) = 0 then (some ((⟨#[]⟩ : ByteArray), (⟨#[]⟩ : ByteArray), (⟨#[]⟩ : ByteArray), ([] : List (S48)), ([] : List (S84)), 23)) else ((qdb.f k l0).bind fun t245 => (if t245 = true then ((qsb.f k l0).bind fun t246 => (if t246 = true then ((qxb.f k l0).bind fun t247 => (qub.j0 k t247)) else (qub.j0 k l0))) else (some ((⟨#[]⟩ : ByteArray), (⟨#[]⟩ : ByteArray), (⟨#[]⟩ : ByteArray), ([] : List (S48)), ([] : List (S84)), 2))))) = some (r1, r2, r3, r4, r5, r6) := h
 clear h
 by_cases c2 : (l0.length : Int) = 0
 ·rw [if_pos c2] at H
  have c2b0 : ((l0.length : Int) == 0) = true := beq_iff_eq.mpr c2
  have c2b1 : ((l0.length : Int) != 0) = false := bne_eq_false_iff_eq.mpr c2
  clear c2
  simp only [Option.some.injEq, Prod.mk.injEq] at H
  obtain ⟨rfl, rfl, rfl, rfl, rfl, rfl⟩ := H
  go_enter Tryd.func35, Tryd.ntmps35
  go_wp2_with (first | ((with_reducible refine qeb (N := 2) rfl ?_); refine qib ?hg (N := 2) ?hd (cs := #[.string (⟨#[]⟩ : ByteArray), .string (⟨#[]⟩ : ByteArray), .string (⟨#[]⟩ : ByteArray), .slice none 0 0, .slice none 0 0]) (t := 84) ?hr ?_; (case hd => rfl); (case hg => rfl); (case hr => exact zz5); intro gb244 hg w3 hbox hb; have n0_ := qa.mk (Kd.V_below (Kd.V_elderB zz25 gb244 (Nat.le_of_eq hg.symm)) hb); have n1_ := qa.mk (qm zz24 hb); have n2_ := qa.mk (hbox); have n3_ := qa.mk ((by rw [hg]; exact (ql zz24) : w.heap.size ≤ gb244)); have n4_ := qa.mk ((by rw [hg]; exact (ql zz24) : w.heap.size ≤ gb244)); clear HO0; clear HB; have HO0 := n0_; have HB := n1_; have BK244 := n2_; have GW244 := n3_; have GE244 := n4_; clear n0_ n1_ n2_ n3_ n4_; clear hb hbox hg; have hcz4_0 : w3.cell? ⟨gb244, 0, none⟩ = some (.string (⟨#[]⟩ : ByteArray)) := (qg BK244.out 0).trans rfl; have hcz4_1 : w3.cell? ⟨gb244, 1, none⟩ = some (.string (⟨#[]⟩ : ByteArray)) := (qg BK244.out 1).trans rfl; have hcz4_2 : w3.cell? ⟨gb244, 2, none⟩ = some (.string (⟨#[]⟩ : ByteArray)) := (qg BK244.out 2).trans rfl; have hcz4_3 : w3.cell? ⟨gb244, 3, none⟩ = some (.slice none 0 0) := (qg BK244.out 3).trans rfl; have hcz4_4 : w3.cell? ⟨gb244, 4, none⟩ = some (.slice none 0 0) := (qg BK244.out 4).trans rfl; have hfz4_0 := qf BK244.out 0; have hfz4_1 := qf BK244.out 1; have hfz4_2 := qf BK244.out 2; have hfz4_3 := qf BK244.out 3; have hfz4_4 := qf BK244.out 4))
  refine bodyPost_ret (results_ct rfl _ _ gb244 84 #[.string (⟨#[]⟩ : ByteArray), .string (⟨#[]⟩ : ByteArray), .string (⟨#[]⟩ : ByteArray), .slice none 0 0, .slice none 0 0] (0, 0) _ rfl zz125 Tryd.underlying84 rfl (by kernel_rfl)) rfl ?_
  exact ⟨_, _, zz65, zz57, zz57, zz42⟩
 ·rw [if_neg c2] at H
  have c2b0 : ((l0.length : Int) == 0) = false := beq_eq_false_iff_ne.mpr c2
  have c2b1 : ((l0.length : Int) != 0) = true := bne_iff_ne.mpr c2
  have c2b2 : ¬ (l0 = []) := fun h_ => c2 (by rw [h_]; rfl)
  replace H := Option.bind_eq_some_iff.mp H
  obtain ⟨t245, A50, H⟩ := H
  replace H : (if t245 = true then ((qsb.f k l0).bind fun t246 => (if t246 = true then ((qxb.f k l0).bind fun t247 => (qub.j0 k t247)) else (qub.j0 k l0))) else (some ((⟨#[]⟩ : ByteArray), (⟨#[]⟩ : ByteArray), (⟨#[]⟩ : ByteArray), ([] : List (S48)), ([] : List (S84)), 2))) = some (r1, r2, r3, r4, r5, r6) := H
  have A5 := qa.mk A50
  clear A50
  by_cases c6 : t245 = true
  ·subst c6
   have H1 : ((qsb.f k l0).bind fun t246 => (if t246 = true then ((qxb.f k l0).bind fun t247 => (qub.j0 k t247)) else (qub.j0 k l0))) = some (r1, r2, r3, r4, r5, r6) := by rw [if_pos rfl] at H; exact H
   clear H
   have H := H1
   clear H1
   replace H := Option.bind_eq_some_iff.mp H
   obtain ⟨t246, A70, H⟩ := H
   replace H : (if t246 = true then ((qxb.f k l0).bind fun t247 => (qub.j0 k t247)) else (qub.j0 k l0)) = some (r1, r2, r3, r4, r5, r6) := H
   have A7 := qa.mk A70
   clear A70
   have HC8 := qa.mk H
   clear H
   go_enter Tryd.func35, Tryd.ntmps35
   go_upto_if 19 with (first | ((with_reducible refine qeb (N := 2) rfl ?_); refine qib ?hg (N := 2) ?hd (cs := #[.string (⟨#[]⟩ : ByteArray), .string (⟨#[]⟩ : ByteArray), .string (⟨#[]⟩ : ByteArray), .slice none 0 0, .slice none 0 0]) (t := 84) ?hr ?_; (case hd => rfl); (case hg => rfl); (case hr => exact zz5); intro gb244 hg w9 hbox hb; have n0_ := qa.mk (Kd.V_below (Kd.V_elderB zz25 gb244 (Nat.le_of_eq hg.symm)) hb); have n1_ := qa.mk (qm zz24 hb); have n2_ := qa.mk (hbox); have n3_ := qa.mk ((by rw [hg]; exact (ql zz24) : w.heap.size ≤ gb244)); have n4_ := qa.mk ((by rw [hg]; exact (ql zz24) : w.heap.size ≤ gb244)); clear HO0; clear HB; have HO0 := n0_; have HB := n1_; have BK244 := n2_; have GW244 := n3_; have GE244 := n4_; clear n0_ n1_ n2_ n3_ n4_; clear hb hbox hg) | ((with_reducible refine qv (f := 49) rfl ?_); refine qob (some 15) rfl rfl Tryd.func49 (by kernel_rfl) rfl #[.slice A0 l0.length c0] rfl zz56 ?_; (with_reducible refine (qdb.calls k _ _ l0 true _ ?side1 ?side2 A5.out).mono ?_); (case side1 => exact zz80); (case side2 => exact (Kd.V_reads' HO0.out).2.1); rintro e w10 ⟨rfl, hb⟩; refine ⟨_, rfl, ?_⟩; have n0_ := qa.mk (Kd.V_below zz25 hb); have n1_ := qa.mk (qjb (g := gb244) (o := .cells #[.string (⟨#[]⟩ : ByteArray), .string (⟨#[]⟩ : ByteArray), .string (⟨#[]⟩ : ByteArray), .slice none 0 0, .slice none 0 0] 84 (0, 0)) zz18 hb); have n2_ := qa.mk (qm zz42 hb); clear HO0; clear BK244; clear HB; have HO0 := n0_; have BK244 := n1_; have HB := n2_; clear n0_ n1_ n2_; (try clear hb); (try clear hb2); (try clear hk); (try clear hi)) | ((with_reducible refine qv (f := 50) rfl ?_); refine qob (some 19) rfl rfl Tryd.func50 (by kernel_rfl) rfl #[.slice A0 l0.length c0] rfl zz56 ?_; (with_reducible refine (qsb.calls k _ _ l0 t246 _ ?side1 ?side2 A7.out).mono ?_); (case side1 => exact zz80); (case side2 => exact (Kd.V_reads' HO0.out).2.1); rintro e w11 ⟨rfl, hb⟩; refine ⟨_, rfl, ?_⟩; have n0_ := qa.mk (Kd.V_below zz25 hb); have n1_ := qa.mk (qjb (g := gb244) (o := .cells #[.string (⟨#[]⟩ : ByteArray), .string (⟨#[]⟩ : ByteArray), .string (⟨#[]⟩ : ByteArray), .slice none 0 0, .slice none 0 0] 84 (0, 0)) zz18 hb); have n2_ := qa.mk (qm zz42 hb); clear HO0; clear BK244; clear HB; have HO0 := n0_; have BK244 := n1_; have HB := n2_; clear n0_ n1_ n2_; (try clear hb); (try clear hb2); (try clear hk); (try clear hi)))
   (try simp only [Act.put, List.setIfInBounds_toArray, List.set_cons_zero, List.set_cons_succ])
   go_cut [0] (fun v0 wc => ∃ (kq : Nat) (x0_7 : List (S46)), qa (qub.j0 kq x0_7 = some (r1, r2, r3, r4, r5, r6)) ∧ qa (kq ≤ k) ∧ qa (Kd.V k46 46 wc w.heap.size (fun k_ => (P0_ k_ ∨ w.heap.size ≤ k_) ∧ k_ ≠ gb244) v0 x0_7) ∧ qa (wc.heap[gb244]? = some (.cells #[.string (⟨#[]⟩ : ByteArray), .string (⟨#[]⟩ : ByteArray), .string (⟨#[]⟩ : ByteArray), (.slice none 0 0), (.slice none 0 0)] 84 (0, 0))) ∧ qa (Below w.heap.size w wc))
   case first =>
    have H := HC8.out
    clear HC8
    by_cases c12 : t246 = true
    ·subst c12
     have H1 : ((qxb.f k l0).bind fun t247 => (qub.j0 k t247)) = some (r1, r2, r3, r4, r5, r6) := by rw [if_pos rfl] at H; exact H
     clear H
     have H := H1
     clear H1
     replace H := Option.bind_eq_some_iff.mp H
     obtain ⟨t247, A130, H⟩ := H
     replace H : (qub.j0 k t247) = some (r1, r2, r3, r4, r5, r6) := H
     have A13 := qa.mk A130
     clear A130
     have H' := qa.mk H
     clear H
     go_wp2_with (first | ((with_reducible refine qv (f := 51) rfl ?_); refine qob (some 21) rfl rfl Tryd.func51 (by kernel_rfl) rfl #[.slice A0 l0.length c0] rfl zz56 ?_; (with_reducible refine (qxb.calls k (fun k_ => ((P0_ k_ ∨ w.heap.size ≤ k_) ∧ k_ ≠ gb244)) _ _ l0 t247 _ ?side1 A13.out).mono ?_); (case side1 => exact HO0.out); rintro e w14 ⟨v248, rfl, ho0, hb⟩; refine ⟨_, rfl, ?_⟩; have n0_ := qa.mk (Kd.V_below zz25 hb); have n1_ := qa.mk (Kd.V_lower (Kd.V_mono (ok' := fun k_ => (P0_ k_ ∨ w.heap.size ≤ k_) ∧ k_ ≠ gb244) ho0 (fun k_ hk_ => ⟨Or.elim hk_ (fun hs_ => hs_.1) (fun hn_ => (.inr (Nat.le_trans (ql zz42) hn_))), Or.elim hk_ (fun hs_ => hs_.2) (fun hn_ => (Kd.freshB (g := gb244) (o := .cells #[.string (⟨#[]⟩ : ByteArray), .string (⟨#[]⟩ : ByteArray), .string (⟨#[]⟩ : ByteArray), .slice none 0 0, .slice none 0 0] 84 (0, 0)) zz18 k_ hn_))⟩)) (ql zz42)); have n2_ := qa.mk (qjb (g := gb244) (o := .cells #[.string (⟨#[]⟩ : ByteArray), .string (⟨#[]⟩ : ByteArray), .string (⟨#[]⟩ : ByteArray), .slice none 0 0, .slice none 0 0] 84 (0, 0)) zz18 hb); have n3_ := qa.mk (qm zz42 hb); clear HO0; clear BK244; clear HB; have HO0 := n0_; have HO249 := n1_; have BK244 := n2_; have HB := n3_; clear n0_ n1_ n2_ n3_; (try clear hb); (try clear hb2); (try clear hk); (try clear hi); (try clear ho0)))
     go_meet
     case rel => exact ⟨_, (t247), H', ⟨zz2⟩, ⟨by (with_reducible repeat (first | apply Kd.V_alloc | apply Kd.V_drewN | apply Kd.V_drew)); exact HO249.out⟩, ⟨zz18⟩, ⟨zz42⟩⟩
    ·replace c12 := Bool.eq_false_iff.mpr c12
     subst c12
     have H1 : (qub.j0 k l0) = some (r1, r2, r3, r4, r5, r6) := by rw [if_neg (show ¬ (false = true) by decide)] at H; exact H
     clear H
     have H := H1
     clear H1
     have H' := qa.mk H
     clear H
     go_wp2
     go_meet
     case rel => exact ⟨_, (l0), H', ⟨zz2⟩, ⟨zz25⟩, ⟨zz18⟩, ⟨zz42⟩⟩
   case rest =>
    clear HC8
    try clear c1
    try clear c2
    try clear c2b0
    try clear c2b1
    try clear c2b2
    try clear p2
    try clear c3
    try clear c4
    try clear c5
    try clear c6
    try clear c12
    try clear hcz4_0
    try clear hcz4_1
    try clear hcz4_2
    try clear hcz4_3
    try clear hcz4_4
    try clear hfz4_0
    try clear hfz4_1
    try clear hfz4_2
    try clear hfz4_3
    try clear hfz4_4
    obtain ⟨kq, x0_7, HA, HJ7, HO_0, BK244, HB⟩ := hcut
    cases kq with
    | zero => exact absurd HA.out (by simp [qub.j0])
    | succ kj7 =>
     have H := HA.out
     clear HA
     simp only [qub.j0] at H
     replace H := Option.bind_eq_some_iff.mp H
     obtain ⟨⟨t250, t251, t252, t253, t256, t259⟩, A150, H⟩ := H
     replace H : ((vtree_Check.f kj7 t250 t251 t252 t253 t256).bind fun bt261 => (if bt261.2 = 0 then (some (t250, t251, t252, t253, t256, 0)) else (some ((⟨#[]⟩ : ByteArray), (⟨#[]⟩ : ByteArray), (⟨#[]⟩ : ByteArray), ([] : List (S48)), ([] : List (S84)), bt261.2)))) = some (r1, r2, r3, r4, r5, r6) := H
     have A15 := qa.mk A150
     clear A150
     replace H := Option.bind_eq_some_iff.mp H
     obtain ⟨⟨t261, t262⟩, A160, H⟩ := H
     replace H : (if t262 = 0 then (some (t250, t251, t252, t253, t256, 0)) else (some ((⟨#[]⟩ : ByteArray), (⟨#[]⟩ : ByteArray), (⟨#[]⟩ : ByteArray), ([] : List (S48)), ([] : List (S84)), t262))) = some (r1, r2, r3, r4, r5, r6) := H
     have A16 := qa.mk A160
     clear A160
     by_cases c17 : t262 = 0
     ·rw [if_pos c17] at H
      have c17b0 : (t262 == 0) = true := beq_iff_eq.mpr c17
      have c17b1 : (t262 != 0) = false := bne_eq_false_iff_eq.mpr c17
      clear c17
      simp only [Option.some.injEq, Prod.mk.injEq] at H
      obtain ⟨rfl, rfl, rfl, rfl, rfl, rfl⟩ := H
      obtain ⟨Ao18, co18, eo18⟩ := Kd.V_slice HO_0.out
      subst eo18
      go_wp2_with (first | ((with_reducible refine qv (f := 52) rfl ?_); refine qob (some 24) rfl rfl Tryd.func52 (by kernel_rfl) rfl #[.slice Ao18 x0_7.length co18, .int .i64 0] rfl zz56 ?_; (with_reducible refine (qhb.calls kj7 _ _ x0_7 0 t250 t251 t252 t253 t256 t259 _ ?side1 ?side2 A15.out).mono ?_); (case side1 => exact zz81); (case side2 => exact (Kd.V_reads' HO_0.out).2.1); rintro e w19 ⟨v254, v257, rfl, ho0, ho1, hb⟩; refine ⟨_, rfl, ?_⟩; have n0_ := qa.mk (Kd.V_mono (Kd.V_told (Kd.V_told (Kd.V_old zz26 hb) (Kd.R_base ho0)) (Kd.R_base ho1)) (fun _ h_ => h_.1)); have n1_ := qa.mk (Kd.R_lower (Kd.R_newM (M := fun k_ => (w.heap.size ≤ k_)) ho0 (ql zz42) (fun k_ h_ => h_)) (ql zz42)); have n2_ := qa.mk (Kd.R_lower (Kd.R_newB (Kd.R_newM (M := fun k_ => (w.heap.size ≤ k_)) ho1 (ql zz42) (fun k_ h_ => h_)) (g := gb244) (o := .cells #[.string (⟨#[]⟩ : ByteArray), .string (⟨#[]⟩ : ByteArray), .string (⟨#[]⟩ : ByteArray), .slice none 0 0, .slice none 0 0] 84 (0, 0)) zz18) (ql zz42)); have n3_ := qa.mk (qjb (g := gb244) (o := .cells #[.string (⟨#[]⟩ : ByteArray), .string (⟨#[]⟩ : ByteArray), .string (⟨#[]⟩ : ByteArray), .slice none 0 0, .slice none 0 0] 84 (0, 0)) zz18 hb); have n4_ := qa.mk (qm zz42 hb); clear HO_0; clear BK244; clear HB; have HO_0 := n0_; have HO255 := n1_; have HO258 := n2_; have BK244 := n3_; have HB := n4_; clear n0_ n1_ n2_ n3_ n4_; (try clear hb); (try clear hb2); (try clear hk); (try clear hi); (try clear ho0); (try clear ho1)) | ((with_reducible refine qeb (N := 4) rfl ?_); refine qib ?hg (N := 4) ?hd (cs := #[.string (⟨#[]⟩ : ByteArray), .string (⟨#[]⟩ : ByteArray), .string (⟨#[]⟩ : ByteArray), .slice none 0 0, .slice none 0 0]) (t := 84) ?hr ?_; (case hd => rfl); (case hg => rfl); (case hr => exact zz5); intro gb260 hg w20 hbox hb; have n0_ := qa.mk (Kd.V_below (Kd.V_elderB zz26 gb260 (Nat.le_of_eq hg.symm)) hb); have n1_ := qa.mk (Kd.R_below (by (with_reducible repeat (first | apply Kd.R_alloc | apply Kd.R_drewN | apply Kd.R_drew)); exact HO255.out) hb); have n2_ := qa.mk (Kd.R_below (Kd.R_elderB (by (with_reducible repeat (first | apply Kd.R_alloc | apply Kd.R_drewN | apply Kd.R_drew)); exact HO258.out) gb260 (Nat.le_of_eq hg.symm)) hb); have n3_ := qa.mk (qjb (g := gb244) (o := .cells #[.string (⟨#[]⟩ : ByteArray), .string (⟨#[]⟩ : ByteArray), .string (⟨#[]⟩ : ByteArray), .slice none 0 0, .slice none 0 0] 84 (0, 0)) zz18 hb); have n4_ := qa.mk (qm zz42 hb); have n5_ := qa.mk (hbox); have n6_ := qa.mk ((by rw [hg]; exact (ql zz42) : w.heap.size ≤ gb260)); have n7_ := qa.mk ((by rw [hg]; exact (ql zz42) : w.heap.size ≤ gb260)); have n8_ := qa.mk ((by rw [hg]; exact qkc (blk_lt (g := gb244) (o := .cells #[.string (⟨#[]⟩ : ByteArray), .string (⟨#[]⟩ : ByteArray), .string (⟨#[]⟩ : ByteArray), .slice none 0 0, .slice none 0 0] 84 (0, 0)) zz18) : gb244 ≠ gb260)); have n9_ := qa.mk ((by rw [hg]; exact Nat.ne_of_gt (blk_lt (g := gb244) (o := .cells #[.string (⟨#[]⟩ : ByteArray), .string (⟨#[]⟩ : ByteArray), .string (⟨#[]⟩ : ByteArray), .slice none 0 0, .slice none 0 0] 84 (0, 0)) zz18) : gb260 ≠ gb244)); clear HO_0; clear HO255; clear HO258; clear BK244; clear HB; have HO_0 := n0_; have HO255 := n1_; have HO258 := n2_; have BK244 := n3_; have HB := n4_; have BK260 := n5_; have GW260 := n6_; have GE260 := n7_; have NB244_260 := n8_; have NB260_244 := n9_; clear n0_ n1_ n2_ n3_ n4_ n5_ n6_ n7_ n8_ n9_; clear hb hbox hg; have hnb21 := NB260_244.out; have hnc21 := NB244_260.out; have hcz22_0 : w20.cell? ⟨gb260, 0, none⟩ = some (.string (⟨#[]⟩ : ByteArray)) := (qg BK260.out 0).trans rfl; have hcz22_1 : w20.cell? ⟨gb260, 1, none⟩ = some (.string (⟨#[]⟩ : ByteArray)) := (qg BK260.out 1).trans rfl; have hcz22_2 : w20.cell? ⟨gb260, 2, none⟩ = some (.string (⟨#[]⟩ : ByteArray)) := (qg BK260.out 2).trans rfl; have hcz22_3 : w20.cell? ⟨gb260, 3, none⟩ = some (.slice none 0 0) := (qg BK260.out 3).trans rfl; have hcz22_4 : w20.cell? ⟨gb260, 4, none⟩ = some (.slice none 0 0) := (qg BK260.out 4).trans rfl; have hfz22_0 := qf BK260.out 0; have hfz22_1 := qf BK260.out 1; have hfz22_2 := qf BK260.out 2; have hfz22_3 := qf BK260.out 3; have hfz22_4 := qf BK260.out 4; obtain ⟨Ao23, co23, eo23⟩ := Kd.R_slice HO255.out; subst eo23; obtain ⟨Ao24, co24, eo24⟩ := Kd.R_slice HO258.out; subst eo24) | ((with_reducible refine qv (f := 53) rfl ?_); refine qob (some 29) rfl rfl Tryd.func53 (by kernel_rfl) rfl #[.agg #[.string t250, .string t251, .string t252, .slice Ao23 t253.length co23, .slice Ao24 t256.length co24]] rfl zz56 ?_; (with_reducible refine (vtree_Check.calls kj7 t250 t251 t252 _ _ t253 _ _ t256 t261 t262 _ ?side1 ?side2 ?side3 ?side4 A16.out).mono ?_); (case side1 => refine (Kd.R_reads' (e := 48) (base := w.heap.size) (ok := fun k_ => ((w.heap.size ≤ k_) ∧ True)) (n := t253.length) (c := co23) ?_).2.2; exact zz108); (case side2 => exact (Kd.R_reads' HO255.out).2.1); (case side3 => refine (Kd.R_reads' (e := 84) (base := w.heap.size) (ok := fun k_ => ((((w.heap.size ≤ k_) ∧ some k_ ≠ (.slice Ao23 t253.length co23 : Value).ownBlock) ∧ k_ ≠ gb244) ∧ k_ ≠ gb260)) (n := t256.length) (c := co24) ?_).2.2; exact zz110); (case side4 => exact (Kd.R_reads' HO258.out).2.1); rintro e w25 ⟨rfl, hb⟩; refine ⟨_, rfl, ?_⟩; have n0_ := qa.mk (Kd.V_below (by (with_reducible repeat (first | apply Kd.V_alloc | apply Kd.V_drewN | apply Kd.V_drew)); exact (Kd.V_mono (Kd.V_far (p := ⟨gb260, 4, none⟩) (Kd.V_far (p := ⟨gb260, 3, none⟩) (Kd.V_far (p := ⟨gb260, 2, none⟩) (Kd.V_far (p := ⟨gb260, 1, none⟩) (Kd.V_far (p := ⟨gb260, 0, none⟩) (Kd.V_mono HO_0.out (fun k_ hk => (⟨hk, hk.2⟩ : _ ∧ k_ ≠ gb260))) (fun _ hk => hk.2) (.string t250)) (fun _ hk => hk.2) (.string t251)) (fun _ hk => hk.2) (.string t252)) (fun _ hk => hk.2) (.slice Ao23 t253.length co23)) (fun _ hk => hk.2) (.slice Ao24 t256.length co24)) (fun _ h_ => h_.1))) hb); have n1_ := qa.mk (Kd.R_below zz108 hb); have n2_ := qa.mk (Kd.R_below zz110 hb); have n3_ := qa.mk (qjb (g := gb244) (o := .cells #[.string (⟨#[]⟩ : ByteArray), .string (⟨#[]⟩ : ByteArray), .string (⟨#[]⟩ : ByteArray), .slice none 0 0, .slice none 0 0] 84 (0, 0)) zz112 hb); have n4_ := qa.mk (qjb (g := gb260) (o := .cells #[.string t250, .string t251, .string t252, .slice Ao23 t253.length co23, .slice Ao24 t256.length co24] 84 (0, 0)) (by (with_reducible repeat (first | refine qi ?_ _ | refine qk ?_ | refine qh ?_ _)); refine qq (cs := #[.string t250, .string t251, .string t252, .slice Ao23 t253.length co23, .slice none 0 0]) ?_ 4 _ rfl; (with_reducible repeat (first | refine qi ?_ _ | refine qk ?_ | refine qh ?_ _)); refine qq (cs := #[.string t250, .string t251, .string t252, .slice none 0 0, .slice none 0 0]) ?_ 3 _ rfl; (with_reducible repeat (first | refine qi ?_ _ | refine qk ?_ | refine qh ?_ _)); refine qq (cs := #[.string t250, .string t251, .string (⟨#[]⟩ : ByteArray), .slice none 0 0, .slice none 0 0]) ?_ 2 _ rfl; (with_reducible repeat (first | refine qi ?_ _ | refine qk ?_ | refine qh ?_ _)); refine qq (cs := #[.string t250, .string (⟨#[]⟩ : ByteArray), .string (⟨#[]⟩ : ByteArray), .slice none 0 0, .slice none 0 0]) ?_ 1 _ rfl; (with_reducible repeat (first | refine qi ?_ _ | refine qk ?_ | refine qh ?_ _)); refine qq (cs := #[.string (⟨#[]⟩ : ByteArray), .string (⟨#[]⟩ : ByteArray), .string (⟨#[]⟩ : ByteArray), .slice none 0 0, .slice none 0 0]) ?_ 0 _ rfl; (with_reducible repeat (first | refine qi ?_ _ | refine qk ?_ | refine qh ?_ _)); exact BK260.out) hb); have n5_ := qa.mk (qm zz67 hb); clear HO_0; clear HO255; clear HO258; clear BK244; clear BK260; clear HB; have HO_0 := n0_; have HO255 := n1_; have HO258 := n2_; have BK244 := n3_; have BK260 := n4_; have HB := n5_; clear n0_ n1_ n2_ n3_ n4_ n5_; (try clear hb); (try clear hb2); (try clear hk); (try clear hi); have hcz26_0 : w25.cell? ⟨gb260, 0, none⟩ = some (.string t250) := (qg BK260.out 0).trans rfl; have hcz26_1 : w25.cell? ⟨gb260, 1, none⟩ = some (.string t251) := (qg BK260.out 1).trans rfl; have hcz26_2 : w25.cell? ⟨gb260, 2, none⟩ = some (.string t252) := (qg BK260.out 2).trans rfl; have hcz26_3 : w25.cell? ⟨gb260, 3, none⟩ = some (.slice Ao23 t253.length co23) := (qg BK260.out 3).trans rfl; have hcz26_4 : w25.cell? ⟨gb260, 4, none⟩ = some (.slice Ao24 t256.length co24) := (qg BK260.out 4).trans rfl; have hfz26_0 := qf BK260.out 0; have hfz26_1 := qf BK260.out 1; have hfz26_2 := qf BK260.out 2; have hfz26_3 := qf BK260.out 3; have hfz26_4 := qf BK260.out 4; have hcz27_0 : w25.cell? ⟨gb244, 0, none⟩ = some (.string (⟨#[]⟩ : ByteArray)) := (qg BK244.out 0).trans rfl; have hcz27_1 : w25.cell? ⟨gb244, 1, none⟩ = some (.string (⟨#[]⟩ : ByteArray)) := (qg BK244.out 1).trans rfl; have hcz27_2 : w25.cell? ⟨gb244, 2, none⟩ = some (.string (⟨#[]⟩ : ByteArray)) := (qg BK244.out 2).trans rfl; have hcz27_3 : w25.cell? ⟨gb244, 3, none⟩ = some (.slice none 0 0) := (qg BK244.out 3).trans rfl; have hcz27_4 : w25.cell? ⟨gb244, 4, none⟩ = some (.slice none 0 0) := (qg BK244.out 4).trans rfl; have hfz27_0 := qf BK244.out 0; have hfz27_1 := qf BK244.out 1; have hfz27_2 := qf BK244.out 2; have hfz27_3 := qf BK244.out 3; have hfz27_4 := qf BK244.out 4))
      refine bodyPost_ret (results_ct rfl _ _ gb244 84 #[.string t250, .string t251, .string t252, .slice Ao23 t253.length co23, .slice Ao24 t256.length co24] (0, 0) _ rfl (by (with_reducible repeat (first | refine qi ?_ _ | refine qk ?_ | refine qh ?_ _)); refine qq (cs := #[.string t250, .string t251, .string t252, .slice Ao23 t253.length co23, .slice none 0 0]) ?_ 4 _ rfl; (with_reducible repeat (first | refine qi ?_ _ | refine qk ?_ | refine qh ?_ _)); refine qq (cs := #[.string t250, .string t251, .string t252, .slice none 0 0, .slice none 0 0]) ?_ 3 _ rfl; (with_reducible repeat (first | refine qi ?_ _ | refine qk ?_ | refine qh ?_ _)); refine qq (cs := #[.string t250, .string t251, .string (⟨#[]⟩ : ByteArray), .slice none 0 0, .slice none 0 0]) ?_ 2 _ rfl; (with_reducible repeat (first | refine qi ?_ _ | refine qk ?_ | refine qh ?_ _)); refine qq (cs := #[.string t250, .string (⟨#[]⟩ : ByteArray), .string (⟨#[]⟩ : ByteArray), .slice none 0 0, .slice none 0 0]) ?_ 1 _ rfl; (with_reducible repeat (first | refine qi ?_ _ | refine qk ?_ | refine qh ?_ _)); refine qq (cs := #[.string (⟨#[]⟩ : ByteArray), .string (⟨#[]⟩ : ByteArray), .string (⟨#[]⟩ : ByteArray), .slice none 0 0, .slice none 0 0]) ?_ 0 _ rfl; (with_reducible repeat (first | refine qi ?_ _ | refine qk ?_ | refine qh ?_ _)); exact BK244.out) Tryd.underlying84 rfl (by kernel_rfl)) rfl ?_
      exact ⟨_, _, zz65, by (with_reducible repeat (first | apply Kd.R_alloc | apply Kd.R_drewN | apply Kd.R_drew)); exact Kd.R_mono (Kd.R_far (p := ⟨gb244, 4, none⟩) (Kd.R_far (p := ⟨gb244, 3, none⟩) (Kd.R_far (p := ⟨gb244, 2, none⟩) (Kd.R_far (p := ⟨gb244, 1, none⟩) (Kd.R_far (p := ⟨gb244, 0, none⟩) (Kd.R_types HO255.out BK244.out (by decide)) (fun _ hk => hk.2) (.string t250)) (fun _ hk => hk.2) (.string t251)) (fun _ hk => hk.2) (.string t252)) (fun _ hk => hk.2) (.slice Ao23 t253.length co23)) (fun _ hk => hk.2) (.slice Ao24 t256.length co24)) (fun _ hk => hk.1.1), by (with_reducible repeat (first | apply Kd.R_alloc | apply Kd.R_drewN | apply Kd.R_drew)); exact Kd.R_mono (Kd.R_far (p := ⟨gb244, 4, none⟩) (Kd.R_far (p := ⟨gb244, 3, none⟩) (Kd.R_far (p := ⟨gb244, 2, none⟩) (Kd.R_far (p := ⟨gb244, 1, none⟩) (Kd.R_far (p := ⟨gb244, 0, none⟩) (Kd.R_mono HO258.out (fun k_ hk => (⟨hk, hk.1.2⟩ : _ ∧ k_ ≠ gb244))) (fun _ hk => hk.2) (.string t250)) (fun _ hk => hk.2) (.string t251)) (fun _ hk => hk.2) (.string t252)) (fun _ hk => hk.2) (.slice Ao23 t253.length co23)) (fun _ hk => hk.2) (.slice Ao24 t256.length co24)) (fun _ hk => ⟨hk.1.1.1.1, hk.1.1.1.2⟩), zz67⟩
     ·rw [if_neg c17] at H
      have c17b0 : (t262 == 0) = false := beq_eq_false_iff_ne.mpr c17
      have c17b1 : (t262 != 0) = true := bne_iff_ne.mpr c17
      simp only [Option.some.injEq, Prod.mk.injEq] at H
      obtain ⟨rfl, rfl, rfl, rfl, rfl, rfl⟩ := H
      obtain ⟨Ao28, co28, eo28⟩ := Kd.V_slice HO_0.out
      subst eo28
      go_wp2_with (first | ((with_reducible refine qv (f := 52) rfl ?_); refine qob (some 24) rfl rfl Tryd.func52 (by kernel_rfl) rfl #[.slice Ao28 x0_7.length co28, .int .i64 0] rfl zz56 ?_; (with_reducible refine (qhb.calls kj7 _ _ x0_7 0 t250 t251 t252 t253 t256 t259 _ ?side1 ?side2 A15.out).mono ?_); (case side1 => exact zz81); (case side2 => exact (Kd.V_reads' HO_0.out).2.1); rintro e w29 ⟨v254, v257, rfl, ho0, ho1, hb⟩; refine ⟨_, rfl, ?_⟩; have n0_ := qa.mk (Kd.V_mono (Kd.V_told (Kd.V_told (Kd.V_old zz26 hb) (Kd.R_base ho0)) (Kd.R_base ho1)) (fun _ h_ => h_.1)); have n1_ := qa.mk (Kd.R_lower (Kd.R_newM (M := fun k_ => (w.heap.size ≤ k_)) ho0 (ql zz42) (fun k_ h_ => h_)) (ql zz42)); have n2_ := qa.mk (Kd.R_lower (Kd.R_newB (Kd.R_newM (M := fun k_ => (w.heap.size ≤ k_)) ho1 (ql zz42) (fun k_ h_ => h_)) (g := gb244) (o := .cells #[.string (⟨#[]⟩ : ByteArray), .string (⟨#[]⟩ : ByteArray), .string (⟨#[]⟩ : ByteArray), .slice none 0 0, .slice none 0 0] 84 (0, 0)) zz18) (ql zz42)); have n3_ := qa.mk (qjb (g := gb244) (o := .cells #[.string (⟨#[]⟩ : ByteArray), .string (⟨#[]⟩ : ByteArray), .string (⟨#[]⟩ : ByteArray), .slice none 0 0, .slice none 0 0] 84 (0, 0)) zz18 hb); have n4_ := qa.mk (qm zz42 hb); clear HO_0; clear BK244; clear HB; have HO_0 := n0_; have HO255 := n1_; have HO258 := n2_; have BK244 := n3_; have HB := n4_; clear n0_ n1_ n2_ n3_ n4_; (try clear hb); (try clear hb2); (try clear hk); (try clear hi); (try clear ho0); (try clear ho1)) | ((with_reducible refine qeb (N := 4) rfl ?_); refine qib ?hg (N := 4) ?hd (cs := #[.string (⟨#[]⟩ : ByteArray), .string (⟨#[]⟩ : ByteArray), .string (⟨#[]⟩ : ByteArray), .slice none 0 0, .slice none 0 0]) (t := 84) ?hr ?_; (case hd => rfl); (case hg => rfl); (case hr => exact zz5); intro gb260 hg w30 hbox hb; have n0_ := qa.mk (Kd.V_below (Kd.V_elderB zz26 gb260 (Nat.le_of_eq hg.symm)) hb); have n1_ := qa.mk (Kd.R_below (by (with_reducible repeat (first | apply Kd.R_alloc | apply Kd.R_drewN | apply Kd.R_drew)); exact HO255.out) hb); have n2_ := qa.mk (Kd.R_below (Kd.R_elderB (by (with_reducible repeat (first | apply Kd.R_alloc | apply Kd.R_drewN | apply Kd.R_drew)); exact HO258.out) gb260 (Nat.le_of_eq hg.symm)) hb); have n3_ := qa.mk (qjb (g := gb244) (o := .cells #[.string (⟨#[]⟩ : ByteArray), .string (⟨#[]⟩ : ByteArray), .string (⟨#[]⟩ : ByteArray), .slice none 0 0, .slice none 0 0] 84 (0, 0)) zz18 hb); have n4_ := qa.mk (qm zz42 hb); have n5_ := qa.mk (hbox); have n6_ := qa.mk ((by rw [hg]; exact (ql zz42) : w.heap.size ≤ gb260)); have n7_ := qa.mk ((by rw [hg]; exact (ql zz42) : w.heap.size ≤ gb260)); have n8_ := qa.mk ((by rw [hg]; exact qkc (blk_lt (g := gb244) (o := .cells #[.string (⟨#[]⟩ : ByteArray), .string (⟨#[]⟩ : ByteArray), .string (⟨#[]⟩ : ByteArray), .slice none 0 0, .slice none 0 0] 84 (0, 0)) zz18) : gb244 ≠ gb260)); have n9_ := qa.mk ((by rw [hg]; exact Nat.ne_of_gt (blk_lt (g := gb244) (o := .cells #[.string (⟨#[]⟩ : ByteArray), .string (⟨#[]⟩ : ByteArray), .string (⟨#[]⟩ : ByteArray), .slice none 0 0, .slice none 0 0] 84 (0, 0)) zz18) : gb260 ≠ gb244)); clear HO_0; clear HO255; clear HO258; clear BK244; clear HB; have HO_0 := n0_; have HO255 := n1_; have HO258 := n2_; have BK244 := n3_; have HB := n4_; have BK260 := n5_; have GW260 := n6_; have GE260 := n7_; have NB244_260 := n8_; have NB260_244 := n9_; clear n0_ n1_ n2_ n3_ n4_ n5_ n6_ n7_ n8_ n9_; clear hb hbox hg; have hnb31 := NB260_244.out; have hnc31 := NB244_260.out; have hcz32_0 : w30.cell? ⟨gb260, 0, none⟩ = some (.string (⟨#[]⟩ : ByteArray)) := (qg BK260.out 0).trans rfl; have hcz32_1 : w30.cell? ⟨gb260, 1, none⟩ = some (.string (⟨#[]⟩ : ByteArray)) := (qg BK260.out 1).trans rfl; have hcz32_2 : w30.cell? ⟨gb260, 2, none⟩ = some (.string (⟨#[]⟩ : ByteArray)) := (qg BK260.out 2).trans rfl; have hcz32_3 : w30.cell? ⟨gb260, 3, none⟩ = some (.slice none 0 0) := (qg BK260.out 3).trans rfl; have hcz32_4 : w30.cell? ⟨gb260, 4, none⟩ = some (.slice none 0 0) := (qg BK260.out 4).trans rfl; have hfz32_0 := qf BK260.out 0; have hfz32_1 := qf BK260.out 1; have hfz32_2 := qf BK260.out 2; have hfz32_3 := qf BK260.out 3; have hfz32_4 := qf BK260.out 4; obtain ⟨Ao33, co33, eo33⟩ := Kd.R_slice HO255.out; subst eo33; obtain ⟨Ao34, co34, eo34⟩ := Kd.R_slice HO258.out; subst eo34) | ((with_reducible refine qv (f := 53) rfl ?_); refine qob (some 29) rfl rfl Tryd.func53 (by kernel_rfl) rfl #[.agg #[.string t250, .string t251, .string t252, .slice Ao33 t253.length co33, .slice Ao34 t256.length co34]] rfl zz56 ?_; (with_reducible refine (vtree_Check.calls kj7 t250 t251 t252 _ _ t253 _ _ t256 t261 t262 _ ?side1 ?side2 ?side3 ?side4 A16.out).mono ?_); (case side1 => refine (Kd.R_reads' (e := 48) (base := w.heap.size) (ok := fun k_ => ((w.heap.size ≤ k_) ∧ True)) (n := t253.length) (c := co33) ?_).2.2; exact zz109); (case side2 => exact (Kd.R_reads' HO255.out).2.1); (case side3 => refine (Kd.R_reads' (e := 84) (base := w.heap.size) (ok := fun k_ => ((((w.heap.size ≤ k_) ∧ some k_ ≠ (.slice Ao33 t253.length co33 : Value).ownBlock) ∧ k_ ≠ gb244) ∧ k_ ≠ gb260)) (n := t256.length) (c := co34) ?_).2.2; exact zz111); (case side4 => exact (Kd.R_reads' HO258.out).2.1); rintro e w35 ⟨rfl, hb⟩; refine ⟨_, rfl, ?_⟩; have n0_ := qa.mk (Kd.V_below (by (with_reducible repeat (first | apply Kd.V_alloc | apply Kd.V_drewN | apply Kd.V_drew)); exact (Kd.V_mono (Kd.V_far (p := ⟨gb260, 4, none⟩) (Kd.V_far (p := ⟨gb260, 3, none⟩) (Kd.V_far (p := ⟨gb260, 2, none⟩) (Kd.V_far (p := ⟨gb260, 1, none⟩) (Kd.V_far (p := ⟨gb260, 0, none⟩) (Kd.V_mono HO_0.out (fun k_ hk => (⟨hk, hk.2⟩ : _ ∧ k_ ≠ gb260))) (fun _ hk => hk.2) (.string t250)) (fun _ hk => hk.2) (.string t251)) (fun _ hk => hk.2) (.string t252)) (fun _ hk => hk.2) (.slice Ao33 t253.length co33)) (fun _ hk => hk.2) (.slice Ao34 t256.length co34)) (fun _ h_ => h_.1))) hb); have n1_ := qa.mk (Kd.R_below zz109 hb); have n2_ := qa.mk (Kd.R_below zz111 hb); have n3_ := qa.mk (qjb (g := gb244) (o := .cells #[.string (⟨#[]⟩ : ByteArray), .string (⟨#[]⟩ : ByteArray), .string (⟨#[]⟩ : ByteArray), .slice none 0 0, .slice none 0 0] 84 (0, 0)) zz112 hb); have n4_ := qa.mk (qjb (g := gb260) (o := .cells #[.string t250, .string t251, .string t252, .slice Ao33 t253.length co33, .slice Ao34 t256.length co34] 84 (0, 0)) (by (with_reducible repeat (first | refine qi ?_ _ | refine qk ?_ | refine qh ?_ _)); refine qq (cs := #[.string t250, .string t251, .string t252, .slice Ao33 t253.length co33, .slice none 0 0]) ?_ 4 _ rfl; (with_reducible repeat (first | refine qi ?_ _ | refine qk ?_ | refine qh ?_ _)); refine qq (cs := #[.string t250, .string t251, .string t252, .slice none 0 0, .slice none 0 0]) ?_ 3 _ rfl; (with_reducible repeat (first | refine qi ?_ _ | refine qk ?_ | refine qh ?_ _)); refine qq (cs := #[.string t250, .string t251, .string (⟨#[]⟩ : ByteArray), .slice none 0 0, .slice none 0 0]) ?_ 2 _ rfl; (with_reducible repeat (first | refine qi ?_ _ | refine qk ?_ | refine qh ?_ _)); refine qq (cs := #[.string t250, .string (⟨#[]⟩ : ByteArray), .string (⟨#[]⟩ : ByteArray), .slice none 0 0, .slice none 0 0]) ?_ 1 _ rfl; (with_reducible repeat (first | refine qi ?_ _ | refine qk ?_ | refine qh ?_ _)); refine qq (cs := #[.string (⟨#[]⟩ : ByteArray), .string (⟨#[]⟩ : ByteArray), .string (⟨#[]⟩ : ByteArray), .slice none 0 0, .slice none 0 0]) ?_ 0 _ rfl; (with_reducible repeat (first | refine qi ?_ _ | refine qk ?_ | refine qh ?_ _)); exact BK260.out) hb); have n5_ := qa.mk (qm zz67 hb); clear HO_0; clear HO255; clear HO258; clear BK244; clear BK260; clear HB; have HO_0 := n0_; have HO255 := n1_; have HO258 := n2_; have BK244 := n3_; have BK260 := n4_; have HB := n5_; clear n0_ n1_ n2_ n3_ n4_ n5_; (try clear hb); (try clear hb2); (try clear hk); (try clear hi); have hcz36_0 : w35.cell? ⟨gb244, 0, none⟩ = some (.string (⟨#[]⟩ : ByteArray)) := (qg BK244.out 0).trans rfl; have hcz36_1 : w35.cell? ⟨gb244, 1, none⟩ = some (.string (⟨#[]⟩ : ByteArray)) := (qg BK244.out 1).trans rfl; have hcz36_2 : w35.cell? ⟨gb244, 2, none⟩ = some (.string (⟨#[]⟩ : ByteArray)) := (qg BK244.out 2).trans rfl; have hcz36_3 : w35.cell? ⟨gb244, 3, none⟩ = some (.slice none 0 0) := (qg BK244.out 3).trans rfl; have hcz36_4 : w35.cell? ⟨gb244, 4, none⟩ = some (.slice none 0 0) := (qg BK244.out 4).trans rfl; have hfz36_0 := qf BK244.out 0; have hfz36_1 := qf BK244.out 1; have hfz36_2 := qf BK244.out 2; have hfz36_3 := qf BK244.out 3; have hfz36_4 := qf BK244.out 4))
      refine bodyPost_ret (results_ct rfl _ _ gb244 84 #[.string (⟨#[]⟩ : ByteArray), .string (⟨#[]⟩ : ByteArray), .string (⟨#[]⟩ : ByteArray), .slice none 0 0, .slice none 0 0] (0, 0) _ rfl zz125 Tryd.underlying84 rfl (by kernel_rfl)) rfl ?_
      exact ⟨_, _, zz65, zz57, zz57, zz67⟩
  ·replace c6 := Bool.eq_false_iff.mpr c6
   subst c6
   have H1 : (some ((⟨#[]⟩ : ByteArray), (⟨#[]⟩ : ByteArray), (⟨#[]⟩ : ByteArray), ([] : List (S48)), ([] : List (S84)), 2)) = some (r1, r2, r3, r4, r5, r6) := by rw [if_neg (show ¬ (false = true) by decide)] at H; exact H
   clear H
   have H := H1
   clear H1
   simp only [Option.some.injEq, Prod.mk.injEq] at H
   obtain ⟨rfl, rfl, rfl, rfl, rfl, rfl⟩ := H
   go_enter Tryd.func35, Tryd.ntmps35
   go_wp2_with (first | ((with_reducible refine qeb (N := 2) rfl ?_); refine qib ?hg (N := 2) ?hd (cs := #[.string (⟨#[]⟩ : ByteArray), .string (⟨#[]⟩ : ByteArray), .string (⟨#[]⟩ : ByteArray), .slice none 0 0, .slice none 0 0]) (t := 84) ?hr ?_; (case hd => rfl); (case hg => rfl); (case hr => exact zz5); intro gb244 hg w37 hbox hb; have n0_ := qa.mk (Kd.V_below (Kd.V_elderB zz25 gb244 (Nat.le_of_eq hg.symm)) hb); have n1_ := qa.mk (qm zz24 hb); have n2_ := qa.mk (hbox); have n3_ := qa.mk ((by rw [hg]; exact (ql zz24) : w.heap.size ≤ gb244)); have n4_ := qa.mk ((by rw [hg]; exact (ql zz24) : w.heap.size ≤ gb244)); clear HO0; clear HB; have HO0 := n0_; have HB := n1_; have BK244 := n2_; have GW244 := n3_; have GE244 := n4_; clear n0_ n1_ n2_ n3_ n4_; clear hb hbox hg) | ((with_reducible refine qv (f := 49) rfl ?_); refine qob (some 15) rfl rfl Tryd.func49 (by kernel_rfl) rfl #[.slice A0 l0.length c0] rfl zz56 ?_; (with_reducible refine (qdb.calls k _ _ l0 false _ ?side1 ?side2 A5.out).mono ?_); (case side1 => exact zz80); (case side2 => exact (Kd.V_reads' HO0.out).2.1); rintro e w38 ⟨rfl, hb⟩; refine ⟨_, rfl, ?_⟩; have n0_ := qa.mk (Kd.V_below zz25 hb); have n1_ := qa.mk (qjb (g := gb244) (o := .cells #[.string (⟨#[]⟩ : ByteArray), .string (⟨#[]⟩ : ByteArray), .string (⟨#[]⟩ : ByteArray), .slice none 0 0, .slice none 0 0] 84 (0, 0)) zz18 hb); have n2_ := qa.mk (qm zz42 hb); clear HO0; clear BK244; clear HB; have HO0 := n0_; have BK244 := n1_; have HB := n2_; clear n0_ n1_ n2_; (try clear hb); (try clear hb2); (try clear hk); (try clear hi); have hcz39_0 : w38.cell? ⟨gb244, 0, none⟩ = some (.string (⟨#[]⟩ : ByteArray)) := (qg BK244.out 0).trans rfl; have hcz39_1 : w38.cell? ⟨gb244, 1, none⟩ = some (.string (⟨#[]⟩ : ByteArray)) := (qg BK244.out 1).trans rfl; have hcz39_2 : w38.cell? ⟨gb244, 2, none⟩ = some (.string (⟨#[]⟩ : ByteArray)) := (qg BK244.out 2).trans rfl; have hcz39_3 : w38.cell? ⟨gb244, 3, none⟩ = some (.slice none 0 0) := (qg BK244.out 3).trans rfl; have hcz39_4 : w38.cell? ⟨gb244, 4, none⟩ = some (.slice none 0 0) := (qg BK244.out 4).trans rfl; have hfz39_0 := qf BK244.out 0; have hfz39_1 := qf BK244.out 1; have hfz39_2 := qf BK244.out 2; have hfz39_3 := qf BK244.out 3; have hfz39_4 := qf BK244.out 4))
   refine bodyPost_ret (results_ct rfl _ _ gb244 84 #[.string (⟨#[]⟩ : ByteArray), .string (⟨#[]⟩ : ByteArray), .string (⟨#[]⟩ : ByteArray), .slice none 0 0, .slice none 0 0] (0, 0) _ rfl zz125 Tryd.underlying84 rfl (by kernel_rfl)) rfl ?_
   exact ⟨_, _, zz65, zz57, zz57, zz42⟩
end Go.Proofs.YtjbobecnlpiejaaDoor.Q
