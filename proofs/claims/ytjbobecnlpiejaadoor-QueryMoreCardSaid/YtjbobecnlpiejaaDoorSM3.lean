import Derived.Test.YtjbobecnlpiejaaDoorSM2
set_option linter.unusedVariables false
set_option linter.unusedSimpArgs false
namespace Go.Proofs.YtjbobecnlpiejaaDoor.Q
open Go.Proofs.YtjbobecnlpiejaaDoorZ
open Go.RowKit Go.Proofs.YtjbobecnlpiejaaDoorW.PrintWords Go.Proofs.YtjbobecnlpiejaaDoorW.PrintLast Go.Proofs.YtjbobecnlpiejaaDoorW.PrintMore
attribute [local go_sem] qpb qqb qvb qwb
def qmb.f (k : Nat) (l0 : List (S46)) : Option (Int) := if (l0.length : Int) = 0 then (some 0) else ((qub.f k l0).bind fun bt263 => (some bt263.2.2.2.2.2))
theorem qmb.mono : ∀ a0 k, LeO (qmb.f k a0) (qmb.f (k + 1) a0) := by
 intro a0 k
 unfold qmb.f
 repeat' first
   | (with_reducible exact qub.mono _ _)
   | (with_reducible exact LeO.refl _)
   | (with_reducible exact LeO.none _)
   | (with_reducible refine LeO.ite ?_ ?_)
   | (with_reducible refine LeO.bind ?_ (fun _ => ?_))
   | exact qub.mono _ _
   | exact LeO.none _
   | refine LeO.ite ?_ ?_
   | refine LeO.bind ?_ (fun _ => ?_)
set_option maxHeartbeats 8000000 in
set_option maxRecDepth 100000 in
theorem qmb.calls (k : Nat) (A0 : Option Addr) (c0 : Nat) (l0 : List (S46)) (r : Int) (w : World) (hr0 : Kd.C k46 w A0 l0.length l0) (hc0 : l0.length ≤ c0) (h : qmb.f k l0 = some r) :
  Calls Tryd.prog 22 #[.slice A0 l0.length c0] w fun e w' => e = .returned (.int .i64 r) ∧ Below w.heap.size w w' := by
 have hu84 := Tryd.underlying84
 have HR0 := qa.mk hr0
 have HC0 := qa.mk hc0
 clear hr0 hc0
 have HB := qa.mk (Below.refl w.heap.size w)
 have H : (if (l0.length : Int) = 0 then (some 0) else ((qub.f k l0).bind fun bt263 => (some bt263.2.2.2.2.2))) = some r := h
 clear h
 by_cases c2 : (l0.length : Int) = 0
 ·rw [if_pos c2] at H
  have c2b0 : ((l0.length : Int) == 0) = true := beq_iff_eq.mpr c2
  have c2b1 : ((l0.length : Int) != 0) = false := bne_eq_false_iff_eq.mpr c2
  clear c2
  obtain rfl := Option.some.inj H
  go_enter Tryd.func22, Tryd.ntmps22
  go_wp2
  go_ret
  exact ⟨zz65, zz24⟩
 ·rw [if_neg c2] at H
  have c2b0 : ((l0.length : Int) == 0) = false := beq_eq_false_iff_ne.mpr c2
  have c2b1 : ((l0.length : Int) != 0) = true := bne_iff_ne.mpr c2
  have c2b2 : ¬ (l0 = []) := fun h_ => c2 (by rw [h_]; rfl)
  replace H := Option.bind_eq_some_iff.mp H
  obtain ⟨⟨t263, t264, t265, t266, t269, t272⟩, A30, H⟩ := H
  replace H : (some t272) = some r := H
  have A3 := qa.mk A30
  clear A30
  obtain rfl := Option.some.inj H
  go_enter Tryd.func22, Tryd.ntmps22
  go_wp2_with (first | ((with_reducible refine qv (f := 35) rfl ?_); refine qob (some 10) rfl rfl Tryd.func35 (by kernel_rfl) rfl #[.slice A0 l0.length c0] rfl zz56 ?_; (with_reducible refine (qub.calls k (fun k_ => k_ < w.heap.size) _ _ l0 t263 t264 t265 t266 t269 t272 _ ?side1 A3.out).mono ?_); (case side1 => exact Kd.V_mk HC0.out (Kd.F_below (Kd.C_F k46_heap HR0.out) zz24)); rintro e w4 ⟨v267, v270, rfl, ho0, ho1, hb⟩; refine ⟨_, rfl, ?_⟩; have n0_ := qa.mk (Kd.R_lower (Kd.R_mono (ok' := fun k_ => True) ho0 (fun _ hk_ => trivial)) (ql zz24)); have n1_ := qa.mk (Kd.R_lower (Kd.R_mono (ok' := fun k_ => some k_ ≠ (v267 : Value).ownBlock) ho1 (fun _ hk_ => hk_.2)) (ql zz24)); have n2_ := qa.mk (qm zz24 hb); clear HB; have HO268 := n0_; have HO271 := n1_; have HB := n2_; clear n0_ n1_ n2_; (try clear hb); (try clear hb2); (try clear hk); (try clear hi); (try clear ho0); (try clear ho1)) | ((with_reducible refine qeb (N := 3) rfl ?_); refine qib ?hg (N := 3) ?hd (cs := #[.string (⟨#[]⟩ : ByteArray), .string (⟨#[]⟩ : ByteArray), .string (⟨#[]⟩ : ByteArray), .slice none 0 0, .slice none 0 0]) (t := 84) ?hr ?_; (case hd => rfl); (case hg => rfl); (case hr => exact zz5); intro gb273 hg w5 hbox hb; have n0_ := qa.mk (Kd.R_below (by (with_reducible repeat (first | apply Kd.R_alloc | apply Kd.R_drewN | apply Kd.R_drew)); exact HO268.out) hb); have n1_ := qa.mk (Kd.R_below (Kd.R_elderB (by (with_reducible repeat (first | apply Kd.R_alloc | apply Kd.R_drewN | apply Kd.R_drew)); exact HO271.out) gb273 (Nat.le_of_eq hg.symm)) hb); have n2_ := qa.mk (qm zz24 hb); have n3_ := qa.mk (hbox); have n4_ := qa.mk ((by rw [hg]; exact (ql zz24) : w.heap.size ≤ gb273)); have n5_ := qa.mk ((by rw [hg]; exact (ql zz24) : w.heap.size ≤ gb273)); clear HO268; clear HO271; clear HB; have HO268 := n0_; have HO271 := n1_; have HB := n2_; have BK273 := n3_; have GW273 := n4_; have GE273 := n5_; clear n0_ n1_ n2_ n3_ n4_ n5_; clear hb hbox hg; have hcz6_0 : w5.cell? ⟨gb273, 0, none⟩ = some (.string (⟨#[]⟩ : ByteArray)) := (qg BK273.out 0).trans rfl; have hcz6_1 : w5.cell? ⟨gb273, 1, none⟩ = some (.string (⟨#[]⟩ : ByteArray)) := (qg BK273.out 1).trans rfl; have hcz6_2 : w5.cell? ⟨gb273, 2, none⟩ = some (.string (⟨#[]⟩ : ByteArray)) := (qg BK273.out 2).trans rfl; have hcz6_3 : w5.cell? ⟨gb273, 3, none⟩ = some (.slice none 0 0) := (qg BK273.out 3).trans rfl; have hcz6_4 : w5.cell? ⟨gb273, 4, none⟩ = some (.slice none 0 0) := (qg BK273.out 4).trans rfl; have hfz6_0 := qf BK273.out 0; have hfz6_1 := qf BK273.out 1; have hfz6_2 := qf BK273.out 2; have hfz6_3 := qf BK273.out 3; have hfz6_4 := qf BK273.out 4; obtain ⟨Ao7, co7, eo7⟩ := Kd.R_slice HO268.out; subst eo7; obtain ⟨Ao8, co8, eo8⟩ := Kd.R_slice HO271.out; subst eo8))
  go_ret
  exact ⟨zz65, by repeat (first | (with_reducible first | exact HB.out | apply qc | apply qb | apply qd | refine qj ?_ GE273.out) | exact HB.out)⟩
def slices_Clone_bool_bool.f (l0 : List Bool) : Option (List Bool) := if l0.length < 140737488355328 then some l0 else none
set_option maxHeartbeats 4000000 in
set_option maxRecDepth 100000 in
theorem slices_Clone_bool_bool.calls (A0 : Option Addr) (c0 : Nat) (l0 : List Bool) (r : List Bool) (w : World) (hr0 : Kd.C Kd.bool w A0 l0.length l0) (hc0 : l0.length ≤ c0) (h : slices_Clone_bool_bool.f l0 = some r) :
  Calls Tryd.prog 36 #[.slice A0 l0.length c0] w fun e w' => ∃ v0_ : Value, e = .returned (v0_) ∧ Kd.R Kd.bool 4 w' w.heap.size (fun _ => True) v0_ r ∧ Below w.heap.size w w' := by
 unfold slices_Clone_bool_bool.f at h
 by_cases hl : l0.length < 140737488355328
 ·rw [if_pos hl] at h
  obtain rfl := Option.some.inj h
  clear h
  have HR := qa.mk hr0
  rcases A0 with _ | ad
  ·have h0 : l0 = [] := by
    rcases Nat.eq_zero_or_pos l0.length with h0 | h0
    ·exact List.eq_nil_of_length_eq_zero h0
    ·obtain ⟨_, h, _⟩ := hr0.2.2 h0
     cases h
   subst h0
   clear hr0 hc0 hl HR
   have hnil := Go.Lib.run_eql_slice_nil (P := Tryd.prog) w 67 4 none 0 c0 0 0 Tryd.underlying67
   go_enter Tryd.func36, Tryd.ntmps36
   go_wp2
   go_ret
   exact ⟨_, rfl, Kd.R_nil _ _ _ _ _, Below.refl _ _⟩
  ·clear hr0 hc0
   have hnil := Go.Lib.run_eql_slice_nil (P := Tryd.prog) w 67 4 (some ad) l0.length c0 0 0 Tryd.underlying67
   have hinf : (Tryd.prog.info? 4).map (fun i => (i.zero, i.size, i.bytes)) = some (some (.bool false), Kd.sz Kd.bool, 1) := by kernel_rfl
   have HL := qa.mk hl
   have HI := qa.mk hinf
   clear hl hinf
   go_enter Tryd.func36, Tryd.ntmps36
   go_wp2_with (at_builtin; refine Kd.R_append_rows Kd.bool (w0 := w) w.heap.size rfl (.tmp 5) (.tmp 6) 67 4 (.bool false) 1 rfl Tryd.underlying67 HI.out rfl (by decide) (by omega) (.slice (some ⟨w.heap.size, 0, none⟩) 0 0) [] l0 _ _ _ (fun _ => True) (fun _ => False) rfl rfl ?aO ?aR (fun _ _ h => h) (fun _ h => h.elim) (fun _ _ => trivial) ?aB ?aS ?aL ?_; (case aO => exact R_empty _ _ _ _ (Nat.le_refl _)); (case aR => exact Kd.C_below HR.out (qc (Below.refl _ _) _)); (case aB => exact qc (Below.refl _ _) _); (case aS => simp); (case aL => have := HL.out; simp; omega); intro v1 w1 hr hb _ _)
   go_ret
   exact ⟨_, rfl, hr, hb⟩
 ·rw [if_neg hl] at h
  cases h
def attrs_find.l0 : Nat → List (S48) → ByteArray → Int → List (S48) → Int → Int → Option (Int × Bool)
 | 0, _, _, _, _, _, _ => none
 | k + 1, x0, x1, x6, x11, x12, x13 => if x13 < x12 then (if 0 ≤ x13 then (if x13 < (x11.length : Int) then (if ((qy x11 x13).f0).toList = x1.toList then (some (x13, true)) else (if x6 < (x0.length : Int) then (attrs_find.l0 k x0 x1 x6 x11 x12 (wrap64 (x13 + 1))) else (if (Op.bytesLess (((qy x11 x13).f0).toList) x1.toList) = true then (attrs_find.l0 k x0 x1 x6 x11 x12 (wrap64 (x13 + 1))) else (attrs_find.l0 k x0 x1 x13 x11 x12 (wrap64 (x13 + 1)))))) else (none)) else (none)) else (some (x6, false))
def attrs_find.f (k : Nat) (l0 : List (S48)) (a1 : ByteArray) : Option (Int × Bool) := attrs_find.l0 k l0 a1 (l0.length : Int) l0 (l0.length : Int) 0
set_option maxHeartbeats 8000000 in
set_option maxRecDepth 100000 in
theorem attrs_find.calls (k : Nat) (A0 : Option Addr) (c0 : Nat) (l0 : List (S48)) (a1 : ByteArray) (r1 : Int) (r2 : Bool) (w : World) (hr0 : Kd.C k48 w A0 l0.length l0) (hc0 : l0.length ≤ c0) (h : attrs_find.f k l0 a1 = some (r1, r2)) :
  Calls Tryd.prog 66 #[.slice A0 l0.length c0, .string a1] w fun e w' => e = .returned (.tuple #[.int .i64 r1, .bool r2]) ∧ Below w.heap.size w w' := by
 have hu48 := Tryd.underlying48
 have HR0 := qa.mk hr0
 have HC0 := qa.mk hc0
 clear hr0 hc0
 have HB := qa.mk (Below.refl w.heap.size w)
 have H : (attrs_find.l0 k l0 a1 (l0.length : Int) l0 (l0.length : Int) 0) = some (r1, r2) := h
 clear h
 have H' := qa.mk H
 clear H
 go_enter Tryd.func66, Tryd.ntmps66
 go_wp2
 go_loopg [6, 13] k (fun kq v6 v13 w' => ∃ (x6_1 : Int) (x13_1 : Int), v6 = .int .i64 x6_1 ∧ v13 = .int .i64 x13_1 ∧ qa (attrs_find.l0 kq l0 a1 x6_1 l0 (l0.length : Int) x13_1 = some (r1, r2)) ∧ qa (kq ≤ k) ∧ qa (Below w.heap.size w w'))
 case atStart => exact ⟨((l0.length : Int)), (0), zz6, zz6, H', ⟨Nat.le_refl _⟩, ⟨zz24⟩⟩
 case round =>
  clear H'
  try clear p2
  obtain ⟨x6_1, x13_1, rfl, rfl, HA, HK1, HB⟩ := hrel
  cases gk with
  | zero => exact absurd HA.out (by simp [attrs_find.l0])
  | succ k1 =>
   have H := HA.out
   clear HA
   simp only [attrs_find.l0] at H
   by_cases c3 : x13_1 < (l0.length : Int)
   ·rw [if_pos c3] at H
    have c3b0 : decide (x13_1 < (l0.length : Int)) = true := decide_eq_true c3
    clear c3
    by_cases c4 : 0 ≤ x13_1
    ·rw [if_pos c4] at H
     have c4b0 : decide (0 ≤ x13_1) = true := decide_eq_true c4
     clear c4
     by_cases c5 : x13_1 < (l0.length : Int)
     ·rw [if_pos c5] at H
      have c5b0 : decide (x13_1 < (l0.length : Int)) = true := decide_eq_true c5
      clear c5
      by_cases c6 : ((qy l0 x13_1).f0).toList = a1.toList
      ·rw [if_pos c6] at H
       have c6b0 : (((qy l0 x13_1).f0).toList == a1.toList) = true := beq_iff_eq.mpr c6
       have c6b1 : (((qy l0 x13_1).f0).toList != a1.toList) = false := bne_eq_false_iff_eq.mpr c6
       clear c6
       simp only [Option.some.injEq, Prod.mk.injEq] at H
       obtain ⟨rfl, rfl⟩ := H
       have p274 : 0 ≤ (x13_1 : Int) := of_decide_eq_true zz7
       have q274 : x13_1 < (l0.length : Int) := of_decide_eq_true zz7
       obtain ⟨ad274, e274, hx274_0, hx274_1⟩ := at_T48 HR0.out x13_1 p274 q274
       cases e274
       replace hx274_0 := (HB.out.cell (qic w _ hx274_0)).trans hx274_0
       replace hx274_1 := (HB.out.cell (qic w _ hx274_1)).trans hx274_1
       replace p274 := eq_true p274
       replace q274 := eq_true q274
       go_wp2_with (first | ((with_reducible refine qeb (N := 8) rfl ?_); refine qib ?hg (N := 8) ?hd (cs := #[.string (⟨#[]⟩ : ByteArray), .string (⟨#[]⟩ : ByteArray)]) (t := 48) ?hr ?_; (case hd => rfl); (case hg => rfl); (case hr => exact zz5); intro gb275 hg w7 hbox hb; have n0_ := qa.mk (qm zz24 hb); have n1_ := qa.mk (hbox); have n2_ := qa.mk ((by rw [hg]; exact (ql zz24) : w.heap.size ≤ gb275)); have n3_ := qa.mk ((by rw [hg]; exact (ql zz24) : w.heap.size ≤ gb275)); clear HB; have HB := n0_; have BK275 := n1_; have GW275 := n2_; have GE275 := n3_; clear n0_ n1_ n2_ n3_; clear hb hbox hg; have hcz8_0 : w7.cell? ⟨gb275, 0, none⟩ = some (.string (⟨#[]⟩ : ByteArray)) := (qg BK275.out 0).trans rfl; have hcz8_1 : w7.cell? ⟨gb275, 1, none⟩ = some (.string (⟨#[]⟩ : ByteArray)) := (qg BK275.out 1).trans rfl; have hfz8_0 := qf BK275.out 0; have hfz8_1 := qf BK275.out 1))
       go_ret2
       exact ⟨zz65, zz43⟩
      ·rw [if_neg c6] at H
       have c6b0 : (((qy l0 x13_1).f0).toList == a1.toList) = false := beq_eq_false_iff_ne.mpr c6
       have c6b1 : (((qy l0 x13_1).f0).toList != a1.toList) = true := bne_iff_ne.mpr c6
       by_cases c9 : x6_1 < (l0.length : Int)
       ·rw [if_pos c9] at H
        have c9b0 : decide (x6_1 < (l0.length : Int)) = true := decide_eq_true c9
        clear c9
        have H' := qa.mk H
        clear H
        have p274 : 0 ≤ (x13_1 : Int) := of_decide_eq_true zz7
        have q274 : x13_1 < (l0.length : Int) := of_decide_eq_true zz7
        obtain ⟨ad274, e274, hx274_0, hx274_1⟩ := at_T48 HR0.out x13_1 p274 q274
        cases e274
        replace hx274_0 := (HB.out.cell (qic w _ hx274_0)).trans hx274_0
        replace hx274_1 := (HB.out.cell (qic w _ hx274_1)).trans hx274_1
        replace p274 := eq_true p274
        replace q274 := eq_true q274
        go_wp2_with (first | ((with_reducible refine qeb (N := 8) rfl ?_); refine qib ?hg (N := 8) ?hd (cs := #[.string (⟨#[]⟩ : ByteArray), .string (⟨#[]⟩ : ByteArray)]) (t := 48) ?hr ?_; (case hd => rfl); (case hg => rfl); (case hr => exact zz5); intro gb275 hg w10 hbox hb; have n0_ := qa.mk (qm zz24 hb); have n1_ := qa.mk (hbox); have n2_ := qa.mk ((by rw [hg]; exact (ql zz24) : w.heap.size ≤ gb275)); have n3_ := qa.mk ((by rw [hg]; exact (ql zz24) : w.heap.size ≤ gb275)); clear HB; have HB := n0_; have BK275 := n1_; have GW275 := n2_; have GE275 := n3_; clear n0_ n1_ n2_ n3_; clear hb hbox hg; have hcz11_0 : w10.cell? ⟨gb275, 0, none⟩ = some (.string (⟨#[]⟩ : ByteArray)) := (qg BK275.out 0).trans rfl; have hcz11_1 : w10.cell? ⟨gb275, 1, none⟩ = some (.string (⟨#[]⟩ : ByteArray)) := (qg BK275.out 1).trans rfl; have hfz11_0 := qf BK275.out 0; have hfz11_1 := qf BK275.out 1))
        go_roundg k1
        case measure => have := HK1.out; omega
        case rel => exact ⟨(x6_1), (wrap64 (x13_1 + 1)), zz6, zz6, H', ⟨zz1⟩, ⟨zz43⟩⟩
       ·rw [if_neg c9] at H
        have c9b0 : decide (x6_1 < (l0.length : Int)) = false := decide_eq_false c9
        clear c9
        by_cases c12 : (Op.bytesLess (((qy l0 x13_1).f0).toList) a1.toList) = true
        ·rw [if_pos c12] at H
         have c12b0 : (Op.bytesLess (((qy l0 x13_1).f0).toList) a1.toList) = true := c12
         clear c12
         have H' := qa.mk H
         clear H
         have p274 : 0 ≤ (x13_1 : Int) := of_decide_eq_true zz7
         have q274 : x13_1 < (l0.length : Int) := of_decide_eq_true zz7
         obtain ⟨ad274, e274, hx274_0, hx274_1⟩ := at_T48 HR0.out x13_1 p274 q274
         cases e274
         replace hx274_0 := (HB.out.cell (qic w _ hx274_0)).trans hx274_0
         replace hx274_1 := (HB.out.cell (qic w _ hx274_1)).trans hx274_1
         replace p274 := eq_true p274
         replace q274 := eq_true q274
         go_wp2_with (first | ((with_reducible refine qeb (N := 8) rfl ?_); refine qib ?hg (N := 8) ?hd (cs := #[.string (⟨#[]⟩ : ByteArray), .string (⟨#[]⟩ : ByteArray)]) (t := 48) ?hr ?_; (case hd => rfl); (case hg => rfl); (case hr => exact zz5); intro gb275 hg w13 hbox hb; have n0_ := qa.mk (qm zz24 hb); have n1_ := qa.mk (hbox); have n2_ := qa.mk ((by rw [hg]; exact (ql zz24) : w.heap.size ≤ gb275)); have n3_ := qa.mk ((by rw [hg]; exact (ql zz24) : w.heap.size ≤ gb275)); clear HB; have HB := n0_; have BK275 := n1_; have GW275 := n2_; have GE275 := n3_; clear n0_ n1_ n2_ n3_; clear hb hbox hg; have hcz14_0 : w13.cell? ⟨gb275, 0, none⟩ = some (.string (⟨#[]⟩ : ByteArray)) := (qg BK275.out 0).trans rfl; have hcz14_1 : w13.cell? ⟨gb275, 1, none⟩ = some (.string (⟨#[]⟩ : ByteArray)) := (qg BK275.out 1).trans rfl; have hfz14_0 := qf BK275.out 0; have hfz14_1 := qf BK275.out 1))
         go_roundg k1
         case measure => have := HK1.out; omega
         case rel => exact ⟨(x6_1), (wrap64 (x13_1 + 1)), zz6, zz6, H', ⟨zz1⟩, ⟨zz43⟩⟩
        ·rw [if_neg c12] at H
         have c12b0 : (Op.bytesLess (((qy l0 x13_1).f0).toList) a1.toList) = false := by simpa using c12
         clear c12
         have H' := qa.mk H
         clear H
         have p274 : 0 ≤ (x13_1 : Int) := of_decide_eq_true zz7
         have q274 : x13_1 < (l0.length : Int) := of_decide_eq_true zz7
         obtain ⟨ad274, e274, hx274_0, hx274_1⟩ := at_T48 HR0.out x13_1 p274 q274
         cases e274
         replace hx274_0 := (HB.out.cell (qic w _ hx274_0)).trans hx274_0
         replace hx274_1 := (HB.out.cell (qic w _ hx274_1)).trans hx274_1
         replace p274 := eq_true p274
         replace q274 := eq_true q274
         go_wp2_with (first | ((with_reducible refine qeb (N := 8) rfl ?_); refine qib ?hg (N := 8) ?hd (cs := #[.string (⟨#[]⟩ : ByteArray), .string (⟨#[]⟩ : ByteArray)]) (t := 48) ?hr ?_; (case hd => rfl); (case hg => rfl); (case hr => exact zz5); intro gb275 hg w15 hbox hb; have n0_ := qa.mk (qm zz24 hb); have n1_ := qa.mk (hbox); have n2_ := qa.mk ((by rw [hg]; exact (ql zz24) : w.heap.size ≤ gb275)); have n3_ := qa.mk ((by rw [hg]; exact (ql zz24) : w.heap.size ≤ gb275)); clear HB; have HB := n0_; have BK275 := n1_; have GW275 := n2_; have GE275 := n3_; clear n0_ n1_ n2_ n3_; clear hb hbox hg; have hcz16_0 : w15.cell? ⟨gb275, 0, none⟩ = some (.string (⟨#[]⟩ : ByteArray)) := (qg BK275.out 0).trans rfl; have hcz16_1 : w15.cell? ⟨gb275, 1, none⟩ = some (.string (⟨#[]⟩ : ByteArray)) := (qg BK275.out 1).trans rfl; have hfz16_0 := qf BK275.out 0; have hfz16_1 := qf BK275.out 1))
         go_roundg k1
         case measure => have := HK1.out; omega
         case rel => exact ⟨(x13_1), (wrap64 (x13_1 + 1)), zz6, zz6, H', ⟨zz1⟩, ⟨zz43⟩⟩
     ·rw [if_neg c5] at H
      exact absurd H (by simp)
    ·rw [if_neg c4] at H
     exact absurd H (by simp)
   ·rw [if_neg c3] at H
    have c3b0 : decide (x13_1 < (l0.length : Int)) = false := decide_eq_false c3
    clear c3
    simp only [Option.some.injEq, Prod.mk.injEq] at H
    obtain ⟨rfl, rfl⟩ := H
    go_wp2
    go_ret2
    exact ⟨zz65, zz24⟩
def attrs_Get.f (k : Nat) (l0 : List (S48)) (a1 : ByteArray) : Option (ByteArray × Bool) := (attrs_find.f k l0 a1).bind fun bt276 => (if bt276.2 = true then (if 0 ≤ bt276.1 then (if bt276.1 < (l0.length : Int) then (some ((qy l0 bt276.1).f1, true)) else (none)) else (none)) else (some ((⟨#[]⟩ : ByteArray), false)))
set_option maxHeartbeats 8000000 in
set_option maxRecDepth 100000 in
theorem attrs_Get.calls (k : Nat) (A0 : Option Addr) (c0 : Nat) (l0 : List (S48)) (a1 : ByteArray) (r1 : ByteArray) (r2 : Bool) (w : World) (hr0 : Kd.C k48 w A0 l0.length l0) (hc0 : l0.length ≤ c0) (h : attrs_Get.f k l0 a1 = some (r1, r2)) :
  Calls Tryd.prog 55 #[.slice A0 l0.length c0, .string a1] w fun e w' => e = .returned (.tuple #[.string r1, .bool r2]) ∧ Below w.heap.size w w' := by
 have HR0 := qa.mk hr0
 have HC0 := qa.mk hc0
 clear hr0 hc0
 have HB := qa.mk (Below.refl w.heap.size w)
 have H : ((attrs_find.f k l0 a1).bind fun bt276 => (if bt276.2 = true then (if 0 ≤ bt276.1 then (if bt276.1 < (l0.length : Int) then (some ((qy l0 bt276.1).f1, true)) else (none)) else (none)) else (some ((⟨#[]⟩ : ByteArray), false)))) = some (r1, r2) := h
 clear h
 replace H := Option.bind_eq_some_iff.mp H
 obtain ⟨⟨t276, t277⟩, A30, H⟩ := H
 replace H : (if t277 = true then (if 0 ≤ t276 then (if t276 < (l0.length : Int) then (some ((qy l0 t276).f1, true)) else (none)) else (none)) else (some ((⟨#[]⟩ : ByteArray), false))) = some (r1, r2) := H
 have A3 := qa.mk A30
 clear A30
 by_cases c4 : t277 = true
 ·subst c4
  have H1 : (if 0 ≤ t276 then (if t276 < (l0.length : Int) then (some ((qy l0 t276).f1, true)) else (none)) else (none)) = some (r1, r2) := by rw [if_pos rfl] at H; exact H
  clear H
  have H := H1
  clear H1
  by_cases c5 : 0 ≤ t276
  ·rw [if_pos c5] at H
   have c5b0 : decide (0 ≤ t276) = true := decide_eq_true c5
   clear c5
   by_cases c6 : t276 < (l0.length : Int)
   ·rw [if_pos c6] at H
    have c6b0 : decide (t276 < (l0.length : Int)) = true := decide_eq_true c6
    clear c6
    simp only [Option.some.injEq, Prod.mk.injEq] at H
    obtain ⟨rfl, rfl⟩ := H
    go_enter Tryd.func55, Tryd.ntmps55
    go_wp2_with (first | ((with_reducible refine qv (f := 66) rfl ?_); refine qob (some 11) rfl rfl Tryd.func66 (by kernel_rfl) rfl #[.slice A0 l0.length c0, .string a1] rfl zz56 ?_; (with_reducible refine (attrs_find.calls k _ _ l0 a1 t276 true _ ?side1 ?side2 A3.out).mono ?_); (case side1 => exact zz70); (case side2 => exact HC0.out); rintro e w7 ⟨rfl, hb⟩; refine ⟨_, rfl, ?_⟩; have n0_ := qa.mk (qm zz24 hb); clear HB; have HB := n0_; clear n0_; (try clear hb); (try clear hb2); (try clear hk); (try clear hi); have p278 : 0 ≤ (t276 : Int) := of_decide_eq_true zz7; have q278 : t276 < (l0.length : Int) := of_decide_eq_true zz7; obtain ⟨ad278, e278, hx278_0, hx278_1⟩ := at_T48 HR0.out t276 p278 q278; cases e278; replace hx278_0 := (HB.out.cell (qic w _ hx278_0)).trans hx278_0; replace hx278_1 := (HB.out.cell (qic w _ hx278_1)).trans hx278_1; replace p278 := eq_true p278; replace q278 := eq_true q278))
    go_ret2
    exact ⟨zz65, zz24⟩
   ·rw [if_neg c6] at H
    exact absurd H (by simp)
  ·rw [if_neg c5] at H
   exact absurd H (by simp)
 ·replace c4 := Bool.eq_false_iff.mpr c4
  subst c4
  have H1 : (some ((⟨#[]⟩ : ByteArray), false)) = some (r1, r2) := by rw [if_neg (show ¬ (false = true) by decide)] at H; exact H
  clear H
  have H := H1
  clear H1
  simp only [Option.some.injEq, Prod.mk.injEq] at H
  obtain ⟨rfl, rfl⟩ := H
  go_enter Tryd.func55, Tryd.ntmps55
  go_wp2_with (first | ((with_reducible refine qv (f := 66) rfl ?_); refine qob (some 11) rfl rfl Tryd.func66 (by kernel_rfl) rfl #[.slice A0 l0.length c0, .string a1] rfl zz56 ?_; (with_reducible refine (attrs_find.calls k _ _ l0 a1 t276 false _ ?side1 ?side2 A3.out).mono ?_); (case side1 => exact zz70); (case side2 => exact HC0.out); rintro e w8 ⟨rfl, hb⟩; refine ⟨_, rfl, ?_⟩; have n0_ := qa.mk (qm zz24 hb); clear HB; have HB := n0_; clear n0_; (try clear hb); (try clear hb2); (try clear hk); (try clear hi)))
  go_ret2
  exact ⟨zz65, zz24⟩
def qrb.bad (at_ : List S48) (c : S33) : Option Bool := (attrs_Get.f (at_.length + 2) at_ c.f0).bind fun v => some (!v.2 || (c.f2 && (v.1.toList != c.f1.toList)))
def qrb.idx (at_ : List S48) : List S33 → Int → Option Int
 | [], _ => some (-1)
 | c :: r, i => (qrb.bad at_ c).bind fun t => if t = true then some i else qrb.idx at_ r (i + 1)
def qrb.f (p : S41) (x : S46) : Option Bool :=
 if (((p.f2.toList != []) && (p.f2.toList != x.f2.toList)) || (p.f1 && (p.f3.toList != x.f3.toList))) = true then some false else (qrb.idx x.f5 p.f4 0).bind fun j => some (!decide (0 ≤ j))
def RowAt (g : Nat) (x : S46) (A : Option Addr) (c : Nat) (W : World) : Prop := W.heap[g]? = some (.cells #[.int .i64 x.f0, .int .i64 x.f1, .string x.f2, .string x.f3, .string x.f4, .slice A x.f5.length c] 46 (0, 0)) ∧ Kd.C k48 W A x.f5.length x.f5 ∧ x.f5.length ≤ c
theorem RowAt.below {g : Nat} {x : S46} {A : Option Addr} {c : Nat} {W W1 : World} (h : RowAt g x A c W) (hb : Below W.heap.size W W1) : RowAt g x A c W1 := ⟨qjb h.1 hb, Kd.C_below h.2.1 hb, h.2.2⟩
set_option maxHeartbeats 4000000 in
set_option maxRecDepth 100000 in
theorem qrb.clo (bx : Nat) (A5 : Option Addr) (c5 : Nat) (x : S46) (c : S33) (t : Bool) (w : World) (hx : RowAt bx x A5 c5 w) (h : qrb.bad x.f5 c = some t) :
  Calls Tryd.prog 54 #[.agg #[.string c.f0, .string c.f1, .bool c.f2], .pointer (some ⟨bx, 0, none⟩)] w fun e w' => e = .returned (.bool t) ∧ Below w.heap.size w w' := by
 obtain ⟨⟨v, is⟩, hv, h2⟩ := Option.bind_eq_some_iff.1 h
 have HV := qa.mk hv
 have HX := qa.mk hx
 obtain ⟨c0, c1, c2⟩ := c
 have e2 := Option.some.inj h2
 clear h h2 hv
 dsimp only at e2 HV
 have hu1 := Tryd.underlying33
 have hu2 := Tryd.underlying46
 have HXA := qa.mk (hx.below (qc (Below.refl _ _) (.cells #[.string c0, .string c1, .bool c2] 33)))
 have hr5 : _ = some (Value.slice A5 x.f5.length c5) := qg HXA.out.1 5
 have hcb := blk_new w (.cells #[.string c0, .string c1, .bool c2] 33)
 have hq0 : _ = some (Value.string c0) := qg hcb 0
 have HCB := qa.mk hcb
 clear hx hcb
 have HE : ∀ W, Below (w.alloc (.cells #[.string c0, .string c1, .bool c2] 33)).heap.size (w.alloc (.cells #[.string c0, .string c1, .bool c2] 33)) W → qa (W.cell? ⟨w.heap.size, 1, none⟩ = some (.string c1) ∧ W.cell? ⟨w.heap.size, 2, none⟩ = some (.bool c2)) := fun W hb => ⟨qg (qjb HCB.out hb) 1, qg (qjb HCB.out hb) 2⟩
 go_enter Tryd.func54, Tryd.ntmps54
 go_upto_region 2 with (go_at_call 55; refine (attrs_Get.calls _ _ _ _ _ _ _ _ HXA.out.2.1 HXA.out.2.2 HV.out).mono ?_; rintro e w2 ⟨rfl, hb⟩; obtain ⟨hs1, hs2⟩ := (HE _ hb).out; have HB2 := qa.mk (qm (qc (Below.refl w.heap.size w) (.cells #[.string c0, .string c1, .bool c2] 33)) hb); clear hb)
 clear HE
 cases is
 ·obtain rfl : t = true := by simpa using e2.symm
  go_wp2_with fail
  go_ret
  exact ⟨rfl, HB2.out⟩
 ·cases c2
  ·obtain rfl : t = false := by simpa using e2.symm
   go_wp2_with fail
   go_ret
   exact ⟨rfl, HB2.out⟩
  ·simp only [Bool.not_true, Bool.false_or, Bool.true_and] at e2
   have HE2 := qa.mk e2
   clear e2
   go_wp2_with fail
   go_ret
   exact ⟨by rw [← HE2.out]; rfl, HB2.out⟩
set_option maxHeartbeats 4000000 in
set_option maxRecDepth 100000 in
theorem qrb.index (A0 : Option Addr) (c0 : Nat) (l0 : List S33) (bx : Nat) (A5 : Option Addr) (c5 : Nat) (x : S46) (r : Int) (w : World) (hr0 : Kd.C k33 w A0 l0.length l0) (hx : RowAt bx x A5 c5 w) (h : qrb.idx x.f5 l0 0 = some r) :
  Calls Tryd.prog 62 #[.slice A0 l0.length c0, .func (.func 54) #[] #[.pointer (some ⟨bx, 0, none⟩)]] w fun e w' => e = .returned (.int .i64 r) ∧ Below w.heap.size w w' := by
 have hm := hr0.2.1
 have HR0 := qa.mk hr0
 have HX := qa.mk hx
 have HH := qa.mk h
 have HB := qa.mk (Below.refl w.heap.size w)
 clear hr0 h hx
 have hu := Tryd.underlying33
 go_enter Tryd.func62, Tryd.ntmps62
 go_wp2
 go_loopg [8] (l0.length + 1) (fun kq v8 w' => ∃ (j : Nat), v8 = .int .i64 (j : Int) ∧ qa (j ≤ l0.length ∧ kq = l0.length + 1 - j ∧ qrb.idx x.f5 (l0.drop j) (j : Int) = some r) ∧ qa (Below w.heap.size w w'))
 case atStart => exact ⟨0, rfl, ⟨Nat.zero_le _, rfl, HH.out⟩, HB⟩
 case round =>
  clear HB
  obtain ⟨j, rfl, HJ, HB⟩ := hrel
  obtain ⟨hj, hk, HI⟩ := HJ.out
  clear HJ HH
  subst hk
  by_cases hlt : j < l0.length
  ·rw [qlb.drop l0 j hlt] at HI
   simp only [qrb.idx] at HI
   obtain ⟨t, ht1, HI⟩ := Option.bind_eq_some_iff.1 HI
   have H1 := qa.mk ht1
   have H2 := qa.mk HI
   clear ht1 HI
   obtain ⟨ad, e, hx0, hx1, hx2⟩ := at_T33 HR0.out (j : Int) (by omega) (by omega)
   cases e
   replace hx0 := (HB.out.cell (qic w _ hx0)).trans hx0
   replace hx1 := (HB.out.cell (qic w _ hx1)).trans hx1
   replace hx2 := (HB.out.cell (qic w _ hx2)).trans hx2
   rw [Int.toNat_natCast] at hx0 hx1 hx2
   cases t
   all_goals go_wp2_with (go_at_call 54; refine (qrb.clo bx A5 c5 x _ _ _ (HX.out.below HB.out) H1.out).mono ?_; rintro e w2 ⟨rfl, hb⟩; have HB2 := qa.mk (qm HB.out hb); clear hb)
   ·go_roundg (l0.length + 1 - (j + 1))
    case measure => omega
    case rel => exact ⟨j + 1, by go_num, ⟨by omega, rfl, by simpa using H2.out⟩, HB2⟩
   ·obtain rfl := Option.some.inj H2.out
    go_ret
    exact ⟨rfl, HB2.out⟩
  ·have HI2 := qa.mk HI
   clear HI
   go_wp2
   go_ret
   refine ⟨?_, HB.out⟩
   have h := HI2.out
   rw [List.drop_eq_nil_of_le (by omega)] at h
   obtain rfl := Option.some.inj h
   rfl
set_option maxHeartbeats 4000000 in
set_option maxRecDepth 100000 in
theorem qrb.contains (A0 : Option Addr) (c0 : Nat) (l0 : List S33) (bx : Nat) (A5 : Option Addr) (c5 : Nat) (x : S46) (r : Int) (w : World) (hr0 : Kd.C k33 w A0 l0.length l0) (hx : RowAt bx x A5 c5 w) (h : qrb.idx x.f5 l0 0 = some r) :
  Calls Tryd.prog 45 #[.slice A0 l0.length c0, .func (.func 54) #[] #[.pointer (some ⟨bx, 0, none⟩)]] w fun e w' => e = .returned (.bool (decide (0 ≤ r))) ∧ Below w.heap.size w w' := by
 have HR0 := qa.mk hr0
 have HX := qa.mk hx
 have HH := qa.mk h
 clear hr0 h hx
 go_enter Tryd.func45, Tryd.ntmps45
 go_wp2_with (go_at_call 62; refine (qrb.index _ _ _ bx _ _ _ _ _ HR0.out HX.out HH.out).mono ?_; rintro e w2 ⟨rfl, hb⟩; have HB2 := qa.mk hb; clear hb)
 go_ret
 exact ⟨rfl, HB2.out⟩
set_option maxHeartbeats 8000000 in
set_option maxRecDepth 100000 in
theorem qrb.calls (p : S41) (A4 : Option Addr) (c4 : Nat) (x : S46) (A5 : Option Addr) (c5 : Nat) (r : Bool) (w : World) (hr4 : Kd.C k33 w A4 p.f4.length p.f4) (hr5 : Kd.C k48 w A5 x.f5.length x.f5) (hc5 : x.f5.length ≤ c5) (h : qrb.f p x = some r) :
  Calls Tryd.prog 37 #[.agg #[.bool p.f0, .bool p.f1, .string p.f2, .string p.f3, .slice A4 p.f4.length c4], .agg #[.int .i64 x.f0, .int .i64 x.f1, .string x.f2, .string x.f3, .string x.f4, .slice A5 x.f5.length c5]] w fun e w' => e = .returned (.bool r) ∧ Below w.heap.size w w' := by
 obtain ⟨p0, p1, p2, p3, p4⟩ := p
 obtain ⟨x0, x1, x2, x3, x4, x5⟩ := x
 dsimp only at *
 unfold qrb.f at h
 dsimp only at h
 have HR4 := qa.mk hr4
 have HX0 := qa.mk (And.intro hr5 hc5)
 have HH := qa.mk h
 clear hr4 hr5 hc5 h
 have hu1 := Tryd.underlying41
 have hu2 := Tryd.underlying46
 have ce : ∀ s : ByteArray, ∃ b, s.toList.isEmpty = b ∧ (s.toList == ([] : List UInt8)) = b ∧ (s.toList != ([] : List UInt8)) = !b := fun s => ⟨_, rfl, by cases s.toList <;> rfl, by cases s.toList <;> rfl⟩
 have cd : ∀ s t : ByteArray, ∃ b, (s.toList == t.toList) = b ∧ (s.toList != t.toList) = !b := fun s t => ⟨_, rfl, rfl⟩
 obtain ⟨b1, e1, e1a, e1b⟩ := ce p2
 obtain ⟨b2, e2, e2a⟩ := cd p2 x2
 obtain ⟨b3, e3, e3a⟩ := cd p3 x3
 clear ce cd
 rw [e1b, e2a, e3a] at HH
 have HB1 := qa.mk (qc (qc (Below.refl w.heap.size w) (.cells #[.bool p0, .bool p1, .string p2, .string p3, .slice A4 p4.length c4] 41)) (.cells #[.int .i64 x0, .int .i64 x1, .string x2, .string x3, .string x4, .slice A5 x5.length c5] 46))
 have HX := qa.mk (show RowAt (w.heap.size + 1) ⟨x0, x1, x2, x3, x4, x5⟩ A5 c5 ((w.alloc (.cells #[.bool p0, .bool p1, .string p2, .string p3, .slice A4 p4.length c4] 41)).alloc (.cells #[.int .i64 x0, .int .i64 x1, .string x2, .string x3, .string x4, .slice A5 x5.length c5] 46)) from ⟨by simpa using blk_new (w.alloc (.cells #[.bool p0, .bool p1, .string p2, .string p3, .slice A4 p4.length c4] 41)) (.cells #[.int .i64 x0, .int .i64 x1, .string x2, .string x3, .string x4, .slice A5 x5.length c5] 46), Kd.C_below HX0.out.1 HB1.out, HX0.out.2⟩)
 have hpb := qh (blk_new w (.cells #[.bool p0, .bool p1, .string p2, .string p3, .slice A4 p4.length c4] 41)) (.cells #[.int .i64 x0, .int .i64 x1, .string x2, .string x3, .string x4, .slice A5 x5.length c5] 46)
 have hq1 : _ = some (Value.bool p1) := qg hpb 1
 have hq2 : _ = some (Value.string p2) := qg hpb 2
 have hq3 : _ = some (Value.string p3) := qg hpb 3
 have hq4 : _ = some (Value.slice A4 p4.length c4) := qg hpb 4
 have hz2 : _ = some (Value.string x2) := qg HX.out.1 2
 have hz3 : _ = some (Value.string x3) := qg HX.out.1 3
 have HR4B := qa.mk (Kd.C_below HR4.out HB1.out)
 clear hpb HX0
 by_cases hb : ((!b1 && !b2) || (p1 && !b3)) = true
 ·have hh := HH.out
  rw [if_pos hb] at hh
  obtain rfl := Option.some.inj hh
  clear HH hh HX HR4B HR4
  cases b1 <;> cases b2 <;> cases p1 <;> cases b3 <;> first | (exact absurd hb (by decide)) | (clear hb; go_enter Tryd.func37, Tryd.ntmps37; go_wp2_with fail; go_ret; exact ⟨rfl, HB1.out⟩)
 ·have hh := HH.out
  rw [if_neg hb] at hh
  obtain ⟨j, hj, hh2⟩ := Option.bind_eq_some_iff.1 hh
  obtain rfl := Option.some.inj hh2
  have HJ := qa.mk hj
  clear HH hh hh2 hj HR4
  cases b1 <;> cases b2 <;> cases p1 <;> cases b3 <;> first | (exact absurd rfl hb) | (clear hb; go_enter Tryd.func37, Tryd.ntmps37; go_wp2_with (go_at_call 45; refine (qrb.contains _ _ _ (w.heap.size + 1) _ _ ⟨x0, x1, x2, x3, x4, x5⟩ j _ HR4B.out HX.out HJ.out).mono ?_; rintro e w2 ⟨rfl, hb2⟩; have HB2 := qa.mk (qm HB1.out hb2); clear hb2); go_ret; exact ⟨rfl, HB2.out⟩)
def qtb.row (x : S46) (o a : List Bool) : List S41 → Nat → Option (List Bool)
 | [], _ => some []
 | p :: r, k => (qrb.f p x).bind fun h => (qtb.row x o a r (k + 1)).bind fun t => some ((h && (k == 0 || (if p.f0 = true then o else a).getD (k - 1) false)) :: t)
def qtb.go (l : List S41) : List S46 → List (List Bool) → List (List Bool) → Option (List (List Bool))
 | [], o, _ => some o
 | x :: r, o, a => if 0 ≤ x.f1 ∧ x.f1 < (o.length : Int) then (qtb.row x (o.getD x.f1.toNat []) (a.getD x.f1.toNat []) l 0).bind fun t => qtb.go l r (o ++ [t]) (a ++ [List.zipWith (· || ·) (a.getD x.f1.toNat []) t]) else none
def qtb.f (l0 : List S41) (l1 : List S46) : Option (List (List Bool)) :=
 if 0 < l0.length ∧ l0.length ≤ 1000000 ∧ l1.length ≤ 1000000 then qtb.go l0 l1 [List.replicate l0.length false] [List.replicate l0.length false] else none
def FRow (w W : World) (g c : Nat) (l : List Bool) : Prop := Kd.R Kd.bool 4 W w.heap.size (fun _ => True) (.slice (some ⟨g, 0, none⟩) l.length c) l
theorem FRow.frame {w W W1 : World} {g c : Nat} {l : List Bool} (h : FRow w W g c l) (e : W1.heap[g]? = W.heap[g]?) : FRow w W1 g c l :=
 Kd.R_mono (Kd.R_step (Kd.R_tight rfl h) (fun k hk _ => by cases hk; exact e)) (fun _ _ => trivial)
theorem FRow.lt {w W : World} {g c : Nat} {l : List Bool} (h : FRow w W g c l) : g < W.heap.size ∧ w.heap.size ≤ g := ⟨Kd.R_lt h g rfl, Kd.R_base h g rfl⟩
theorem FRow.cell {w W : World} {g c : Nat} {l : List Bool} (h : FRow w W g c l) (i : Nat) (hi : i < l.length) : W.cell? ⟨g, i, none⟩ = some (.bool (l.getD i false)) ∧ W.frozen? ⟨g, i, none⟩ = false := by
 have := Kd.R_cell false h (i : Int) (by omega) (by omega)
 rw [Int.toNat_natCast] at this
 unfold rdOf at this
 rw [Int.toNat_natCast] at this
 exact this
theorem FRow.put {w W : World} {g c : Nat} {l : List Bool} (h : FRow w W g c l) (i : Nat) (x : Bool) : FRow w (W.setCell ⟨g, i, none⟩ (.bool x)) g c (l.set i x) := by
 have := (Kd.R_put h (i : Int) x).1
 rw [Int.toNat_natCast] at this
 unfold FRow
 rw [List.length_set]
 exact this
theorem made_one (z : Value) (n : Nat) (h : z.cells = #[z]) : madeCells z.cells n = Array.replicate n z := by
 rw [h]
 apply Array.ext
 ·simp [size_madeCells]
 ·intro j h1 h2
  simp [madeCells, Nat.mod_one]
theorem make_tables (n : Nat) (hn : n ≤ 1000000) (W : World) : (Instr.makeSlice 65 (.int .i64 ((n : Int) + 1)) (.int .i64 ((n : Int) + 1))).run Tryd.prog W = .ok (.slice (some ⟨W.heap.size, 0, none⟩) (n + 1) (n + 1)) (W.alloc (.cells (Array.replicate (n + 1) (.slice none 0 0)) 67)) := by
 have hi : (Tryd.prog.info? 67).map (fun i => (i.zero, i.size, i.bytes)) = some (some (.slice none 0 0), 1, 24) := by kernel_rfl
 obtain ⟨i0, h0, hz⟩ := Option.map_eq_some_iff.1 hi
 simp only [Prod.mk.injEq] at hz
 have hr := run_make (P := Tryd.prog) W 65 67 i0 (.slice none 0 0) Tryd.underlying65 h0 hz.1 .i64 .i64 ((n : Int) + 1) ((n : Int) + 1) (by omega) (by omega) (by rw [hz.2.2]; omega) (by omega)
 rw [hz.2.1, made_one _ _ rfl] at hr
 have e : ((n : Int) + 1).toNat = n + 1 := by omega
 rw [e, Nat.mul_one] at hr
 exact hr
theorem make_row (m : Nat) (hm : m ≤ 1000000) (W : World) : (Instr.makeSlice 67 (.int .i64 (m : Int)) (.int .i64 (m : Int))).run Tryd.prog W = .ok (.slice (some ⟨W.heap.size, 0, none⟩) m m) (W.alloc (.cells (Array.replicate m (.bool false)) 4)) := by
 have hi : (Tryd.prog.info? 4).map (fun i => (i.zero, i.size, i.bytes)) = some (some (.bool false), 1, 1) := by kernel_rfl
 obtain ⟨i0, h0, hz⟩ := Option.map_eq_some_iff.1 hi
 simp only [Prod.mk.injEq] at hz
 have hr := run_make (P := Tryd.prog) W 67 4 i0 (.bool false) Tryd.underlying67 h0 hz.1 .i64 .i64 (m : Int) (m : Int) (by omega) (by omega) (by rw [hz.2.2]; omega) (by omega)
 rw [hz.2.1, made_one _ _ rfl] at hr
 rw [Int.toNat_natCast, Nat.mul_one] at hr
 exact hr
theorem FRow.made (w W : World) (m : Nat) (hm : m ≤ 1000000) (hs : w.heap.size ≤ W.heap.size) : FRow w (W.alloc (.cells (Array.replicate m (.bool false)) 4)) W.heap.size m (List.replicate m false) := by
 refine Kd.R_of_own ⟨by simp [encs], .inr ⟨W.heap.size, m, Array.replicate m (.bool false), by simp, hs, blk_new _ _, by simp, ?_, by simp, ?_⟩⟩ (fun _ _ => trivial)
 ·unfold maxLen; omega
 ·simp [encs]
structure FI (w : World) (n m q : Nat) (gs hs cs : Nat → Nat) (o a : List (List Bool)) (W : World) : Prop where
 hb : Below w.heap.size w W
 ho : ∃ co : Array Value, W.heap[w.heap.size]? = some (.cells co 67 (0, 0)) ∧ co.size = n + 1 ∧ ∀ j, j < q → co[j]? = some (.slice (some ⟨gs j, 0, none⟩) m m)
 ha : ∃ ca : Array Value, W.heap[w.heap.size + 1]? = some (.cells ca 67 (0, 0)) ∧ ca.size = n + 1 ∧ ∀ j, j < q → ca[j]? = some (.slice (some ⟨hs j, 0, none⟩) m (cs j))
 lo : o.length = q
 la : a.length = q
 ro : ∀ j, j < q → (o.getD j []).length = m ∧ FRow w W (gs j) m (o.getD j [])
 ra : ∀ j, j < q → (a.getD j []).length = m ∧ FRow w W (hs j) (cs j) (a.getD j [])
 gt : ∀ j, j < q → w.heap.size + 2 ≤ gs j ∧ w.heap.size + 2 ≤ hs j
 inc : ∀ i j, i < j → j < q → gs i < gs j
section
variable {w W W1 : World} {n m q : Nat} {gs hs cs : Nat → Nat} {o a : List (List Bool)}
theorem FI.lt (h : FI w n m q gs hs cs o a W) (j : Nat) (hj : j < q) : gs j < W.heap.size ∧ hs j < W.heap.size := ⟨(h.ro j hj).2.lt.1, (h.ra j hj).2.lt.1⟩
theorem FI.frame (h : FI w n m q gs hs cs o a W) (hb1 : Below w.heap.size w W1) (N : Nat) (hN2 : w.heap.size + 2 ≤ N) (hN : ∀ j, j < q → gs j < N ∧ hs j < N) (e : ∀ k, k < N → W1.heap[k]? = W.heap[k]?) : FI w n m q gs hs cs o a W1 := by
 obtain ⟨co, h1, h2, h3⟩ := h.ho
 obtain ⟨ca, k1, k2, k3⟩ := h.ha
 exact ⟨hb1, ⟨co, (e _ (by omega)).trans h1, h2, h3⟩, ⟨ca, (e _ (by omega)).trans k1, k2, k3⟩, h.lo, h.la, fun j hj => ⟨(h.ro j hj).1, (h.ro j hj).2.frame (e _ (hN j hj).1)⟩, fun j hj => ⟨(h.ra j hj).1, (h.ra j hj).2.frame (e _ (hN j hj).2)⟩, h.gt, h.inc⟩
theorem FI.seto (h : FI w n m q gs hs cs o a W) (j : Nat) (hj : q ≤ j) (u : Value) : FI w n m q gs hs cs o a (W.setCell ⟨w.heap.size, j, none⟩ u) := by
 obtain ⟨co, h1, h2, h3⟩ := h.ho
 obtain ⟨ca, k1, k2, k3⟩ := h.ha
 have e : ∀ k, k ≠ w.heap.size → (W.setCell ⟨w.heap.size, j, none⟩ u).heap[k]? = W.heap[k]? := fun k hk => Below.heap_setCell W _ u k hk
 refine ⟨qj h.hb (Nat.le_refl _), ⟨_, blk_set h1 j u, by simpa using h2, fun i hi => ?_⟩, ⟨ca, (e _ (by omega)).trans k1, k2, k3⟩, h.lo, h.la, fun i hi => ⟨(h.ro i hi).1, (h.ro i hi).2.frame (e _ (by have := (h.gt i hi).1; omega))⟩, fun i hi => ⟨(h.ra i hi).1, (h.ra i hi).2.frame (e _ (by have := (h.gt i hi).2; omega))⟩, h.gt, h.inc⟩
 rw [Array.getElem?_setIfInBounds_ne (by omega)]
 exact h3 i hi
theorem FI.seta (h : FI w n m q gs hs cs o a W) (j : Nat) (hj : q ≤ j) (u : Value) : FI w n m q gs hs cs o a (W.setCell ⟨w.heap.size + 1, j, none⟩ u) := by
 obtain ⟨co, h1, h2, h3⟩ := h.ho
 obtain ⟨ca, k1, k2, k3⟩ := h.ha
 have e : ∀ k, k ≠ w.heap.size + 1 → (W.setCell ⟨w.heap.size + 1, j, none⟩ u).heap[k]? = W.heap[k]? := fun k hk => Below.heap_setCell W _ u k hk
 refine ⟨qj h.hb (by omega), ⟨co, (e _ (by omega)).trans h1, h2, h3⟩, ⟨_, blk_set k1 j u, by simpa using k2, fun i hi => ?_⟩, h.lo, h.la, fun i hi => ⟨(h.ro i hi).1, (h.ro i hi).2.frame (e _ (by have := (h.gt i hi).1; omega))⟩, fun i hi => ⟨(h.ra i hi).1, (h.ra i hi).2.frame (e _ (by have := (h.gt i hi).2; omega))⟩, h.gt, h.inc⟩
 rw [Array.getElem?_setIfInBounds_ne (by omega)]
 exact k3 i hi
theorem FI.last (h : FI w n m (n + 1) gs hs cs o a W) (hn : n ≤ 1000000) : Kd.S (Kd.slice 4 Kd.bool) 67 W w.heap.size (fun _ => True) (.slice (some ⟨w.heap.size, 0, none⟩) (n + 1) (n + 1)) o := by
 classical
 obtain ⟨co, h1, h2, h3⟩ := h.ho
 have inj : ∀ i j, i < n + 1 → j < n + 1 → gs i = gs j → i = j := fun i j hi hj e => by
  rcases Nat.lt_trichotomy i j with hl | hl | hl
  ·have := h.inc i j hl hj; omega
  ·exact hl
  ·have := h.inc j i hl hi; omega
 refine ⟨fun k => if hx : ∃ j, j < n + 1 ∧ gs j = k then Classical.choose hx else 0, fun _ _ => trivial, co.toList, ?_, ?_⟩
 ·rw [List.length_zipIdx, h.lo]
  refine ⟨by simp [h2, Kd.tag, Kd.slice], .inr ⟨w.heap.size, n + 1, co, rfl, Nat.le_refl _, h1, Nat.le_refl _, by unfold maxLen; omega, by simp [h2, Kd.tag, Kd.slice], ?_⟩⟩
  show co.toList.take ((n + 1) * 1) = co.toList
  exact List.take_of_length_le (by simp [h2])
 ·refine ⟨by simp [h2, Kd.tag, Kd.slice, h.lo], fun j p hj => ?_⟩
  have hjl : j < n + 1 := by
   have := (List.getElem?_eq_some_iff.1 hj).1
   rw [List.length_zipIdx, h.lo] at this
   exact this
  rw [List.getElem?_zipIdx] at hj
  obtain ⟨x, hx, hp⟩ := Option.map_eq_some_iff.1 hj
  subst hp
  have hxe : o.getD j [] = x := by rw [List.getD_eq_getElem?_getD, hx]; rfl
  obtain ⟨hlen, hrow⟩ := h.ro j hjl
  rw [hxe] at hlen hrow
  refine ⟨.slice (some ⟨gs j, 0, none⟩) m m, ?_, ?_⟩
  ·show (co.toList.drop (j * 1)).take 1 = _
   have e := h3 j hjl
   rw [← Array.getElem?_toList] at e
   rw [Nat.mul_one]
   obtain ⟨hjt, hje⟩ := List.getElem?_eq_some_iff.1 e
   rw [List.drop_eq_getElem_cons hjt, hje]
   rfl
  ·rw [← hlen]
   unfold FRow at hrow
   rw [← hlen] at hrow
   refine Kd.R_reok rfl hrow (fun k hk => ?_)
   have hke : gs j = k := by simpa [Value.ownBlock] using hk
   subst hke
   have hex : ∃ i, i < n + 1 ∧ gs i = gs j := ⟨j, hjl, rfl⟩
   refine ⟨⟨trivial, ?_⟩, ?_⟩
   ·have := (h.gt j hjl).1
    simp [Value.ownBlock]
    omega
   ·show (if hx : ∃ i, i < n + 1 ∧ gs i = gs j then Classical.choose hx else 0) = 0 + j
    rw [dif_pos hex]
    have hc := Classical.choose_spec hex
    have := inj _ _ hc.1 hjl hc.2
    simpa using this
theorem FI.first (w : World) (n m : Nat) (hm : m ≤ 1000000) : FI w n m 1 (fun _ => w.heap.size + 1 + 1) (fun _ => w.heap.size + 1 + 1) (fun _ => m) [List.replicate m false] [List.replicate m false]
  (((w.alloc (.cells ((Array.replicate (n + 1) (.slice none 0 0)).setIfInBounds 0 (.slice (some ⟨w.heap.size + 1 + 1, 0, none⟩) m m)) 67)).alloc (.cells ((Array.replicate (n + 1) (.slice none 0 0)).setIfInBounds 0 (.slice (some ⟨w.heap.size + 1 + 1, 0, none⟩) m m)) 67)).alloc (.cells (Array.replicate m (.bool false)) 4)) := by
 have one : ∀ (P : Nat → Prop), P 0 → ∀ j, j < 1 → P j := fun P h j hj => by
  obtain rfl : j = 0 := by omega
  exact h
 have ht : ((Array.replicate (n + 1) (Value.slice none 0 0)).setIfInBounds 0 (.slice (some ⟨w.heap.size + 1 + 1, 0, none⟩) m m))[0]? = some (.slice (some ⟨w.heap.size + 1 + 1, 0, none⟩) m m) := by simp
 have e1 := blk_new w (.cells ((Array.replicate (n + 1) (.slice none 0 0)).setIfInBounds 0 (.slice (some ⟨w.heap.size + 1 + 1, 0, none⟩) m m)) 67)
 have e2 := blk_new (w.alloc (.cells ((Array.replicate (n + 1) (.slice none 0 0)).setIfInBounds 0 (.slice (some ⟨w.heap.size + 1 + 1, 0, none⟩) m m)) 67)) (.cells ((Array.replicate (n + 1) (.slice none 0 0)).setIfInBounds 0 (.slice (some ⟨w.heap.size + 1 + 1, 0, none⟩) m m)) 67)
 have hr := FRow.made w ((w.alloc (.cells ((Array.replicate (n + 1) (.slice none 0 0)).setIfInBounds 0 (.slice (some ⟨w.heap.size + 1 + 1, 0, none⟩) m m)) 67)).alloc (.cells ((Array.replicate (n + 1) (.slice none 0 0)).setIfInBounds 0 (.slice (some ⟨w.heap.size + 1 + 1, 0, none⟩) m m)) 67)) m hm (by simp; omega)
 have z1 : ∀ (W : World) (ob : Obj), (W.alloc ob).heap.size = W.heap.size + 1 := fun W ob => by simp
 rw [z1] at e2
 rw [z1, z1] at hr
 exact ⟨qc (qc (qc (Below.refl _ _) _) _) _, ⟨_, qh (qh e1 _) _, by simp, one _ ht⟩, ⟨_, qh e2 _, by simp, one _ ht⟩, rfl, rfl, one _ ⟨by simp, hr⟩, one _ ⟨by simp, hr⟩, one _ ⟨by omega, by omega⟩, fun i j h1 h2 => by omega⟩
theorem FI.push (h : FI w n m q gs hs cs o a W) {g hh c : Nat} {ro ra : List Bool} (hg : ∀ j, j < q → gs j < g) (hg2 : w.heap.size + 2 ≤ g) (hh2 : w.heap.size + 2 ≤ hh)
  (co : W.cell? ⟨w.heap.size, q, none⟩ = some (.slice (some ⟨g, 0, none⟩) m m)) (ca : W.cell? ⟨w.heap.size + 1, q, none⟩ = some (.slice (some ⟨hh, 0, none⟩) m c)) (l1 : ro.length = m) (l2 : ra.length = m) (r1 : FRow w W g m ro) (r2 : FRow w W hh c ra) :
  FI w n m (q + 1) (fun j => if j = q then g else gs j) (fun j => if j = q then hh else hs j) (fun j => if j = q then c else cs j) (o ++ [ro]) (a ++ [ra]) W := by
 obtain ⟨cO, h1, h2, h3⟩ := h.ho
 obtain ⟨cA, k1, k2, k3⟩ := h.ha
 rw [qg h1] at co
 rw [qg k1] at ca
 have split : ∀ (P : Nat → Prop), (∀ j, j < q → P j) → P q → ∀ j, j < q + 1 → P j := fun P h1 h2 j hj => by
  rcases Nat.lt_or_ge j q with hq | hq
  ·exact h1 j hq
  ·obtain rfl : j = q := by omega
   exact h2
 have go : ∀ j, j < q → (o ++ [ro]).getD j [] = o.getD j [] := fun j hj => by simp [List.getD_eq_getElem?_getD, List.getElem?_append_left (show j < o.length by rw [h.lo]; exact hj)]
 have ga : ∀ j, j < q → (a ++ [ra]).getD j [] = a.getD j [] := fun j hj => by simp [List.getD_eq_getElem?_getD, List.getElem?_append_left (show j < a.length by rw [h.la]; exact hj)]
 have goq : (o ++ [ro]).getD q [] = ro := by simp [List.getD_eq_getElem?_getD, ← h.lo]
 have gaq : (a ++ [ra]).getD q [] = ra := by simp [List.getD_eq_getElem?_getD, ← h.la]
 refine ⟨h.hb, ⟨cO, h1, h2, split _ (fun j hj => ?_) ?_⟩, ⟨cA, k1, k2, split _ (fun j hj => ?_) ?_⟩, by simp [h.lo], by simp [h.la], split _ (fun j hj => ?_) ?_, split _ (fun j hj => ?_) ?_, split _ (fun j hj => ?_) ?_, ?_⟩
 ·rw [if_neg (by omega)]; exact h3 j hj
 ·rw [if_pos rfl]; exact co
 ·rw [if_neg (by omega), if_neg (by omega)]; exact k3 j hj
 ·rw [if_pos rfl, if_pos rfl]; exact ca
 ·rw [if_neg (by omega), go j hj]; exact h.ro j hj
 ·rw [if_pos rfl, goq]; exact ⟨l1, r1⟩
 ·rw [if_neg (by omega), if_neg (by omega), ga j hj]; exact h.ra j hj
 ·rw [if_pos rfl, if_pos rfl, gaq]; exact ⟨l2, r2⟩
 ·rw [if_neg (by omega), if_neg (by omega)]; exact h.gt j hj
 ·rw [if_pos rfl, if_pos rfl]; exact ⟨hg2, hh2⟩
 ·intro i j hij hj
  rw [if_neg (show i ≠ q by omega)]
  by_cases hjq : j = q
  ·rw [if_pos hjq]; exact hg i (by omega)
  ·rw [if_neg hjq]; exact h.inc i j hij (by omega)
theorem FI.two (h : FI w n m q gs hs cs o a W) : w.heap.size + 2 ≤ W.heap.size := by
 obtain ⟨ca, k1, _⟩ := h.ha
 have := blk_lt k1
 omega
theorem FI.below (h : FI w n m q gs hs cs o a W) (hb : Below W.heap.size W W1) : FI w n m q gs hs cs o a W1 :=
 h.frame (h.hb.trans (hb.mono h.hb.size)) W.heap.size h.two (fun j hj => h.lt j hj) (fun k hk => hb.block k hk)
theorem FI.ocell (h : FI w n m q gs hs cs o a W) (j : Nat) (hj : j < n + 1) : (∃ u, W.cell? ⟨w.heap.size, j, none⟩ = some u) ∧ W.frozen? ⟨w.heap.size, j, none⟩ = false := by
 obtain ⟨co, h1, h2, _⟩ := h.ho
 exact ⟨⟨co[j], by rw [qg h1, Array.getElem?_eq_getElem]⟩, qf h1 j⟩
theorem FI.acell (h : FI w n m q gs hs cs o a W) (j : Nat) (hj : j < n + 1) : (∃ u, W.cell? ⟨w.heap.size + 1, j, none⟩ = some u) ∧ W.frozen? ⟨w.heap.size + 1, j, none⟩ = false := by
 obtain ⟨co, h1, h2, _⟩ := h.ha
 exact ⟨⟨co[j], by rw [qg h1, Array.getElem?_eq_getElem]⟩, qf h1 j⟩
theorem FI.oat (h : FI w n m q gs hs cs o a W) (j : Nat) (hj : j < q) : W.cell? ⟨w.heap.size, j, none⟩ = some (.slice (some ⟨gs j, 0, none⟩) m m) := by
 obtain ⟨co, h1, _, h3⟩ := h.ho
 exact (qg h1 j).trans (h3 j hj)
theorem FI.aat (h : FI w n m q gs hs cs o a W) (j : Nat) (hj : j < q) : W.cell? ⟨w.heap.size + 1, j, none⟩ = some (.slice (some ⟨hs j, 0, none⟩) m (cs j)) := by
 obtain ⟨co, h1, _, h3⟩ := h.ha
 exact (qg h1 j).trans (h3 j hj)
end
structure FJ (w : World) (n m i : Nat) (gs hs cs : Nat → Nat) (o a : List (List Bool)) (bx g hh c : Nat) (x : S46) (A5 : Option Addr) (c5 : Nat) (ro ra : List Bool) (W : World) : Prop where
 fi : FI w n m (i + 1) gs hs cs o a W
 hx : W.heap[bx]? = some (.cells #[.int .i64 x.f0, .int .i64 x.f1, .string x.f2, .string x.f3, .string x.f4, .slice A5 x.f5.length c5] 46 (0, 0))
 co : W.cell? ⟨w.heap.size, i + 1, none⟩ = some (.slice (some ⟨g, 0, none⟩) m m)
 ca : W.cell? ⟨w.heap.size + 1, i + 1, none⟩ = some (.slice (some ⟨hh, 0, none⟩) m c)
 r1 : FRow w W g m ro
 r2 : FRow w W hh c ra
 l1 : ro.length = m
 l2 : ra.length = m
 hg : ∀ j, j < i + 1 → gs j < g ∧ hs j < g
 g2 : w.heap.size + 2 ≤ g
 gb : bx < g
 gh : g < hh
section
variable {w W W1 : World} {n m i : Nat} {gs hs cs : Nat → Nat} {o a : List (List Bool)} {bx g hh c : Nat} {x : S46} {A5 : Option Addr} {c5 : Nat} {ro ra : List Bool}
theorem FJ.below (h : FJ w n m i gs hs cs o a bx g hh c x A5 c5 ro ra W) (hb : Below W.heap.size W W1) : FJ w n m i gs hs cs o a bx g hh c x A5 c5 ro ra W1 :=
 ⟨h.fi.below hb, qjb h.hx hb, (hb.cell (qic W _ h.co)).trans h.co, (hb.cell (qic W _ h.ca)).trans h.ca, h.r1.frame (hb.block _ h.r1.lt.1), h.r2.frame (hb.block _ h.r2.lt.1), h.l1, h.l2, h.hg, h.g2, h.gb, h.gh⟩
theorem FJ.put1 (h : FJ w n m i gs hs cs o a bx g hh c x A5 c5 ro ra W) (k : Nat) (b : Bool) : FJ w n m i gs hs cs o a bx g hh c x A5 c5 (ro.set k b) ra (W.setCell ⟨g, k, none⟩ (.bool b)) := by
 have e : ∀ q, q ≠ g → (W.setCell ⟨g, k, none⟩ (.bool b)).heap[q]? = W.heap[q]? := fun q hq => Below.heap_setCell W _ _ q hq
 have hb1 : Below w.heap.size w (W.setCell ⟨g, k, none⟩ (.bool b)) := qj h.fi.hb (by have := h.g2; omega)
 have ec : ∀ q j, q ≠ g → (W.setCell ⟨g, k, none⟩ (.bool b)).cell? ⟨q, j, none⟩ = W.cell? ⟨q, j, none⟩ := fun q j hq => World.cell?_setCell_other W _ _ _ (fun ee => hq (by cases ee; rfl))
 exact ⟨h.fi.frame hb1 g h.g2 h.hg (fun q hq => e q (by omega)), (e _ (by have := h.gb; omega)).trans h.hx, (ec _ _ (by have := h.g2; omega)).trans h.co, (ec _ _ (by have := h.g2; omega)).trans h.ca, h.r1.put k b, h.r2.frame (e _ (by have := h.gh; omega)), by rw [List.length_set]; exact h.l1, h.l2, h.hg, h.g2, h.gb, h.gh⟩
theorem FJ.put2 (h : FJ w n m i gs hs cs o a bx g hh c x A5 c5 ro ra W) (k : Nat) (b : Bool) : FJ w n m i gs hs cs o a bx g hh c x A5 c5 ro (ra.set k b) (W.setCell ⟨hh, k, none⟩ (.bool b)) := by
 have e : ∀ q, q ≠ hh → (W.setCell ⟨hh, k, none⟩ (.bool b)).heap[q]? = W.heap[q]? := fun q hq => Below.heap_setCell W _ _ q hq
 have hb1 : Below w.heap.size w (W.setCell ⟨hh, k, none⟩ (.bool b)) := qj h.fi.hb (by have := h.g2; have := h.gh; omega)
 have ec : ∀ q j, q ≠ hh → (W.setCell ⟨hh, k, none⟩ (.bool b)).cell? ⟨q, j, none⟩ = W.cell? ⟨q, j, none⟩ := fun q j hq => World.cell?_setCell_other W _ _ _ (fun ee => hq (by cases ee; rfl))
 exact ⟨h.fi.frame hb1 g h.g2 h.hg (fun q hq => e q (by have := h.gh; omega)), (e _ (by have := h.gb; have := h.gh; omega)).trans h.hx, (ec _ _ (by have := h.g2; have := h.gh; omega)).trans h.co, (ec _ _ (by have := h.g2; have := h.gh; omega)).trans h.ca, h.r1.frame (e _ (by have := h.gh; omega)), h.r2.put k b, h.l1, by rw [List.length_set]; exact h.l2, h.hg, h.g2, h.gb, h.gh⟩
theorem FJ.done (h : FJ w n m i gs hs cs o a bx g hh c x A5 c5 ro ra W) : FI w n m (i + 1 + 1) (fun j => if j = i + 1 then g else gs j) (fun j => if j = i + 1 then hh else hs j) (fun j => if j = i + 1 then c else cs j) (o ++ [ro]) (a ++ [ra]) W :=
 h.fi.push (fun j hj => (h.hg j hj).1) h.g2 (by have := h.g2; have := h.gh; omega) h.co h.ca h.l1 h.l2 h.r1 h.r2
end
theorem qtb.row_len (x : S46) (o a : List Bool) : ∀ (l : List S41) (k : Nat) (t : List Bool), qtb.row x o a l k = some t → t.length = l.length
 | [], k, t, h => by cases h; rfl
 | p :: r, k, t, h => by
  unfold qtb.row at h
  obtain ⟨_, _, h⟩ := Option.bind_eq_some_iff.1 h
  obtain ⟨tl, h2, h⟩ := Option.bind_eq_some_iff.1 h
  obtain rfl := Option.some.inj h
  simp [qtb.row_len x o a r (k + 1) tl h2]
def part_row (t : List Bool) (m k : Nat) : List Bool := t.take k ++ List.replicate (m - k) false
theorem part_row_len (t : List Bool) (m k : Nat) (h : t.length = m) (hk : k ≤ m) : (part_row t m k).length = m := by
 unfold part_row
 rw [List.length_append, List.length_take, List.length_replicate]
 omega
theorem part_row_step (t : List Bool) (m k : Nat) (h : t.length = m) (hk : k < m) : (part_row t m k).set k (t.getD k false) = part_row t m (k + 1) := by
 unfold part_row
 have e : m - k = (m - (k + 1)) + 1 := by omega
 have hl : (t.take k).length = k := by rw [List.length_take]; omega
 rw [e, List.replicate_succ, List.set_append_right _ _ (by omega), hl, Nat.sub_self, List.set_cons_zero, List.take_succ_eq_append_getElem (by omega), List.append_assoc]
 congr 1
 rw [List.getD_eq_getElem?_getD, List.getElem?_eq_getElem (by omega)]
 rfl
theorem part_row_at (t : List Bool) (m k : Nat) (h : t.length = m) (hk : k < m) : (part_row t m k).getD k false = false := by
 unfold part_row
 have hl : (t.take k).length = k := by rw [List.length_take]; omega
 rw [List.getD_eq_getElem?_getD, List.getElem?_append_right (by omega), hl, Nat.sub_self, List.getElem?_replicate, if_pos (by omega)]
 rfl
theorem part_row_last (t : List Bool) (m : Nat) (h : t.length = m) : part_row t m m = t := by
 unfold part_row
 rw [Nat.sub_self, List.replicate_zero, List.append_nil, List.take_of_length_le (by omega)]
theorem zip_false : ∀ (A : List Bool), List.zipWith (· || ·) A (List.replicate A.length false) = A
 | [] => rfl
 | b :: A => by simp only [List.length_cons, List.replicate_succ, List.zipWith_cons_cons, Bool.or_false, zip_false A]
theorem zip_set : ∀ (A R : List Bool) (k : Nat) (b : Bool), A.length = R.length → (List.zipWith (· || ·) A R).set k (A.getD k false || b) = List.zipWith (· || ·) A (R.set k b)
 | [], R, k, b, h => by simp
 | x :: A, [], k, b, h => by simp at h
 | x :: A, y :: R, 0, b, h => rfl
 | x :: A, y :: R, k + 1, b, h => by
  simp only [List.zipWith_cons_cons, List.set_cons_succ, List.getD_cons_succ]
  rw [zip_set A R k b (by simpa using h)]
theorem zip_at (A R : List Bool) (k : Nat) (h : A.length = R.length) (hr : R.getD k false = false) : (List.zipWith (· || ·) A R).getD k false = A.getD k false := by
 induction A generalizing R k with
 | nil => simp
 | cons x A ih =>
  cases R with
  | nil => simp at h
  | cons y R =>
   cases k with
   | zero =>
    have : y = false := hr
    subst this
    simp
   | succ k => exact ih R k (by simpa using h) (by simpa using hr)
set_option maxHeartbeats 8000000 in
set_option maxRecDepth 100000 in
theorem qtb.calls (A0 : Option Addr) (c0 : Nat) (l0 : List S41) (A1 : Option Addr) (c1 : Nat) (l1 : List S46) (r : List (List Bool)) (w : World) (hr0 : Kd.C k41 w A0 l0.length l0) (hc0 : l0.length ≤ c0) (hr1 : Kd.C k46 w A1 l1.length l1) (hc1 : l1.length ≤ c1) (h : qtb.f l0 l1 = some r) :
  Calls Tryd.prog 23 #[.slice A0 l0.length c0, .slice A1 l1.length c1] w fun e w' => ∃ v0_ : Value, e = .returned v0_ ∧ Kd.S (Kd.slice 4 Kd.bool) 67 w' w.heap.size (fun _ => True) v0_ r ∧ Below w.heap.size w w' := by
 unfold qtb.f at h
 by_cases hl : 0 < l0.length ∧ l0.length ≤ 1000000 ∧ l1.length ≤ 1000000
 rotate_left
 ·rw [if_neg hl] at h
  cases h
 rw [if_pos hl] at h
 obtain ⟨hm0, hm, hn⟩ := hl
 have HH := qa.mk h
 have HR0 := qa.mk hr0
 have HR1 := qa.mk hr1
 have HB := qa.mk (Below.refl w.heap.size w)
 have hu1 := Tryd.underlying41
 have hu2 := Tryd.underlying46
 clear h hr0 hr1 hc0 hc1
 have hwr : IntKind.i64.wrap ((l1.length : Int) + 1) = (l1.length : Int) + 1 := by rw [IntKind.wrap_i64]; omega
 have hmt := make_tables l1.length hn
 have hmr := make_row l0.length hm
 go_enter Tryd.func23, Tryd.ntmps23
 go_upto_region 5 with fail
 have HFI := qa.mk (FI.first w l1.length l0.length hm)
 generalize (((w.alloc (.cells ((Array.replicate (l1.length + 1) (.slice none 0 0)).setIfInBounds 0 (.slice (some ⟨w.heap.size + 1 + 1, 0, none⟩) l0.length l0.length)) 67)).alloc (.cells ((Array.replicate (l1.length + 1) (.slice none 0 0)).setIfInBounds 0 (.slice (some ⟨w.heap.size + 1 + 1, 0, none⟩) l0.length l0.length)) 67)).alloc (.cells (Array.replicate l0.length (.bool false)) 4)) = W0 at *
 go_wp2_with fail
 go_loopg [33] (l1.length + 1) (fun kq v33 w' => ∃ (i : Nat) (gs hs cs : Nat → Nat) (o a : List (List Bool)), v33 = .int .i64 (i : Int) ∧ qa (i ≤ l1.length ∧ kq = l1.length + 1 - i) ∧ qa (qtb.go l0 (l1.drop i) o a = some r) ∧ qa (FI w l1.length l0.length (i + 1) gs hs cs o a w'))
 case atStart => exact ⟨0, _, _, _, _, _, rfl, ⟨Nat.zero_le _, rfl⟩, HH, HFI⟩
 case round =>
  clear HFI HH HB
  obtain ⟨i, gs, hs, cs, o, a, rfl, HJ, HGO, HFI⟩ := hrel
  obtain ⟨hi, hk⟩ := HJ.out
  clear HJ
  subst hk
  by_cases hlt : i < l1.length
  ·obtain ⟨ad, A5, c5, e, hx0, hx1, hx2, hx3, hx4, hx5, hl5, hr5⟩ := at_T46 HR1.out (i : Int) (by omega) (by omega)
   cases e
   replace hx0 := (HFI.out.hb.cell (qic w _ hx0)).trans hx0
   replace hx1 := (HFI.out.hb.cell (qic w _ hx1)).trans hx1
   replace hx2 := (HFI.out.hb.cell (qic w _ hx2)).trans hx2
   replace hx3 := (HFI.out.hb.cell (qic w _ hx3)).trans hx3
   replace hx4 := (HFI.out.hb.cell (qic w _ hx4)).trans hx4
   replace hx5 := (HFI.out.hb.cell (qic w _ hx5)).trans hx5
   rw [Int.toNat_natCast] at hx0 hx1 hx2 hx3 hx4 hx5
   have hgo := HGO.out
   have hdr : l1.drop i = qe l1 (i : Int) :: l1.drop (i + 1) := by
    rw [List.drop_eq_getElem_cons hlt]
    unfold qe
    rw [Int.toNat_natCast, List.getD_eq_getElem?_getD, List.getElem?_eq_getElem hlt]
    rfl
   rw [hdr] at hgo
   have HR5 := qa.mk (And.intro hr5 hl5)
   clear hdr HGO hr5 hl5
   generalize qe l1 (i : Int) = x at *
   obtain ⟨x0, x1, x2, x3, x4, x5⟩ := x
   dsimp only at *
   unfold qtb.go at hgo
   dsimp only at hgo
   by_cases hup : 0 ≤ x1 ∧ x1 < (o.length : Int)
   rotate_left
   ·rw [if_neg hup] at hgo
    cases hgo
   rw [if_pos hup] at hgo
   obtain ⟨t, ht, hgo⟩ := Option.bind_eq_some_iff.1 hgo
   rw [HFI.out.lo] at hup
   obtain ⟨u, rfl⟩ := Int.eq_ofNat_of_zero_le hup.1
   have hu : u < i + 1 := by omega
   rw [Int.toNat_natCast] at ht hgo
   have HT := qa.mk ht
   have HGO := qa.mk hgo
   clear ht hgo hup
   have HF2 := qa.mk ((HFI.out.below (qc (Below.refl _ _) (.cells #[.int .i64 x0, .int .i64 (u : Int), .string x2, .string x3, .string x4, .slice A5 x5.length c5] 46))).below (qc (Below.refl _ _) (.cells (Array.replicate l0.length (.bool false)) 4)))
   have hi1 : IntKind.i64.wrap ((i : Int) + 1) = (i : Int) + 1 := by rw [IntKind.wrap_i64]; omega
   obtain ⟨⟨u1, hc1⟩, hf1⟩ := HF2.out.ocell (i + 1) (by omega)
   have hb1 : (i : Int) + 1 < (l1.length : Int) + 1 := by omega
   have hb2 : (i : Int) + 1 < ((l1.length + 1 : Nat) : Int) := by omega
   have hb0 : 0 ≤ (i : Int) + 1 := by omega
   go_upto_region 9 with fail
   have HBX := qa.mk (qkb (qh (blk_new wr (.cells #[.int .i64 x0, .int .i64 (u : Int), .string x2, .string x3, .string x4, .slice A5 x5.length c5] 46)) (.cells (Array.replicate l0.length (.bool false)) 4)) (p := ⟨w.heap.size, i + 1, none⟩) (by have := HFI.out.two; dsimp only; omega) (.slice (some ⟨wr.heap.size + 1, 0, none⟩) l0.length l0.length))
   have z1 : ∀ (W : World) (ob : Obj), (W.alloc ob).heap.size = W.heap.size + 1 := fun W ob => by simp
   have hfr := FRow.made w (wr.alloc (.cells #[.int .i64 x0, .int .i64 (u : Int), .string x2, .string x3, .string x4, .slice A5 x5.length c5] 46)) l0.length hm (by rw [z1]; have := HFI.out.two; omega)
   rw [z1] at hfr
   have HFR := qa.mk (hfr.frame (Below.heap_setCell _ ⟨w.heap.size, i + 1, none⟩ (.slice (some ⟨wr.heap.size + 1, 0, none⟩) l0.length l0.length) (wr.heap.size + 1) (by have := HFI.out.two; dsimp only; omega)))
   have HF3 := qa.mk (HF2.out.seto (i + 1) (Nat.le_refl _) (.slice (some ⟨wr.heap.size + 1, 0, none⟩) l0.length l0.length))
   have HCO := qa.mk (World.cell?_setCell_same' _ _ (.slice (some ⟨wr.heap.size + 1, 0, none⟩) l0.length l0.length) (by rw [hc1]; rfl))
   have HLT := qa.mk (fun j (hj : j < i + 1) => HFI.out.lt j hj)
   have HTW := qa.mk HFI.out.two
   clear hc1 hf1 HF2 hfr hx0 hx1 hx2 hx3 hx4 hx5 hgo z1 HFI
   generalize (((wr.alloc (.cells #[.int .i64 x0, .int .i64 (u : Int), .string x2, .string x3, .string x4, .slice A5 x5.length c5] 46)).alloc (.cells (Array.replicate l0.length (.bool false)) 4)).setCell ⟨w.heap.size, i + 1, none⟩ (.slice (some ⟨wr.heap.size + 1, 0, none⟩) l0.length l0.length)) = W2 at *
   obtain ⟨hla, hra⟩ := HF3.out.ra u hu
   have hcl : Calls Tryd.prog 36 #[.slice (some ⟨hs u, 0, none⟩) l0.length (cs u)] W2 fun e w' => ∃ v0_ : Value, e = .returned (v0_) ∧ Kd.R Kd.bool 4 w' W2.heap.size (fun _ => True) v0_ (a.getD u []) ∧ Below W2.heap.size W2 w' := by
    obtain ⟨_, hcc, hrd⟩ := Kd.R_reads' hra
    have := slices_Clone_bool_bool.calls _ _ _ _ W2 hrd hcc (if_pos (by rw [hla]; omega))
    rw [hla] at this
    exact this
   have HCL := qa.mk hcl
   have HLA := qa.mk hla
   clear hcl hla hra
   have hx1 : _ = some (Value.int .i64 (u : Int)) := qg HBX.out 1
   have hau := HF3.out.aat u hu
   have hu0 : (u : Int) < (l1.length : Int) + 1 := by omega
   have hu1' : (u : Int) < ((l1.length + 1 : Nat) : Int) := by omega
   go_upto_region 10 with (go_at_call 36; refine HCL.out.mono ?_; rintro e w4 ⟨v0, rfl, hr4, hb4⟩; obtain ⟨hh, ch, e4, hh1, hh2, _⟩ := Kd.R_form hr4 (by rw [HLA.out]; exact hm0); subst e4; rw [HLA.out]; have HF4 := qa.mk (HF3.out.below hb4); have HR4 := qa.mk hr4; have HB4 := qa.mk hb4; obtain ⟨⟨u4, hc4⟩, hf4⟩ := HF4.out.acell (i + 1) (by omega); clear hr4 hb4)
   have hgl := HFR.out.lt.1
   have HJ0 := qa.mk (show FJ w l1.length l0.length i gs hs cs o a wr.heap.size (wr.heap.size + 1) hh ch ⟨x0, (u : Int), x2, x3, x4, x5⟩ A5 c5 (List.replicate l0.length false) (a.getD u []) (w4.setCell ⟨w.heap.size + 1, i + 1, none⟩ (.slice (some ⟨hh, 0, none⟩) l0.length ch)) from
    {
     fi := HF4.out.seta (i + 1) (Nat.le_refl _) _,
     hx := qkb (qjb HBX.out HB4.out) (by have := HTW.out; dsimp only; omega) _,
     co := (World.cell?_setCell_other _ _ _ _ (fun ee => by injection ee with e1; omega)).trans ((HB4.out.cell (qic W2 _ HCO.out)).trans HCO.out),
     ca := World.cell?_setCell_same' _ _ _ (by rw [hc4]; rfl),
     r1 := (HFR.out.frame (HB4.out.block _ hgl)).frame (Below.heap_setCell _ _ _ _ (by have := HTW.out; dsimp only; omega)),
     r2 := FRow.frame (W := w4) (Kd.R_lower HR4.out HF3.out.hb.size) (Below.heap_setCell _ _ _ _ (by have := HTW.out; dsimp only; omega)),
     l1 := List.length_replicate,
     l2 := HLA.out,
     hg := fun j hj => by have := HLT.out j hj; omega,
     g2 := by have := HTW.out; omega,
     gb := Nat.lt_succ_self _,
     gh := by omega })
   clear hc4 hf4 HB4 HR4 HF4 HCL HCO HF3 HFR HBX hx1 hau hgl
   generalize w4.setCell ⟨w.heap.size + 1, i + 1, none⟩ (.slice (some ⟨hh, 0, none⟩) l0.length ch) = w5 at *
   generalize wr.heap.size = bx at *
   go_wp2_with fail
   have HTL := qa.mk (qtb.row_len _ _ _ _ _ _ HT.out)
   go_loopg [57] (l0.length + 1) (fun kq v57 w' => ∃ (k : Nat), v57 = .int .i64 (k : Int) ∧ qa (k ≤ l0.length ∧ kq = l0.length + 1 - k) ∧ qa (qtb.row ⟨x0, (u : Int), x2, x3, x4, x5⟩ (o.getD u []) (a.getD u []) (l0.drop k) k = some (t.drop k)) ∧ qa (FJ w l1.length l0.length i gs hs cs o a bx (bx + 1) hh ch ⟨x0, (u : Int), x2, x3, x4, x5⟩ A5 c5 (part_row t l0.length k) (List.zipWith (· || ·) (a.getD u []) (part_row t l0.length k)) w'))
   case atStart =>
    refine ⟨0, rfl, ⟨Nat.zero_le _, rfl⟩, HT, ⟨?_⟩⟩
    have e0 : part_row t l0.length 0 = List.replicate l0.length false := by simp [part_row]
    have e1 := zip_false (a.getD u [])
    rw [HLA.out] at e1
    rw [e0, e1]
    exact HJ0.out
   case round =>
    clear HJ0 HT
    obtain ⟨k, rfl, HK, HRW, HJ⟩ := hrel
    obtain ⟨hk1, hk2⟩ := HK.out
    clear HK
    subst hk2
    by_cases hk : k < l0.length
    ·obtain ⟨pd, A4, c4, e, hy0, hy1, hy2, hy3, hy4, hl4, hr4⟩ := at_T41 HR0.out (k : Int) (by omega) (by omega)
     cases e
     replace hy0 := (HJ.out.fi.hb.cell (qic w _ hy0)).trans hy0
     replace hy1 := (HJ.out.fi.hb.cell (qic w _ hy1)).trans hy1
     replace hy2 := (HJ.out.fi.hb.cell (qic w _ hy2)).trans hy2
     replace hy3 := (HJ.out.fi.hb.cell (qic w _ hy3)).trans hy3
     replace hy4 := (HJ.out.fi.hb.cell (qic w _ hy4)).trans hy4
     rw [Int.toNat_natCast] at hy0 hy1 hy2 hy3 hy4
     have hrw := HRW.out
     have hdr : l0.drop k = qab l0 (k : Int) :: l0.drop (k + 1) := by
      rw [List.drop_eq_getElem_cons hk]
      unfold qab
      rw [Int.toNat_natCast, List.getD_eq_getElem?_getD, List.getElem?_eq_getElem hk]
      rfl
     rw [hdr] at hrw
     have HR4 := qa.mk hr4
     clear hdr HRW hr4 hl4
     generalize qab l0 (k : Int) = p at *
     obtain ⟨p0, p1, p2, p3, p4⟩ := p
     dsimp only at *
     unfold qtb.row at hrw
     obtain ⟨hv, hhas, hrw⟩ := Option.bind_eq_some_iff.1 hrw
     obtain ⟨tl, htl, hrw⟩ := Option.bind_eq_some_iff.1 hrw
     have hcons := Option.some.inj hrw
     dsimp only at hcons
     have htd : t.drop k = t.getD k false :: t.drop (k + 1) := by
      have hkt : k < t.length := by rw [HTL.out]; exact hk
      rw [List.drop_eq_getElem_cons hkt, List.getD_eq_getElem?_getD, List.getElem?_eq_getElem hkt]
      rfl
     rw [htd] at hcons
     injection hcons with hb tle
     subst tle
     have HHAS := qa.mk hhas
     have HTL2 := qa.mk htl
     have HBB := qa.mk hb
     clear hhas htl hrw htd hb
     have HJ1 := qa.mk (HJ.out.below (qc (Below.refl _ _) (.cells #[.bool p0, .bool p1, .string p2, .string p3, .slice A4 p4.length c4] 41)))
     have HPB := qa.mk (blk_new wr (.cells #[.bool p0, .bool p1, .string p2, .string p3, .slice A4 p4.length c4] 41))
     have hz0 : _ = some (Value.int .i64 x0) := qg HJ1.out.hx 0
     have hz1 : _ = some (Value.int .i64 (u : Int)) := qg HJ1.out.hx 1
     have hz2 : _ = some (Value.string x2) := qg HJ1.out.hx 2
     have hz3 : _ = some (Value.string x3) := qg HJ1.out.hx 3
     have hz4 : _ = some (Value.string x4) := qg HJ1.out.hx 4
     have hz5 : _ = some (Value.slice A5 x5.length c5) := qg HJ1.out.hx 5
     go_upto_if 66 with (go_at_call 37; go_loud (refine (qrb.calls ⟨p0, p1, p2, p3, p4⟩ _ _ ⟨x0, (u : Int), x2, x3, x4, x5⟩ _ _ hv _ (Kd.C_below HR4.out HJ1.out.fi.hb) (Kd.C_below HR5.out.1 HJ1.out.fi.hb) HR5.out.2 HHAS.out).mono ?_); rintro e w2 ⟨rfl, hb2⟩; have HJ2 := qa.mk (HJ1.out.below hb2); have HP2 := qa.mk (qjb HPB.out hb2); clear hb2)
     clear hy0 hy1 hy2 hy3 hy4 hz0 hz1 hz2 hz3 hz4 hz5 HJ1 HPB HJ
     have hz1 : _ = some (Value.int .i64 (u : Int)) := qg HJ2.out.hx 1
     have hau := HJ2.out.fi.aat u hu
     have hou := HJ2.out.fi.oat u hu
     have hp0 : _ = some (Value.bool p0) := qg HP2.out 0
     have hul : (u : Int) < (l1.length : Int) + 1 := by omega
     have hul2 : (u : Int) < ((l1.length + 1 : Nat) : Int) := by omega
     go_cut [12] (fun v12 wc => ∃ bb : Bool, v12 = .bool bb ∧ qa (bb = t.getD k false) ∧ qa (FJ w l1.length l0.length i gs hs cs o a bx (bx + 1) hh ch ⟨x0, (u : Int), x2, x3, x4, x5⟩ A5 c5 (part_row t l0.length k) (List.zipWith (· || ·) (a.getD u []) (part_row t l0.length k)) wc))
     case first =>
      cases k with
      | zero =>
       have hb0 : hv = t.getD 0 false := by have := HBB.out; simpa using this
       go_wp2_with fail
       go_meet
       exact ⟨hv, rfl, ⟨hb0⟩, HJ2⟩
      | succ k =>
       have hk0 : decide (0 < ((k + 1 : Nat) : Int)) = true := by simp
       have hkm : IntKind.i64.wrap (((k + 1 : Nat) : Int) - 1) = (k : Int) := by rw [IntKind.wrap_i64]; omega
       have hkl : (k : Int) < (l0.length : Int) := by omega
       obtain ⟨hl1, hrO⟩ := HJ2.out.fi.ro u hu
       obtain ⟨hl2, hrA⟩ := HJ2.out.fi.ra u hu
       have hcO := (hrO.cell k (by omega)).1
       have hcA := (hrA.cell k (by omega)).1
       cases hv <;> cases p0
       all_goals go_wp2_with fail
       all_goals go_meet
       all_goals exact ⟨_, rfl, ⟨by rw [← HBB.out]; simp⟩, HJ2⟩
     case rest =>
      clear HJ2 hz1 hau hou hp0
      obtain ⟨bb, rfl, HBE, HJ3⟩ := hcut
      have hco := HJ3.out.co
      obtain ⟨hg1, hg2⟩ := HJ3.out.r1.cell k (by rw [HJ3.out.l1]; exact hk)
      have hkl : (k : Int) < (l0.length : Int) := by omega
      go_upto_region 20 with fail
      have hr1 := part_row_step t l0.length k HTL.out hk
      have hrl := part_row_len t l0.length k HTL.out hk1
      have hat := zip_at (a.getD u []) (part_row t l0.length k) k (by rw [HLA.out, hrl]) (part_row_at t l0.length k HTL.out hk)
      have hst := zip_set (a.getD u []) (part_row t l0.length k) k (t.getD k false) (by rw [HLA.out, hrl])
      have hj4 := HJ3.out.put1 k bb
      have hj5 := hj4.put2 k ((a.getD u []).getD k false || bb)
      rw [HBE.out, hst, hr1, ← HBE.out] at hj5
      obtain ⟨hh3, hh4⟩ := hj4.r2.cell k (by rw [hj4.l2]; exact hk)
      rw [hat] at hh3
      have hca := hj4.ca
      have HJ5 := qa.mk hj5
      clear hr1 hrl hat hst hj4 hj5 hco hg1 hg2 HJ3
      generalize wc.setCell ⟨bx + 1, k, none⟩ (.bool bb) = w6 at *
      generalize (a.getD u []).getD k false = ak at *
      have hit : ((i : Int) + 1).toNat = i + 1 := by omega
      have hca2 : w6.cell? ⟨w.heap.size + 1, ((i : Int) + 1).toNat, none⟩ = some (.slice (some ⟨hh, 0, none⟩) l0.length ch) := by rw [hit]; exact hca
      have hcd : w6.drew.cell? ⟨w.heap.size + 1, i + 1, none⟩ = some (.slice (some ⟨hh, 0, none⟩) l0.length ch) := hca
      cases ak
      ·simp only [Bool.false_or, Bool.true_or] at HJ5
       go_region
       all_goals go_wp2_with fail
       all_goals go_roundg (l0.length + 1 - (k + 1))
       all_goals first | omega | exact ⟨k + 1, by go_num, ⟨by omega, rfl⟩, HTL2, ⟨HJ5.out.below (below_drew (Below.refl _ _))⟩⟩
      ·simp only [Bool.false_or, Bool.true_or] at HJ5
       go_region
       all_goals go_wp2_with fail
       all_goals go_roundg (l0.length + 1 - (k + 1))
       all_goals first | omega | exact ⟨k + 1, by go_num, ⟨by omega, rfl⟩, HTL2, ⟨HJ5.out.below (below_drew (Below.refl _ _))⟩⟩
    ·have hke : k = l0.length := by omega
     subst hke
     have hd := HJ.out.done
     rw [part_row_last t _ HTL.out] at hd
     have HD := qa.mk hd
     clear hd HJ
     go_wp2_with fail
     go_roundg (l1.length + 1 - (i + 1))
     case measure => omega
     case rel => exact ⟨i + 1, _, _, _, _, _, by go_num, ⟨by omega, rfl⟩, HGO, HD⟩
  ·have hi2 : i = l1.length := by omega
   subst hi2
   have hgo := HGO.out
   rw [List.drop_eq_nil_of_le (Nat.le_refl _)] at hgo
   obtain rfl := Option.some.inj hgo
   clear HGO hgo
   go_wp2_with fail
   go_ret
   exact ⟨_, rfl, HFI.out.last hn, HFI.out.hb⟩
mutual
def qu.j0 : Nat → List (S41) → List (S46) → List Int → Bool → Option (List Int)
 | 0, _, _, _, _ => none
 | k + 1, x0, x1, x5, x15 => if x15 = true then (some x5) else ((qtb.f x0 x1).bind fun t281 => (qu.l0 k x0 x5 t281 (t281.length : Int) 0))
def qu.l0 : Nat → List (S41) → List Int → List (List Bool) → Int → Int → Option (List Int)
 | 0, _, _, _, _, _ => none
 | k + 1, x0, x5, x19, x20, x21 => if x21 < x20 then (if 0 ≤ x21 then (if x21 < (x19.length : Int) then (if 0 ≤ (wrap64 ((x0.length : Int) - 1)) then (if (wrap64 ((x0.length : Int) - 1)) < ((rd_L12 x19 x21).length : Int) then (if rdOf false (rd_L12 x19 x21) (wrap64 ((x0.length : Int) - 1)) = true then (if x5.length < 17592186044416 then (qu.l0 k x0 (x5 ++ [x21]) x19 x20 (wrap64 (x21 + 1))) else (none)) else (qu.l0 k x0 x5 x19 x20 (wrap64 (x21 + 1)))) else (none)) else (none)) else (none)) else (none)) else (some x5)
end
def qu.f (k : Nat) (l0 : List (S41)) (l1 : List (S46)) : Option (List Int) := (qp.f k l0).bind fun t279 => (if t279 = 0 then ((qmb.f k l1).bind fun t280 => (qu.j0 k l0 l1 ([] : List Int) (t280 != 0))) else (qu.j0 k l0 l1 ([] : List Int) true))
theorem qu.mono_l : ∀ k, (∀ y0 y1 y2 y3, LeO (qu.j0 k y0 y1 y2 y3) (qu.j0 (k + 1) y0 y1 y2 y3)) ∧ (∀ y0 y1 y2 y3 y4, LeO (qu.l0 k y0 y1 y2 y3 y4) (qu.l0 (k + 1) y0 y1 y2 y3 y4))
 | 0 => ⟨fun _ _ _ _ r h => by simp [qu.j0] at h, fun _ _ _ _ _ r h => by simp [qu.l0] at h⟩
 | k + 1 => by
  obtain ⟨ih0, ih1⟩ := qu.mono_l k
  refine ⟨?_, ?_⟩
  ·intro y0 y1 y2 y3
   unfold qu.j0
   repeat' first
   | (with_reducible exact ih0 _ _ _ _)
   | (with_reducible exact ih1 _ _ _ _ _)
   | (with_reducible exact qmb.mono _ _)
   | (with_reducible exact qp.mono _ _)
   | (with_reducible exact LeO.refl _)
   | (with_reducible exact LeO.none _)
   | (with_reducible refine LeO.ite ?_ ?_)
   | (with_reducible refine LeO.bind ?_ (fun _ => ?_))
   | exact ih0 _ _ _ _
   | exact ih1 _ _ _ _ _
   | exact qmb.mono _ _
   | exact qp.mono _ _
   | exact LeO.none _
   | refine LeO.ite ?_ ?_
   | refine LeO.bind ?_ (fun _ => ?_)
  ·intro y0 y1 y2 y3 y4
   unfold qu.l0
   repeat' first
   | (with_reducible exact ih0 _ _ _ _)
   | (with_reducible exact ih1 _ _ _ _ _)
   | (with_reducible exact qmb.mono _ _)
   | (with_reducible exact qp.mono _ _)
   | (with_reducible exact LeO.refl _)
   | (with_reducible exact LeO.none _)
   | (with_reducible refine LeO.ite ?_ ?_)
   | (with_reducible refine LeO.bind ?_ (fun _ => ?_))
   | exact ih0 _ _ _ _
   | exact ih1 _ _ _ _ _
   | exact qmb.mono _ _
   | exact qp.mono _ _
   | exact LeO.none _
   | refine LeO.ite ?_ ?_
   | refine LeO.bind ?_ (fun _ => ?_)
theorem qu.mono : ∀ a0 a1 k, LeO (qu.f k a0 a1) (qu.f (k + 1) a0 a1) := by
 intro a0 a1 k
 obtain ⟨ih0, ih1⟩ := qu.mono_l k
 unfold qu.f
 repeat' first
   | (with_reducible exact ih0 _ _ _ _)
   | (with_reducible exact ih1 _ _ _ _ _)
   | (with_reducible exact qmb.mono _ _)
   | (with_reducible exact qp.mono _ _)
   | (with_reducible exact LeO.refl _)
   | (with_reducible exact LeO.none _)
   | (with_reducible refine LeO.ite ?_ ?_)
   | (with_reducible refine LeO.bind ?_ (fun _ => ?_))
   | exact ih0 _ _ _ _
   | exact ih1 _ _ _ _ _
   | exact qmb.mono _ _
   | exact qp.mono _ _
   | exact LeO.none _
   | refine LeO.ite ?_ ?_
   | refine LeO.bind ?_ (fun _ => ?_)
set_option maxHeartbeats 8000000 in
set_option maxRecDepth 100000 in
theorem qu.calls (k : Nat) (A0 : Option Addr) (c0 : Nat) (l0 : List (S41)) (A1 : Option Addr) (c1 : Nat) (l1 : List (S46)) (r : List Int) (w : World) (hr0 : Kd.C k41 w A0 l0.length l0) (hc0 : l0.length ≤ c0) (hr1 : Kd.C k46 w A1 l1.length l1) (hc1 : l1.length ≤ c1) (h : qu.f k l0 l1 = some r) :
  Calls Tryd.prog 12 #[.slice A0 l0.length c0, .slice A1 l1.length c1] w fun e w' => ∃ v0_ : Value, e = .returned (v0_) ∧ Kd.R (Kd.int .i64) 3 w' w.heap.size (fun _ => True) v0_ r ∧ Below w.heap.size w w' := by
 have HR0 := qa.mk hr0
 have HC0 := qa.mk hc0
 clear hr0 hc0
 have HR1 := qa.mk hr1
 have HC1 := qa.mk hc1
 clear hr1 hc1
 have HB := qa.mk (Below.refl w.heap.size w)
 have H : ((qp.f k l0).bind fun t279 => (if t279 = 0 then ((qmb.f k l1).bind fun t280 => (qu.j0 k l0 l1 ([] : List Int) (t280 != 0))) else (qu.j0 k l0 l1 ([] : List Int) true))) = some r := h
 clear h
 have HC3 := qa.mk H
 clear H
 go_enter Tryd.func12, Tryd.ntmps12
 go_upto_region 2 with (fail)
 go_cut [15] (fun v15 wc => ∃ (kq : Nat) (x15_2 : Bool), v15 = .bool x15_2 ∧ qa (qu.j0 kq l0 l1 ([] : List Int) x15_2 = some r) ∧ qa (kq ≤ k) ∧ qa (Kd.R (Kd.int .i64) 3 wc w.heap.size (fun _ => True) (.slice none 0 0) ([] : List Int)) ∧ qa (Below w.heap.size w wc))
 case first =>
  have H := HC3.out
  clear HC3
  replace H := Option.bind_eq_some_iff.mp H
  obtain ⟨t279, A40, H⟩ := H
  replace H : (if t279 = 0 then ((qmb.f k l1).bind fun t280 => (qu.j0 k l0 l1 ([] : List Int) (t280 != 0))) else (qu.j0 k l0 l1 ([] : List Int) true)) = some r := H
  have A4 := qa.mk A40
  clear A40
  by_cases c5 : t279 = 0
  ·rw [if_pos c5] at H
   have c5b0 : (t279 == 0) = true := beq_iff_eq.mpr c5
   have c5b1 : (t279 != 0) = false := bne_eq_false_iff_eq.mpr c5
   clear c5
   (first | rw [c5b0] | (simp only [i64_w, i32_w]; rw [c5b0]) | rw [c5b2] | skip)
   replace H := Option.bind_eq_some_iff.mp H
   obtain ⟨t280, A60, H⟩ := H
   replace H : (qu.j0 k l0 l1 ([] : List Int) (t280 != 0)) = some r := H
   have A6 := qa.mk A60
   clear A60
   have H' := qa.mk H
   clear H
   go_wp2_with (first | ((with_reducible refine qv (f := 19) rfl ?_); refine qob (some 9) rfl rfl Tryd.func19 (by kernel_rfl) rfl #[.slice A0 l0.length c0] rfl zz56 ?_; (with_reducible refine (qp.calls k _ _ l0 t279 _ ?side1 ?side2 A4.out).mono ?_); (case side1 => exact zz83); (case side2 => exact HC0.out); rintro e w7 ⟨rfl, hb⟩; refine ⟨_, rfl, ?_⟩; have n0_ := qa.mk (qm zz24 hb); clear HB; have HB := n0_; clear n0_; (try clear hb); (try clear hb2); (try clear hk); (try clear hi)) | (go_at_call 22; (with_reducible refine (qmb.calls k _ _ l1 t280 _ ?side1 ?side2 A6.out).mono ?_); (case side1 => exact zz84); (case side2 => exact HC1.out); rintro e w8 ⟨rfl, hb⟩; have n0_ := qa.mk (qm zz24 hb); clear HB; have HB := n0_; clear n0_; (try clear hb); (try clear hb2); (try clear hk); (try clear hi)))
   go_meet
   case rel => exact ⟨_, ((t280 != 0)), zz6, H', ⟨zz2⟩, ⟨zz57⟩, ⟨zz24⟩⟩
  ·rw [if_neg c5] at H
   have c5b0 : (t279 == 0) = false := beq_eq_false_iff_ne.mpr c5
   have c5b1 : (t279 != 0) = true := bne_iff_ne.mpr c5
   (first | rw [c5b0] | (simp only [i64_w, i32_w]; rw [c5b0]) | rw [c5b2] | skip)
   have H' := qa.mk H
   clear H
   go_wp2_with (first | ((with_reducible refine qv (f := 19) rfl ?_); refine qob (some 9) rfl rfl Tryd.func19 (by kernel_rfl) rfl #[.slice A0 l0.length c0] rfl zz56 ?_; (with_reducible refine (qp.calls k _ _ l0 t279 _ ?side1 ?side2 A4.out).mono ?_); (case side1 => exact zz83); (case side2 => exact HC0.out); rintro e w9 ⟨rfl, hb⟩; refine ⟨_, rfl, ?_⟩; have n0_ := qa.mk (qm zz24 hb); clear HB; have HB := n0_; clear n0_; (try clear hb); (try clear hb2); (try clear hk); (try clear hi)))
   go_meet
   case rel => exact ⟨_, (true), zz6, H', ⟨zz2⟩, ⟨zz57⟩, ⟨zz24⟩⟩
 case rest =>
  clear HC3
  try clear c1
  try clear p2
  try clear c5
  try clear c5b0
  try clear c5b1
  try clear c5b2
  obtain ⟨kq, x15_2, rfl, HA, HJ2, HO_5, HB⟩ := hcut
  cases kq with
  | zero => exact absurd HA.out (by simp [qu.j0])
  | succ kj2 =>
   have H := HA.out
   clear HA
   simp only [qu.j0] at H
   by_cases c10 : x15_2 = true
   ·subst c10
    have H1 : (some ([] : List Int)) = some r := by rw [if_pos rfl] at H; exact H
    clear H
    have H := H1
    clear H1
    obtain rfl := Option.some.inj H
    go_wp2
    go_ret
    exact ⟨_, zz65, zz27, zz24⟩
   ·replace c10 := Bool.eq_false_iff.mpr c10
    subst c10
    have H1 : ((qtb.f l0 l1).bind fun t281 => (qu.l0 kj2 l0 ([] : List Int) t281 (t281.length : Int) 0)) = some r := by rw [if_neg (show ¬ (false = true) by decide)] at H; exact H
    clear H
    have H := H1
    clear H1
    replace H := Option.bind_eq_some_iff.mp H
    obtain ⟨t281, A110, H⟩ := H
    replace H : (qu.l0 kj2 l0 ([] : List Int) t281 (t281.length : Int) 0) = some r := H
    have A11 := qa.mk A110
    clear A110
    have H' := qa.mk H
    clear H
    go_wp2_with (first | ((with_reducible refine qv (f := 23) rfl ?_); refine qob (some 19) rfl rfl Tryd.func23 (by kernel_rfl) rfl #[.slice A0 l0.length c0, .slice A1 l1.length c1] rfl zz56 ?_; (with_reducible refine (qtb.calls _ _ l0 _ _ l1 t281 _ ?side1 ?side2 ?side3 ?side4 A11.out).mono ?_); (case side1 => exact zz83); (case side2 => exact HC0.out); (case side3 => exact zz84); (case side4 => exact HC1.out); rintro e w12 ⟨v282, rfl, ho0, hb⟩; refine ⟨_, rfl, ?_⟩; have n0_ := qa.mk (Kd.R_below zz27 hb); have n1_ := qa.mk (Kd.S_lower ho0 (ql zz24)); have n2_ := qa.mk (qm zz24 hb); clear HO_5; clear HB; have HO_5 := n0_; have HO283 := n1_; have HB := n2_; clear n0_ n1_ n2_; (try clear hb); (try clear hb2); (try clear hk); (try clear hi); (try clear ho0); obtain ⟨Ao13, co13, eo13⟩ := Kd.S_slice HO283.out; subst eo13))
    go_loopg [5, 21] kj2 (fun kq v5 v21 w' => ∃ (x5_2 : List Int) (x21_2 : Int), v21 = .int .i64 x21_2 ∧ qa (qu.l0 kq l0 x5_2 t281 (t281.length : Int) x21_2 = some r) ∧ qa (kq ≤ kj2) ∧ qa (Kd.R (Kd.int .i64) 3 w' w.heap.size (fun _ => True) v5 x5_2) ∧ qa (Kd.S (Kd.slice 4 Kd.bool) 67 w' w.heap.size (fun _ => True) (.slice Ao13 t281.length co13) t281) ∧ qa (Below w.heap.size w w'))
    case atStart => exact ⟨(([] : List Int)), (0), zz6, H', ⟨Nat.le_refl _⟩, ⟨zz27⟩, ⟨by (with_reducible repeat (first | apply Kd.S_alloc | apply Kd.S_drewN | apply Kd.S_drew)); exact HO283.out⟩, ⟨zz24⟩⟩
    case round =>
     clear H'
     try clear c1
     try clear c2
     try clear p2
     try clear c5
     try clear c5b0
     try clear c5b1
     try clear c5b2
     try clear c10
     try clear c12
     try clear p2
     obtain ⟨x5_2, x21_2, rfl, HA, HK2, HO_5, HO_19, HB⟩ := hrel
     cases gk with
     | zero => exact absurd HA.out (by simp [qu.l0])
     | succ k2 =>
      have H := HA.out
      clear HA
      simp only [qu.l0] at H
      by_cases c14 : x21_2 < (t281.length : Int)
      ·rw [if_pos c14] at H
       have c14b0 : decide (x21_2 < (t281.length : Int)) = true := decide_eq_true c14
       clear c14
       by_cases c15 : 0 ≤ x21_2
       ·rw [if_pos c15] at H
        have c15b0 : decide (0 ≤ x21_2) = true := decide_eq_true c15
        clear c15
        by_cases c16 : x21_2 < (t281.length : Int)
        ·rw [if_pos c16] at H
         have c16b0 : decide (x21_2 < (t281.length : Int)) = true := decide_eq_true c16
         clear c16
         obtain ⟨ji17, hji17⟩ : ∃ j_ : Int, (wrap64 ((l0.length : Int) - 1)) = j_ := ⟨_, rfl⟩
         replace H : (if 0 ≤ (ji17) then (if (ji17) < ((rd_L12 t281 x21_2).length : Int) then (if rdOf false (rd_L12 t281 x21_2) (ji17) = true then (if x5_2.length < 17592186044416 then (qu.l0 k2 l0 (x5_2 ++ [x21_2]) t281 (t281.length : Int) (wrap64 (x21_2 + 1))) else (none)) else (qu.l0 k2 l0 x5_2 t281 (t281.length : Int) (wrap64 (x21_2 + 1)))) else (none)) else (none)) = some r := by first | (rw [hji17] at H; exact H) | (simp only [hji17] at H ⊢; exact H)
         have hji17w : (IntKind.i64.wrap ((l0.length : Int) - 1)) = ji17 := (i64_w _).trans hji17
         by_cases c18 : 0 ≤ (ji17)
         ·rw [if_pos c18] at H
          have c18b0 : decide (0 ≤ (ji17)) = true := decide_eq_true c18
          clear c18
          by_cases c19 : (ji17) < ((rd_L12 t281 x21_2).length : Int)
          ·rw [if_pos c19] at H
           have c19b0 : decide ((ji17) < ((rd_L12 t281 x21_2).length : Int)) = true := decide_eq_true c19
           clear c19
           obtain ⟨bq20, hbq20⟩ : ∃ b_ : Bool, b_ = (rdOf false (rd_L12 t281 x21_2) (ji17)) := ⟨_, rfl⟩
           replace H : (if bq20 = true then (if x5_2.length < 17592186044416 then (qu.l0 k2 l0 (x5_2 ++ [x21_2]) t281 (t281.length : Int) (wrap64 (x21_2 + 1))) else (none)) else (qu.l0 k2 l0 x5_2 t281 (t281.length : Int) (wrap64 (x21_2 + 1)))) = some r := by rw [← hbq20] at H; exact H
           have Nbq20 := qa.mk hbq20
           clear hbq20
           (try rw [← Nbq20.out])
           by_cases c21 : bq20 = true
           ·subst c21
            have H1 : (if x5_2.length < 17592186044416 then (qu.l0 k2 l0 (x5_2 ++ [x21_2]) t281 (t281.length : Int) (wrap64 (x21_2 + 1))) else (none)) = some r := by rw [if_pos rfl] at H; exact H
            clear H
            have H := H1
            clear H1
            by_cases c22 : x5_2.length < 17592186044416
            ·rw [if_pos c22] at H
             have LMc22 := qa.mk c22
             clear c22
             obtain ⟨y286, hy286⟩ : ∃ y_ : List Int, y_ = (x5_2 ++ [x21_2]) := ⟨_, rfl⟩
             replace H : (qu.l0 k2 l0 y286 t281 (t281.length : Int) (wrap64 (x21_2 + 1))) = some r := by first | (rw [hy286]; with_reducible exact H) | (have H2_ := (Option.bind_some _ _).symm.trans H; rw [hy286]; with_reducible exact H2_) | (have H2_ := (Option.bind_some _ _).symm.trans H; with_reducible exact H2_) | with_reducible exact H | (rw [hy286]; exact H) | exact H
             have Ny286 := qa.mk hy286
             clear hy286
             have H' := qa.mk H
             clear H
             have p284 : 0 ≤ (x21_2 : Int) := of_decide_eq_true zz7
             have q284 : x21_2 < (t281.length : Int) := of_decide_eq_true zz7
             obtain ⟨ad284, A284_0, c284_0, e284, hx284_0, hl284_0, hi284_0⟩ := at_L12 (Kd.S_reads' HO_19.out).2.2 x21_2 p284 q284
             cases e284
             obtain ⟨ce284, hce284, hMe284, hcc284⟩ := Kd.S_get HO_19.out [] x21_2 p284 zz60
             obtain ⟨ve284_0, rfl, ge284_0⟩ := hMe284
             have hv284_0 := hcc284 0 _ rfl
             rw [Nat.add_zero, show ((Kd.slice 4 Kd.bool)).sz = 1 from rfl, Nat.mul_one] at hv284_0
             replace hv284_0 := Option.some.inj (hv284_0.symm.trans hx284_0)
             rw [hv284_0] at ge284_0
             have HL284_0 := qa.mk (show Kd.R Kd.bool 4 _ _ _ _ (rd_L12 t281 x21_2) from ge284_0)
             clear hv284_0 ge284_0
             clear hcc284 hce284
             have HR284_0 := qa.mk hi284_0
             have HC284_0 := qa.mk hl284_0
             clear hi284_0 hl284_0
             replace p284 := eq_true p284
             replace q284 := eq_true q284
             have p285 : 0 ≤ ((ji17) : Int) := of_decide_eq_true zz7
             have q285 : (ji17) < ((rd_L12 t281 x21_2).length : Int) := of_decide_eq_true zz7
             obtain ⟨ad285, e285, hx285_0⟩ := Kd.at_bool zz96 (ji17) p285 q285
             (try rw [← Nbq20.out] at hx285_0)
             cases e285
             replace p285 := eq_true p285
             replace q285 := eq_true q285
             go_wp2_with (first | ((with_reducible refine gate_builtin (b := .append) (xs := #[.tmp 32, .tmp 34]) rfl ?_); at_builtin; refine Kd.R_append (Kd.int .i64) (w0 := w) w.heap.size rfl (.tmp 32) (.tmp 34) 37 3 (.int .i64 0) 8 rfl Tryd.underlying37 info3 rfl (by decide) (by omega) u5 x5_2 x21_2 [.int .i64 x21_2] (fun _ => True) (fun _ => False) rfl rfl ?aP (fun _ hk => hk.elim) ?aF ?aO ?aB ?aS ?aL ?_; (case aP => exact rfl); (case aB => exact zz24); (case aF => exact (fun _ _ => trivial)); (case aO => exact zz27); (case aS => exact (ql zz24)); (case aL => have := LMc22.out; omega); intro v287 w23 ho hb hg hat; rw [← Ny286.out] at ho; have n0_ := qa.mk (Kd.S_over' zz30 (Kd.R_typed zz27) (by decide) hg); have n1_ := qa.mk (Kd.R_over' (by (with_reducible repeat (first | apply Kd.R_alloc | apply Kd.R_drewN | apply Kd.R_drew)); exact HL284_0.out) (Kd.R_typed zz27) (by decide) hg); have n2_ := qa.mk (hb); have n3_ := qa.mk (ho); clear HO_19; clear HL284_0; clear HB; clear HO_5; have HO_19 := n0_; have HL284_0 := n1_; have HB := n2_; have HO288 := n3_; clear n0_ n1_ n2_ n3_; clear ho hb hg hat))
             go_roundg k2
             case measure => have := HJ2.out; have := HK2.out; omega
             case rel => (try rw [← Nbq20.out]); exact ⟨(y286), (wrap64 (x21_2 + 1)), zz6, H', ⟨zz3⟩, ⟨by (with_reducible repeat (first | apply Kd.R_alloc | apply Kd.R_drewN | apply Kd.R_drew)); exact HO288.out⟩, ⟨zz30⟩, ⟨zz24⟩⟩
            ·rw [if_neg c22] at H
             exact absurd H (by simp)
           ·replace c21 := Bool.eq_false_iff.mpr c21
            subst c21
            have H1 : (qu.l0 k2 l0 x5_2 t281 (t281.length : Int) (wrap64 (x21_2 + 1))) = some r := by rw [if_neg (show ¬ (false = true) by decide)] at H; exact H
            clear H
            have H := H1
            clear H1
            have H' := qa.mk H
            clear H
            have p284 : 0 ≤ (x21_2 : Int) := of_decide_eq_true zz7
            have q284 : x21_2 < (t281.length : Int) := of_decide_eq_true zz7
            obtain ⟨ad284, A284_0, c284_0, e284, hx284_0, hl284_0, hi284_0⟩ := at_L12 (Kd.S_reads' HO_19.out).2.2 x21_2 p284 q284
            cases e284
            obtain ⟨ce284, hce284, hMe284, hcc284⟩ := Kd.S_get HO_19.out [] x21_2 p284 zz60
            obtain ⟨ve284_0, rfl, ge284_0⟩ := hMe284
            have hv284_0 := hcc284 0 _ rfl
            rw [Nat.add_zero, show ((Kd.slice 4 Kd.bool)).sz = 1 from rfl, Nat.mul_one] at hv284_0
            replace hv284_0 := Option.some.inj (hv284_0.symm.trans hx284_0)
            rw [hv284_0] at ge284_0
            have HL284_0 := qa.mk (show Kd.R Kd.bool 4 _ _ _ _ (rd_L12 t281 x21_2) from ge284_0)
            clear hv284_0 ge284_0
            clear hcc284 hce284
            have HR284_0 := qa.mk hi284_0
            have HC284_0 := qa.mk hl284_0
            clear hi284_0 hl284_0
            replace p284 := eq_true p284
            replace q284 := eq_true q284
            have p285 : 0 ≤ ((ji17) : Int) := of_decide_eq_true zz7
            have q285 : (ji17) < ((rd_L12 t281 x21_2).length : Int) := of_decide_eq_true zz7
            obtain ⟨ad285, e285, hx285_0⟩ := Kd.at_bool zz96 (ji17) p285 q285
            (try rw [← Nbq20.out] at hx285_0)
            cases e285
            replace p285 := eq_true p285
            replace q285 := eq_true q285
            go_wp2
            go_roundg k2
            case measure => have := HJ2.out; have := HK2.out; omega
            case rel => (try rw [← Nbq20.out]); exact ⟨(x5_2), (wrap64 (x21_2 + 1)), zz6, H', ⟨zz3⟩, ⟨zz27⟩, ⟨zz30⟩, ⟨zz24⟩⟩
          ·rw [if_neg c19] at H
           exact absurd H (by simp)
         ·rw [if_neg c18] at H
          exact absurd H (by simp)
        ·rw [if_neg c16] at H
         exact absurd H (by simp)
       ·rw [if_neg c15] at H
        exact absurd H (by simp)
      ·rw [if_neg c14] at H
       have c14b0 : decide (x21_2 < (t281.length : Int)) = false := decide_eq_false c14
       clear c14
       obtain rfl := Option.some.inj H
       go_wp2
       go_ret
       exact ⟨_, zz65, zz27, zz24⟩
def qzb.l0 : Nat → List Int → Int → Int → Int → Option (Bool)
 | 0, _, _, _, _ => none
 | k + 1, x0, x1, x7, x8 => if x8 < x7 then (if 0 ≤ x8 then (if x8 < (x0.length : Int) then (if (rd x0 x8) = x1 then (some true) else (qzb.l0 k x0 x1 x7 (wrap64 (x8 + 1)))) else (none)) else (none)) else (some false)
def qzb.f (k : Nat) (l0 : List Int) (a1 : Int) : Option (Bool) := qzb.l0 k l0 a1 (l0.length : Int) 0
set_option maxHeartbeats 8000000 in
set_option maxRecDepth 100000 in
theorem qzb.calls (k : Nat) (A0 : Option Addr) (c0 : Nat) (l0 : List Int) (a1 : Int) (r : Bool) (w : World) (hr0 : Kd.C (Kd.int .i64) w A0 l0.length l0) (hc0 : l0.length ≤ c0) (h : qzb.f k l0 a1 = some r) :
  Calls Tryd.prog 13 #[.slice A0 l0.length c0, .int .i64 a1] w fun e w' => e = .returned (.bool r) ∧ Drawn0 w w' := by
 have HR0 := qa.mk hr0
 have HC0 := qa.mk hc0
 clear hr0 hc0
 have H : (qzb.l0 k l0 a1 (l0.length : Int) 0) = some r := h
 clear h
 have H' := qa.mk H
 clear H
 go_enter Tryd.func13, Tryd.ntmps13
 go_wp2
 go_loopg [8] k (fun kq v8 w' => ∃ (x8_1 : Int), v8 = .int .i64 x8_1 ∧ qa (qzb.l0 kq l0 a1 (l0.length : Int) x8_1 = some r) ∧ qa (kq ≤ k) ∧ Drawn0 w w')
 case atStart => exact ⟨(0), zz6, H', ⟨Nat.le_refl _⟩, zz13⟩
 case round =>
  clear H'
  try clear c1
  try clear p2
  obtain ⟨x8_1, rfl, HA, HK1, ⟨m1, rfl⟩⟩ := hrel
  cases gk with
  | zero => exact absurd HA.out (by simp [qzb.l0])
  | succ k1 =>
   have H := HA.out
   clear HA
   simp only [qzb.l0] at H
   by_cases c3 : x8_1 < (l0.length : Int)
   ·rw [if_pos c3] at H
    have c3b0 : decide (x8_1 < (l0.length : Int)) = true := decide_eq_true c3
    clear c3
    by_cases c4 : 0 ≤ x8_1
    ·rw [if_pos c4] at H
     have c4b0 : decide (0 ≤ x8_1) = true := decide_eq_true c4
     clear c4
     by_cases c5 : x8_1 < (l0.length : Int)
     ·rw [if_pos c5] at H
      have c5b0 : decide (x8_1 < (l0.length : Int)) = true := decide_eq_true c5
      clear c5
      by_cases c6 : (rd l0 x8_1) = a1
      ·rw [if_pos c6] at H
       have c6b0 : ((rd l0 x8_1) == a1) = true := beq_iff_eq.mpr c6
       have c6b1 : ((rd l0 x8_1) != a1) = false := bne_eq_false_iff_eq.mpr c6
       clear c6
       obtain rfl := Option.some.inj H
       have p396 : 0 ≤ (x8_1 : Int) := of_decide_eq_true zz7
       have q396 : x8_1 < (l0.length : Int) := of_decide_eq_true zz7
       obtain ⟨ad396, e396, hx396_0⟩ := Kd.at_int HR0.out x8_1 p396 q396
       cases e396
       replace p396 := eq_true p396
       replace q396 := eq_true q396
       go_wp2
       go_ret
       exact ⟨zz6, zz13⟩
      ·rw [if_neg c6] at H
       have c6b0 : ((rd l0 x8_1) == a1) = false := beq_eq_false_iff_ne.mpr c6
       have c6b1 : ((rd l0 x8_1) != a1) = true := bne_iff_ne.mpr c6
       have H' := qa.mk H
       clear H
       have p396 : 0 ≤ (x8_1 : Int) := of_decide_eq_true zz7
       have q396 : x8_1 < (l0.length : Int) := of_decide_eq_true zz7
       obtain ⟨ad396, e396, hx396_0⟩ := Kd.at_int HR0.out x8_1 p396 q396
       cases e396
       replace p396 := eq_true p396
       replace q396 := eq_true q396
       go_wp2
       go_roundg k1
       case measure => have := HK1.out; omega
       case rel => exact ⟨(wrap64 (x8_1 + 1)), zz6, H', ⟨zz1⟩, zz13⟩
     ·rw [if_neg c5] at H
      exact absurd H (by simp)
    ·rw [if_neg c4] at H
     exact absurd H (by simp)
   ·rw [if_neg c3] at H
    have c3b0 : decide (x8_1 < (l0.length : Int)) = false := decide_eq_false c3
    clear c3
    obtain rfl := Option.some.inj H
    go_wp2
    go_ret
    exact ⟨zz6, zz13⟩
end Go.Proofs.YtjbobecnlpiejaaDoor.Q
namespace Go.Proofs.YtjbobecnlpiejaaDoor.Q.P
open Go.Proofs.YtjbobecnlpiejaaDoorZ
open Go.RowKit Go.Proofs.YtjbobecnlpiejaaDoorW.PrintWords Go.Proofs.YtjbobecnlpiejaaDoorW.PrintLast Go.Proofs.YtjbobecnlpiejaaDoorW.PrintMore
theorem rdR (l : List S46) (i : Nat) (h : i < l.length) : qe l (i : Int) = l[i] := by
 unfold qe
 rw [Int.toNat_natCast, List.getD_eq_getElem?_getD, List.getElem?_eq_getElem h]
 rfl
theorem rdA (l : List S48) (i : Nat) (h : i < l.length) : qy l (i : Int) = l[i] := by
 unfold qy
 rw [Int.toNat_natCast, List.getD_eq_getElem?_getD, List.getElem?_eq_getElem h]
 rfl
def RB (p : S46) : Prop := p.f2.size ≤ 140737488351232 ∧ p.f3.size ≤ 140737488351232 ∧ p.f4.size ≤ 140737488351232 ∧ p.f5.length * 32 ≤ 140737488351232 ∧ ∀ c ∈ p.f5, c.f0.size ≤ 140737488351232 ∧ c.f1.size ≤ 140737488351232
def RS (p : S46) : Prop := p.f3.size ≤ 1000000 ∧ p.f5.length ≤ 100
theorem tdiv4096 (x : Int) (h : 0 ≤ x) : Int.tdiv x 4096 = x / 4096 := Int.tdiv_eq_ediv_of_nonneg h
theorem wdiv {x : Int} (h : 0 ≤ x) (h1 : x ≤ 1000000000000000) : wrap64 (Int.tdiv x 4096) = x / 4096 := (congrArg wrap64 (tdiv4096 x h)).trans (w64 (by omega) (by omega))
theorem lo0 : -17592186044416 ≤ (-17592186044416 : Int) + ((0 : Nat) : Int) * 137438953472 := by decide
theorem lo_step (e : Nat) : (-17592186044416 : Int) + (e : Int) * 137438953472 + 68719476736 ≤ -17592186044416 + ((e + 1 : Nat) : Int) * 137438953472 := by
 generalize hx : (137438953472 : Int) = x
 rw [Int.natCast_add, Int.add_mul, Int.natCast_one, Int.one_mul]
 omega
theorem lo_ge (e : Nat) : (-17592186044416 : Int) ≤ -17592186044416 + (e : Int) * 137438953472 := by
 have := Int.mul_nonneg (Int.natCast_nonneg e) (show (0 : Int) ≤ 137438953472 by decide)
 omega
theorem lo_le {e : Nat} (h : e ≤ 100) : (-17592186044416 : Int) + (e : Int) * 137438953472 ≤ 0 := by
 have := Int.mul_le_mul_of_nonneg_right (show (e : Int) ≤ 100 by omega) (show (0 : Int) ≤ 137438953472 by decide)
 omega
theorem few_step (l : List S46) (left : Int) (i j e : Nat) (Q : Int → Prop) (hQ : ∀ a b, a ≤ b → Q a → Q b) {g : Nat → Option Bool} {h : Int → Nat → Option Bool} {s0 s1 : Nat}
  (hg : ∀ k, g (k + 1) = h (wrap64 (left - wrap64 (Int.tdiv (wrap64 ((s1 : Int) + (s0 : Int))) 4096))) k) (c1 : s0 ≤ 140737488351232) (c2 : s1 ≤ 140737488351232) (a b : Int) (hab : a + 68719476736 ≤ b) (ha : -17592186044416 ≤ a) (h1 : b ≤ left) (h2 : left ≤ 100)
  (ih : ∀ left2 : Int, a ≤ left2 → left2 ≤ 100 → ∃ b, Ev (h left2) b ∧ (b = true → Q left2)) : ∃ b, Ev g b ∧ (b = true → Q left) := by
 obtain ⟨s, hs⟩ : ∃ s : Int, s = (s1 : Int) + (s0 : Int) := ⟨_, rfl⟩
 have hs1 : 0 ≤ s ∧ s ≤ 281474976702464 := by omega
 obtain ⟨q, hq⟩ : ∃ q : Int, q = s / 4096 := ⟨_, rfl⟩
 have hq1 : 0 ≤ q ∧ q ≤ 68719476736 := by omega
 have b1 : -9223372036854775808 ≤ s ∧ s ≤ 9223372036854775807 := by omega
 have b3 : -9223372036854775808 ≤ left - q ∧ left - q ≤ 9223372036854775807 := by omega
 have g1 : a ≤ left - q := by omega
 have g2 : left - q ≤ 100 := by omega
 have g3 : left - q ≤ left := by omega
 have e2 := wdiv (x := s) hs1.1 (by omega)
 rw [← hs, w64 b1.1 b1.2, e2, ← hq, w64 b3.1 b3.2] at hg
 obtain ⟨b, hb, hbq⟩ := ih (left - q) g1 g2
 exact ⟨b, Ev.step hg hb, fun h => hQ _ _ g3 (hbq h)⟩
set_option maxHeartbeats 4000000 in
theorem fewRows_l1 (l : List S46) (hl : l.length * 88 ≤ 140737488351232) (i : Nat) (hi : i < l.length) (hp : RB l[i]) (h100 : l[i].f5.length ≤ 100) (Q : Int → Prop) (hQ : ∀ a b, a ≤ b → Q a → Q b) (lo : Nat → Int) (hlo0 : -17592186044416 ≤ lo 0) (hlo : ∀ e, lo e + 68719476736 ≤ lo (e + 1)) (hlo1 : ∀ e, -17592186044416 ≤ lo e)
  (ih : ∀ left : Int, -17592186044416 ≤ left → left ≤ 100 → ∃ b, Ev (fun k => qbb.l0 k l left (l.length : Int) ((i + 1 : Nat) : Int)) b ∧ (b = true → Q left)) (e : Nat) :
  ∀ (j : Nat) (left : Int), j + e = l[i].f5.length → lo e ≤ left → left ≤ 100 → ∃ b, Ev (fun k => qbb.l1 k l left (i : Int) (l.length : Int) (i : Int) (l[i].f5.length : Int) (j : Int)) b ∧ (b = true → Q left) := by
 have hw : wrap64 ((i : Int) + 1) = ((i + 1 : Nat) : Int) := by rw [w64 (by omega) (by omega)]; omega
 obtain ⟨_, _, _, _, hc⟩ := hp
 induction e with
 | zero =>
  intro j left hj h1 h2
  obtain ⟨b, hb, hbq⟩ := ih left (by omega) h2
  refine ⟨b, Ev.step (fun k => ?_) hb, hbq⟩
  rw [qbb.l1, if_neg (by omega), hw]
 | succ e ihe =>
  intro j left hj h1 h2
  have hlo2 := hlo e
  have hlo3 := hlo1 e
  have hjl : j < l[i].f5.length := by omega
  have i0 : (0 : Int) ≤ (i : Int) := Int.natCast_nonneg i
  have i1 : (i : Int) < (l.length : Int) := Int.ofNat_lt.2 hi
  have j0 : (0 : Int) ≤ (j : Int) := Int.natCast_nonneg j
  have j1 : (j : Int) < (l[i].f5.length : Int) := Int.ofNat_lt.2 hjl
  have wj := w64 (x := (j : Int) + 1) (by omega) (by omega)
  obtain ⟨c1, c2⟩ := hc l[i].f5[j] (List.getElem_mem _)
  exact few_step l left i j e Q hQ (fun k => by rw [qbb.l1, if_pos j1, if_pos i0, if_pos i1, rdR l i hi, if_pos j0, if_pos j1, rdA _ j hjl, wj]; rfl) c1 c2 (lo e) (lo (e + 1)) hlo2 hlo3 h1 h2 (fun left2 g1 g2 => ihe (j + 1) left2 (by omega) g1 g2)
set_option maxHeartbeats 4000000 in
theorem fewRows_l0 (l : List S46) (hl : l.length * 88 ≤ 140737488351232) (hB : ∀ p ∈ l, RB p) (d : Nat) :
  ∀ (i : Nat) (left : Int), i + d = l.length → -17592186044416 ≤ left → left ≤ 100 → ∃ b, Ev (fun k => qbb.l0 k l left (l.length : Int) (i : Int)) b ∧ (b = true → (d : Int) ≤ left ∧ ∀ p ∈ l.drop i, RS p) := by
 induction d with
 | zero =>
  intro i left hi h1 h2
  refine ⟨decide (left ≥ 0), Ev.step (fun k => ?_) (Ev.now _), fun h => ⟨by have := of_decide_eq_true h; omega, ?_⟩⟩
  ·rw [qbb.l0, if_neg (by omega)]
  ·rw [List.drop_eq_nil_of_le (by omega)]
   simp
 | succ d ih =>
  intro i left hi h1 h2
  have hil : i < l.length := by omega
  have hp := hB l[i] (List.getElem_mem _)
  obtain ⟨p2, p3, p4, p5, _⟩ := id hp
  have e1 : wrap64 (wrap64 (left - 1) - (l[i].f5.length : Int)) = left - 1 - (l[i].f5.length : Int) := by
   rw [w64 (x := left - 1) (by omega) (by omega)]
   exact w64 (by omega) (by omega)
  have e2 : wrap64 (wrap64 ((l[i].f4.size : Int) + (l[i].f3.size : Int)) + (l[i].f2.size : Int)) = (l[i].f4.size : Int) + (l[i].f3.size : Int) + (l[i].f2.size : Int) := by
   rw [w64 (x := (l[i].f4.size : Int) + (l[i].f3.size : Int)) (by omega) (by omega)]
   exact w64 (by omega) (by omega)
  have e3 := wdiv (x := (l[i].f4.size : Int) + (l[i].f3.size : Int) + (l[i].f2.size : Int)) (by omega) (by omega)
  obtain ⟨q, hq⟩ : ∃ q, q = ((l[i].f4.size : Int) + (l[i].f3.size : Int) + (l[i].f2.size : Int)) / 4096 := ⟨_, rfl⟩
  rw [← hq] at e3
  have hq1 : 0 ≤ q ∧ (l[i].f3.size : Int) ≤ 4096 * q + 4096 := by omega
  have hq2 : q ≤ 150000000000 := by omega
  have e4 : wrap64 (left - 1 - (l[i].f5.length : Int) - q) = left - 1 - (l[i].f5.length : Int) - q := w64 (by omega) (by omega)
  by_cases hn : left - 1 - (l[i].f5.length : Int) - q < 0
  ·refine ⟨false, Ev.step (fun k => ?_) (Ev.now false), fun h => by cases h⟩
   rw [qbb.l0, if_pos (by omega), if_pos (by omega), if_pos (by omega), rdR l i hil, e1, e2, e3, e4, if_pos hn]
  ·obtain ⟨b, hb, hbq⟩ := fewRows_l1 l hl i hil hp (by omega) (fun a => (d : Int) ≤ a ∧ ∀ p ∈ l.drop (i + 1), RS p) (fun a b h q => ⟨by omega, q.2⟩) (fun e => -17592186044416 + (e : Int) * 137438953472) (lo0) lo_step lo_ge (fun a ha hb => ih (i + 1) a (by omega) ha hb) l[i].f5.length 0 (left - 1 - (l[i].f5.length : Int) - q) (by omega) (Int.le_trans (lo_le (by omega)) (Int.not_lt.1 hn)) (by omega)
   refine ⟨b, Ev.step (fun k => ?_) hb, fun h => ?_⟩
   ·rw [qbb.l0, if_pos (by omega), if_pos (by omega), if_pos (by omega), rdR l i hil, e1, e2, e3, e4, if_neg hn]
    rfl
   ·obtain ⟨q1, q2⟩ := hbq h
    refine ⟨by omega, fun p hp => ?_⟩
    rw [List.drop_eq_getElem_cons hil] at hp
    rcases List.mem_cons.1 hp with rfl | hp
    ·exact ⟨by omega, by omega⟩
    ·exact q2 p hp
theorem fewRows_spec (l : List S46) (hl : l.length * 88 ≤ 140737488351232) (hB : ∀ p ∈ l, RB p) : ∃ b, Ev (fun k => qbb.f k l 100) b ∧ (b = true → l.length ≤ 100 ∧ ∀ p ∈ l, RS p) := by
 obtain ⟨b, hb, hbq⟩ := fewRows_l0 l hl hB l.length 0 100 (by omega) (by omega) (by omega)
 refine ⟨b, hb, fun h => ?_⟩
 obtain ⟨h1, h2⟩ := hbq h
 exact ⟨by omega, by simpa using h2⟩
def Ups (l : List S46) (n : Nat) : Prop := ∀ j, (h : j < l.length) → j < n → 0 ≤ l[j].f1 ∧ l[j].f1 ≤ (j : Int)
set_option maxHeartbeats 4000000 in
theorem formed_l1 (l : List S46) (hl : l.length ≤ 100) (i : Nat) (hi : i < l.length) (hu : Ups l i) (Q : Prop)
  (ih : Ups l (i + 1) → ∃ b, Ev (fun k => qdb.l0 k l l (l.length : Int) ((i + 1 : Nat) : Int)) b ∧ (b = true → Q)) (a0 a1 : Int) (a2 a3 a4 : ByteArray) (a5 : List S48) (ha : a1 = l[i].f1) :
  ∀ (m h : Nat), h ≤ m → h ≤ i → ∃ b, Ev (fun k => qdb.l1 k l (i : Int) (h : Int) l (l.length : Int) (i : Int) a0 a1 a2 a3 a4 a5) b ∧ (b = true → Q) := by
 have hw : wrap64 ((i : Int) + 1) = ((i + 1 : Nat) : Int) := by rw [w64 (by omega) (by omega)]; omega
 have hnext : ∀ h : Nat, h ≤ i → (h : Int) = a1 → Ups l (i + 1) := by
  intro h hh he j hj hji
  by_cases hjj : j < i
  ·exact hu j hj hjj
  ·obtain rfl : j = i := by omega
   rw [← ha, ← he]
   omega
 intro m
 induction m with
 | zero =>
  intro h hm hh
  obtain rfl : h = 0 := by omega
  by_cases h1 : ((0 : Nat) : Int) = a1
  ·by_cases h2 : (i : Int) = 0
   ·obtain ⟨b, hb, hq⟩ := ih (hnext 0 hh h1)
    refine ⟨b, Ev.step (fun k => ?_) hb, hq⟩
    rw [qdb.l1, if_pos (by omega), if_pos h1, if_pos h2, hw]
   ·refine ⟨false, Ev.step (fun k => ?_) (Ev.now false), fun h => by cases h⟩
    rw [qdb.l1, if_pos (by omega), if_pos h1, if_neg h2]
  ·refine ⟨false, Ev.step (fun k => ?_) (Ev.now false), fun h => by cases h⟩
   rw [qdb.l1, if_pos (by omega), if_neg h1]
 | succ m ihm =>
  intro h hm hh
  by_cases h0 : h = 0
  ·subst h0; exact ihm 0 (by omega) hh
  by_cases h1 : (h : Int) = a1
  ·by_cases h2 : (i : Int) = 0
   ·omega
   ·obtain ⟨b, hb, hq⟩ := ih (hnext h hh h1)
    refine ⟨b, Ev.step (fun k => ?_) hb, hq⟩
    rw [qdb.l1, if_neg (by omega), if_pos h1, if_neg h2, hw]
  ·obtain ⟨u1, u2⟩ := hu (h - 1) (by omega) (by omega)
   have e1 : wrap64 ((h : Int) - 1) = ((h - 1 : Nat) : Int) := by rw [w64 (by omega) (by omega)]; omega
   obtain ⟨b, hb, hq⟩ := ihm (l[h - 1].f1).toNat (by omega) (by omega)
   refine ⟨b, Ev.step (fun k => ?_) hb, hq⟩
   rw [qdb.l1, if_neg (by omega), if_neg h1, e1, if_pos (by omega), if_pos (by omega), rdR l (h - 1) (by omega), Int.toNat_of_nonneg u1]
theorem formed_l0 (l : List S46) (hl : l.length ≤ 100) (d : Nat) : ∀ i : Nat, i + d = l.length → Ups l i → ∃ b, Ev (fun k => qdb.l0 k l l (l.length : Int) (i : Int)) b ∧ (b = true → Ups l l.length) := by
 induction d with
 | zero =>
  intro i hi hu
  refine ⟨true, Ev.step (fun k => ?_) (Ev.now true), fun _ => ?_⟩
  ·rw [qdb.l0, if_neg (by omega)]
  ·obtain rfl : i = l.length := by omega
   exact hu
 | succ d ih =>
  intro i hi hu
  have hil : i < l.length := by omega
  obtain ⟨b, hb, hq⟩ := formed_l1 l hl i hil hu (Ups l l.length) (ih (i + 1) (by omega)) l[i].f0 l[i].f1 l[i].f2 l[i].f3 l[i].f4 l[i].f5 rfl i i (Nat.le_refl _) (Nat.le_refl _)
  refine ⟨b, Ev.step (fun k => ?_) hb, hq⟩
  rw [qdb.l0, if_pos (by omega), if_pos (by omega), if_pos (by omega), rdR l i hil]
theorem formed_spec (l : List S46) (hl : l.length ≤ 100) : ∃ b, Ev (fun k => qdb.f k l) b ∧ (b = true → Ups l l.length) :=
 formed_l0 l hl l.length 0 (by omega) (fun j _ h => by omega)
set_option maxHeartbeats 4000000 in
theorem deep_l0 (l : List S46) (hl : l.length ≤ 100) (hu : Ups l l.length) (d : Nat) : ∀ (i : Nat) (ds : List Int), i + d = l.length → ds.length = l.length + 1 → ∃ b, Ev (fun k => qsb.l0 k l ds l (l.length : Int) (i : Int)) b := by
 induction d with
 | zero =>
  intro i ds hi hds
  refine ⟨decide ((l.length : Int) > 4096), Ev.step (fun k => ?_) (Ev.now (decide ((l.length : Int) > 4096)))⟩
  rw [qsb.l0, if_neg (by omega)]
 | succ d ih =>
  intro i ds hi hds
  have hil : i < l.length := by omega
  obtain ⟨u1, u2⟩ := hu i hil hil
  have hw : wrap64 ((i : Int) + 1) = ((i + 1 : Nat) : Int) := by rw [w64 (by omega) (by omega)]; omega
  generalize hds2 : ds.set (((i + 1 : Nat) : Int)).toNat (wrap64 (rd ds l[i].f1 + 1)) = ds2
  have hl2 : ds2.length = l.length + 1 := by rw [← hds2, List.length_set]; exact hds
  obtain ⟨b, hb⟩ := ih (i + 1) ds2 (by omega) hl2
  by_cases h64 : rd ds2 ((i + 1 : Nat) : Int) > 64
  ·refine ⟨true, Ev.step (fun k => ?_) (Ev.now true)⟩
   rw [qsb.l0, if_pos (by omega), if_pos (by omega), if_pos (by omega), rdR l i hil, if_pos (by omega), if_pos (by omega), hw, if_pos (by omega), if_pos (by omega), hds2, Option.bind_some, if_pos h64]
  ·refine ⟨b, Ev.step (fun k => ?_) hb⟩
   rw [qsb.l0, if_pos (by omega), if_pos (by omega), if_pos (by omega), rdR l i hil, if_pos (by omega), if_pos (by omega), hw, if_pos (by omega), if_pos (by omega), hds2, Option.bind_some, if_neg h64]
theorem deep_spec (l : List S46) (hl : l.length ≤ 100) (hu : Ups l l.length) : ∃ b, Ev (fun k => qsb.f k l) b := by
 have hw : wrap64 ((l.length : Int) + 1) = ((l.length + 1 : Nat) : Int) := by rw [w64 (by omega) (by omega)]; omega
 obtain ⟨b, hb⟩ := deep_l0 l hl hu l.length 0 (List.replicate (l.length + 1) 0) (by omega) (List.length_replicate)
 refine ⟨b, ?_⟩
 have e : (fun k => qsb.f k l) = fun k => qsb.l0 k l (List.replicate (l.length + 1) 0) l (l.length : Int) ((0 : Nat) : Int) := by
  funext k
  unfold qsb.f
  rw [hw, if_pos (by omega), if_pos (by omega), Int.toNat_natCast]
  rfl
 rw [e]
 exact hb
set_option maxHeartbeats 4000000 in
theorem cut_l0 (l : List S46) (hl : l.length ≤ 100) (hu : Ups l l.length) (d : Nat) : ∀ (i : Nat) (ds : List Int), i + d = l.length → ds.length = l.length + 1 → ∃ n, (0 < l.length → 0 < n) ∧ Ev (fun k => qxb.l0 k l ds l (l.length : Int) (i : Int)) (l.take n) := by
 induction d with
 | zero =>
  intro i ds hi hds
  refine ⟨l.length, id, Ev.step (fun k => ?_) (Ev.now _)⟩
  rw [qxb.l0, if_neg (by omega), List.take_of_length_le (Nat.le_refl _)]
 | succ d ih =>
  intro i ds hi hds
  have hil : i < l.length := by omega
  obtain ⟨u1, u2⟩ := hu i hil hil
  have hw : wrap64 ((i : Int) + 1) = ((i + 1 : Nat) : Int) := by rw [w64 (by omega) (by omega)]; omega
  generalize hds2 : ds.set (((i + 1 : Nat) : Int)).toNat (wrap64 (rd ds l[i].f1 + 1)) = ds2
  have hl2 : ds2.length = l.length + 1 := by rw [← hds2, List.length_set]; exact hds
  obtain ⟨n, hn0, hb⟩ := ih (i + 1) ds2 (by omega) hl2
  by_cases h64 : rd ds2 ((i + 1 : Nat) : Int) > 64
  ·refine ⟨i + 1, fun _ => Nat.succ_pos _, Ev.step (fun k => ?_) (Ev.now _)⟩
   rw [qxb.l0, if_pos (by omega), if_pos (by omega), if_pos (by omega), rdR l i hil, if_pos (by omega), if_pos (by omega), hw, if_pos (by omega), if_pos (by omega), hds2, Option.bind_some, if_pos h64, if_pos (by omega), Int.toNat_natCast]
  ·refine ⟨n, hn0, Ev.step (fun k => ?_) hb⟩
   rw [qxb.l0, if_pos (by omega), if_pos (by omega), if_pos (by omega), rdR l i hil, if_pos (by omega), if_pos (by omega), hw, if_pos (by omega), if_pos (by omega), hds2, Option.bind_some, if_neg h64, if_neg (by omega)]
theorem cut_spec (l : List S46) (hl : l.length ≤ 100) (hu : Ups l l.length) : ∃ n, (0 < l.length → 0 < n) ∧ Ev (fun k => qxb.f k l) (l.take n) := by
 have hw : wrap64 ((l.length : Int) + 1) = ((l.length + 1 : Nat) : Int) := by rw [w64 (by omega) (by omega)]; omega
 obtain ⟨n, hn0, hb⟩ := cut_l0 l hl hu l.length 0 (List.replicate (l.length + 1) 0) (by omega) (List.length_replicate)
 refine ⟨n, hn0, ?_⟩
 have e : (fun k => qxb.f k l) = fun k => qxb.l0 k l (List.replicate (l.length + 1) 0) l (l.length : Int) ((0 : Nat) : Int) := by
  funext k
  unfold qxb.f
  rw [hw, if_pos (by omega), if_pos (by omega), Int.toNat_natCast]
  rfl
 rw [e]
 exact hb
def Good : Nat → S84 → Prop
 | 0, _ => True
 | n + 1, x => x.f1.size ≤ 1000000 ∧ ∀ y ∈ x.f4, Good n y
def BRes (l : List S46) (at_ : Nat) (r : ByteArray × ByteArray × ByteArray × List S48 × List S84 × Int) : Prop :=
 (∃ n : Nat, r.2.2.2.2.2 = (n : Int) ∧ at_ < n ∧ n ≤ l.length) ∧ r.2.1.size ≤ 1000000 ∧ ∀ m, ∀ y ∈ r.2.2.2.2.1, Good m y
def BuildF (l : List S46) (d : Nat) : Prop := ∀ (k at_ : Nat), at_ + d = l.length → 2 * d ≤ k → 0 < d → ∃ r, qhb.f k l (at_ : Int) = some r ∧ BRes l at_ r
def BuildL (l : List S46) (d : Nat) : Prop := ∀ (k at_ nx : Nat) (a b c : ByteArray) (av : List S48) (ks : List S84), nx + d = l.length → 2 * d + 1 ≤ k → at_ < nx → b.size ≤ 1000000 → ks.length ≤ nx → (∀ m, ∀ y ∈ ks, Good m y) → ∃ r, qhb.l0 k l (at_ : Int) (nx : Int) a b c av ks = some r ∧ BRes l at_ r
theorem build_f (l : List S46) (hl : l.length ≤ 100) (hs : ∀ p ∈ l, RS p) (d : Nat) (ihl : BuildL l d) : BuildF l (d + 1) := by
 intro k at_ hn hk _
 obtain ⟨k, rfl⟩ : ∃ m, k = m + 1 := ⟨k - 1, by omega⟩
 have hil : at_ < l.length := by omega
 have h0 : (0 : Int) ≤ (at_ : Int) := Int.natCast_nonneg at_
 have h1 : (at_ : Int) < (l.length : Int) := Int.ofNat_lt.2 hil
 have hw : wrap64 ((at_ : Int) + 1) = ((at_ + 1 : Nat) : Int) := w64 (by omega) (by omega)
 obtain ⟨r1, r2⟩ := hs l[at_] (List.getElem_mem _)
 obtain ⟨r, hr, hR⟩ := ihl k at_ (at_ + 1) l[at_].f2 l[at_].f3 l[at_].f4 l[at_].f5 [] (by omega) (by omega) (by omega) r1 (Nat.zero_le _) (by simp)
 refine ⟨r, ?_, hR⟩
 have h2 : l[at_].f5.length < 4398046511104 := by omega
 rw [qhb.f, if_pos h0, if_pos h1, rdR l at_ hil, api_Attr.f, if_pos h2, Option.bind_some, hw]
 exact hr
theorem build_l (l : List S46) (hl : l.length ≤ 100) (d : Nat) (hf : BuildF l (d + 1)) (ihl : ∀ e, e ≤ d → BuildL l e) : BuildL l (d + 1) := by
 intro k at_ nx a b c av ks hn hk ha hb hkl hg
 obtain ⟨k, rfl⟩ : ∃ m, k = m + 1 := ⟨k - 1, by omega⟩
 have hil : nx < l.length := by omega
 have h0 : (0 : Int) ≤ (nx : Int) := Int.natCast_nonneg nx
 have h1 : (nx : Int) < (l.length : Int) := Int.ofNat_lt.2 hil
 by_cases hu : l[nx].f1 = wrap64 ((at_ : Int) + 1)
 ·obtain ⟨r, hr, ⟨n, hrn, hn1, hn2⟩, hrs, hrg⟩ := hf k nx hn (by omega) (by omega)
  have hkl2 : ks.length < 1466015503701 := by omega
  have hgg : ∀ m, ∀ y ∈ ks ++ [(⟨r.1, r.2.1, r.2.2.1, r.2.2.2.1, r.2.2.2.2.1⟩ : S84)], Good m y := by
   intro m y hy
   rcases List.mem_append.1 hy with hy | hy
   ·exact hg m y hy
   ·obtain rfl := List.mem_singleton.1 hy
    cases m with
    | zero => trivial
    | succ m => exact ⟨hrs, fun z hz => hrg m z hz⟩
  have hll : (ks ++ [(⟨r.1, r.2.1, r.2.2.1, r.2.2.2.1, r.2.2.2.2.1⟩ : S84)]).length ≤ n := by rw [List.length_append]; simp only [List.length_cons, List.length_nil]; omega
  obtain ⟨r2, hr2, hR2⟩ := ihl (l.length - n) (by omega) k at_ n a b c av _ (by omega) (by omega) (by omega) hb hll hgg
  refine ⟨r2, ?_, hR2⟩
  rw [qhb.l0, if_pos h1, if_pos h0, rdR l nx hil, if_pos hu, hr, Option.bind_some, if_pos hkl2, hrn]
  exact hr2
 ·refine ⟨(a, b, c, av, ks, (nx : Int)), ?_, ⟨nx, rfl, ha, by omega⟩, hb, hg⟩
  rw [qhb.l0, if_pos h1, if_pos h0, rdR l nx hil, if_neg hu]
theorem build_all (l : List S46) (hl : l.length ≤ 100) (hs : ∀ p ∈ l, RS p) (D : Nat) : ∀ d, d ≤ D → BuildL l d := by
 induction D with
 | zero =>
  intro d hd
  obtain rfl : d = 0 := by omega
  intro k at_ nx a b c av ks hn hk ha hb hkl hg
  obtain ⟨k, rfl⟩ : ∃ m, k = m + 1 := ⟨k - 1, by omega⟩
  refine ⟨(a, b, c, av, ks, (nx : Int)), ?_, ⟨nx, rfl, ha, by omega⟩, hb, hg⟩
  rw [qhb.l0, if_neg (by omega)]
 | succ D ih =>
  intro d hd
  by_cases hdd : d ≤ D
  ·exact ih d hdd
  ·obtain rfl : d = D + 1 := by omega
   exact build_l l hl D (build_f l hl hs D (ih D (Nat.le_refl _))) ih
theorem build_spec (l : List S46) (hl : l.length ≤ 100) (hs : ∀ p ∈ l, RS p) (h0 : 0 < l.length) (k : Nat) (hk : 2 * l.length ≤ k) : ∃ r, qhb.f k l 0 = some r ∧ r.2.1.size ≤ 1000000 ∧ ∀ m, ∀ y ∈ r.2.2.2.2.1, Good m y := by
 obtain ⟨d, hd⟩ : ∃ d, l.length = d + 1 := ⟨l.length - 1, by omega⟩
 obtain ⟨r, hr, _, h1, h2⟩ := build_f l hl hs d (build_all l hl hs d d (Nat.le_refl _)) k 0 (by omega) (by omega) (by omega)
 exact ⟨r, hr, h1, h2⟩
theorem attrs_l0 (x : List S48) (d : Nat) : ∀ (k i : Nat), i + d = 64 → 3 * d + 45 ≤ k → ∃ r, qr.l0 k x x (x.length : Int) (i : Int) = some r := by
 induction d with
 | zero =>
  intro k i hi hk
  obtain ⟨k, rfl⟩ : ∃ m, k = m + 1 := ⟨k - 1, by omega⟩
  have h0 : (0 : Int) ≤ (i : Int) := Int.natCast_nonneg i
  by_cases h1 : (i : Int) < (x.length : Int)
  ·refine ⟨((i : Int), 12), ?_⟩
   rw [qr.l0, if_pos h1, if_pos h0, if_pos h1, if_pos (by omega)]
  ·refine ⟨(0, 0), ?_⟩
   rw [qr.l0, if_neg h1]
 | succ d ih =>
  intro k i hi hk
  obtain ⟨k, rfl⟩ : ∃ m, k = m + 3 := ⟨k - 3, by omega⟩
  have h0 : (0 : Int) ≤ (i : Int) := Int.natCast_nonneg i
  by_cases h1 : (i : Int) < (x.length : Int)
  ·have h64 : ¬ (i : Int) = 64 := by omega
   have hw : wrap64 ((i : Int) + 1) = ((i + 1 : Nat) : Int) := w64 (by omega) (by omega)
   obtain ⟨r, hr⟩ := ih k (i + 1) (by omega) (by omega)
   have hj2 : ∀ b, ∃ r, qr.j2 (k + 1) x (i : Int) 0 x (x.length : Int) (i : Int) b = some r := by
    intro b
    cases b
    ·refine ⟨r, ?_⟩
     rw [qr.j2, if_neg (by decide), if_pos rfl, hw]
     exact hr
    ·refine ⟨((i : Int), 9), ?_⟩
     rw [qr.j2, if_pos rfl]
   have hj1 : ∀ b n v, ∃ r, qr.j1 (k + 2) x (i : Int) 0 x (x.length : Int) (i : Int) b n v = some r := by
    intro b n v
    cases b
    ·by_cases hi0 : (i : Int) > 0
     ·have e1 : wrap64 ((i : Int) - 1) = ((i - 1 : Nat) : Int) := by rw [w64 (by omega) (by omega)]; omega
      obtain ⟨r2, hr2⟩ := hj2 (!(Op.bytesLess (((qy x ((i - 1 : Nat) : Int)).f0).toList) n.toList || (((qy x ((i - 1 : Nat) : Int)).f0).toList) == n.toList))
      refine ⟨r2, ?_⟩
      rw [qr.j1, if_neg (by decide), if_pos hi0, e1, if_pos (by omega), if_pos (by omega)]
      exact hr2
     ·obtain ⟨r2, hr2⟩ := hj2 false
      refine ⟨r2, ?_⟩
      rw [qr.j1, if_neg (by decide), if_neg hi0]
      exact hr2
    ·refine ⟨((i : Int), 10), ?_⟩
     rw [qr.j1, if_pos rfl]
   rw [qr.l0, if_pos h1, if_pos h0, if_pos h1, if_neg h64, name_spec _ _ (by omega), Option.bind_some]
   cases nm nameO (qy x (i : Int)).f0.data.toList
   ·exact ⟨_, rfl⟩
   ·simp only [qnb.f, Option.bind_some, if_true]
    cases decide (((qy x (i : Int)).f1.size : Int) ≤ 65536)
    ·exact ⟨_, rfl⟩
    ·simp only [if_true]
     by_cases hi0 : (i : Int) > 0
     ·have e1 : wrap64 ((i : Int) - 1) = ((i - 1 : Nat) : Int) := by rw [w64 (by omega) (by omega)]; omega
      rw [if_pos hi0, e1, if_pos (by omega), if_pos (by omega)]
      exact hj1 _ _ _
     ·rw [if_neg hi0]
      exact hj1 _ _ _
  ·refine ⟨(0, 0), ?_⟩
   rw [qr.l0, if_neg h1]
theorem wrong_spec (k : Nat) (hk : 300 ≤ k) (x : S84) : ∃ e, vtree_wrong.f k x.f0 x.f1 x.f2 x.f3 x.f4 = some e := by
 obtain ⟨r, hr⟩ := attrs_l0 x.f3 64 k 0 (by omega) (by omega)
 unfold vtree_wrong.f
 rw [tag_spec _ k (by omega), Option.bind_some]
 cases nm tagO x.f0.data.toList
 ·exact ⟨7, rfl⟩
 ·simp only [qnb.f, Option.bind_some, if_true]
  cases decide ((x.f1.size : Int) ≤ 65536)
  ·exact ⟨3, rfl⟩
  ·cases decide ((x.f2.size : Int) ≤ 65536)
   ·exact ⟨3, rfl⟩
   ·refine ⟨r.2, ?_⟩
    have : qr.f k x.f3 = some r := hr
    rw [if_pos rfl, if_pos rfl, this]
    rfl
def VRes (nu : Int) (met : List ByteArray) (t : Bool × Int × Int × Int × List ByteArray) : Prop := nu ≤ t.2.1 ∧ t.2.1 ≤ 4096 ∧ (t.1 = true → nu + 1 ≤ t.2.1) ∧ t.2.2.2.2.length ≤ met.length + 1
theorem kids_spec (m : Nat) {v : S84 → Int → Int → List ByteArray → Option (Bool × Int × Int × Int × List ByteArray)}
  (hv : ∀ y nu de met, Good m y → 0 ≤ nu → nu ≤ 4096 → (met.length : Int) ≤ nu → ∃ t, v y nu de met = some t ∧ VRes nu met t) :
  ∀ (l : List S84) (nu de er : Int) (met : List ByteArray), (∀ y ∈ l, Good m y) → 0 ≤ nu → nu ≤ 4096 → (met.length : Int) ≤ nu → ∃ t, qz.kids v l nu de er met = some t ∧ nu ≤ t.2.1 ∧ t.2.1 ≤ 4096
 | [], nu, de, er, met, _, _, h2, _ => ⟨(true, nu, de, er), rfl, Int.le_refl _, h2⟩
 | y :: r, nu, de, er, met, hg, h1, h2, h3 => by
  obtain ⟨t, ht, a1, a2, a3, a4⟩ := hv y nu de met (hg y (List.mem_cons_self ..)) h1 h2 h3
  unfold qz.kids
  rw [ht, Option.bind_some]
  by_cases hb : t.1 = true
  ·have a5 := a3 hb
   obtain ⟨u, hu, b1, b2⟩ := kids_spec m hv r t.2.1 t.2.2.1 t.2.2.2.1 t.2.2.2.2 (fun z hz => hg z (List.mem_cons_of_mem _ hz)) (by omega) a2 (by omega)
   refine ⟨u, ?_, by omega, b2⟩
   rw [if_pos hb]
   exact hu
  ·refine ⟨(false, t.2.1, t.2.2.1, t.2.2.2.1), ?_, a1, a2⟩
   rw [if_neg hb]
theorem visit_spec (m : Nat) : ∀ (k : Nat) (x : S84) (d nu de : Int) (met : List ByteArray), 0 ≤ d → d + (m : Int) = 66 → 301 + m ≤ k → Good m x → 0 < m → 0 ≤ nu → nu ≤ 4096 → (met.length : Int) ≤ nu → ∃ t, qz.visit k x d nu de met = some t ∧ VRes nu met t := by
 induction m with
 | zero => intro k x d nu de met _ _ _ _ h; omega
 | succ m ih =>
  intro k x d nu de met hd hdm hk hg _ h1 h2 h3
  obtain ⟨k, rfl⟩ : ∃ m, k = m + 1 := ⟨k - 1, by omega⟩
  obtain ⟨g1, g2⟩ := hg
  unfold qz.visit
  rw [if_pos ⟨h1, h2, hd, by omega, by omega, by omega⟩]
  obtain ⟨e, he, hee⟩ : ∃ e, (if nu = 4096 then some 12 else if d > 64 then some 11 else vtree_wrong.f k x.f0 x.f1 x.f2 x.f3 x.f4) = some e ∧ (e = 0 → nu ≤ 4095 ∧ d ≤ 64) := by
   by_cases c1 : nu = 4096
   ·exact ⟨12, if_pos c1, fun h => by omega⟩
   ·by_cases c2 : d > 64
    ·exact ⟨11, by rw [if_neg c1, if_pos c2], fun h => by omega⟩
    ·obtain ⟨e, he⟩ := wrong_spec k (by omega) x
     exact ⟨e, by rw [if_neg c1, if_neg c2, he], fun _ => by omega⟩
  rw [he, Option.bind_some]
  by_cases c3 : e = 0
  ·obtain ⟨c4, c5⟩ := hee c3
   rw [if_pos c3]
   by_cases c6 : qz.has met x.f1 = true
   ·refine ⟨_, if_pos c6, Int.le_refl _, h2, (fun h => by cases h), ?_⟩
    show met.length ≤ met.length + 1
    omega
   ·have hadd : (qz.add met x.f1).length ≤ met.length + 1 := by
     unfold qz.add
     by_cases c7 : x.f1.data.toList = []
     ·rw [if_pos c7]; omega
     ·rw [if_neg c7, List.length_append]; simp
    obtain ⟨t, ht, b1, b2⟩ := kids_spec m (v := fun y a b q => qz.visit k y (d + 1) a b q) (fun y a b q hy q1 q2 q3 => ih k y (d + 1) a b q (by omega) (by omega) (by omega) hy (by omega) q1 q2 q3) x.f4 (nu + 1) (mx de d) 0 [] g2 (by omega) (by omega) (by simp; omega)
    refine ⟨_, by rw [if_neg c6, ht, Option.bind_some], ?_, b2, fun _ => b1, hadd⟩
    show nu ≤ t.2.1
    omega
  ·refine ⟨_, if_neg c3, Int.le_refl _, h2, (fun h => by cases h), ?_⟩
   show met.length ≤ met.length + 1
   omega
theorem tree_j0 (l : List S46) (hl : l.length ≤ 100) (hs : ∀ p ∈ l, RS p) (h0 : 0 < l.length) : ∀ k, 1000 ≤ k → ∃ r, qub.j0 (k + 1) l = some r := by
 intro k hk
 obtain ⟨r, hr, h1, h2⟩ := build_spec l hl hs h0 k (by omega)
 obtain ⟨t, ht, _⟩ := visit_spec 65 k ⟨r.1, r.2.1, r.2.2.1, r.2.2.2.1, r.2.2.2.2.1⟩ 1 0 0 [] (by omega) (by omega) (by omega) ⟨h1, fun y hy => h2 64 y hy⟩ (by omega) (by omega) (by omega) (by simp)
 rw [qub.j0, hr, Option.bind_some, vtree_Check.f, qz.f, ht]
 simp only [Option.bind_some]
 by_cases hz : t.2.2.2.1 = 0
 ·rw [if_pos hz]
  exact ⟨_, rfl⟩
 ·rw [if_neg hz, Option.bind_some, if_neg hz]
  exact ⟨_, rfl⟩
theorem flat_total (l : List S46) (hl : l.length ≤ 100) (hs : ∀ p ∈ l, RS p) : ∃ e, Ev (fun k => qmb.f k l) e ∧ (e = 0 → Ups l l.length) := by
 have hm := fun k => qmb.mono l k
 by_cases h0 : (l.length : Int) = 0
 ·refine ⟨0, Ev.of (g := fun k => qmb.f k l) hm (k := 0) (by rw [qmb.f, if_pos h0]), fun _ j h => by omega⟩
 ·obtain ⟨b, ⟨K, hb⟩, hbu⟩ := formed_spec l hl
  cases b
  ·refine ⟨2, Ev.of (g := fun k => qmb.f k l) hm (k := K) (by rw [qmb.f, if_neg h0, qub.f, if_neg h0, show qdb.f K l = some false from hb K (Nat.le_refl _)]; rfl), fun h => by cases h⟩
  ·have hu := hbu rfl
   obtain ⟨b2, K2, hb2⟩ := deep_spec l hl hu
   obtain ⟨n, hn0, K3, hn⟩ := cut_spec l hl hu
   have hlt : (l.take n).length ≤ 100 := by rw [List.length_take]; omega
   have hlp : 0 < (l.take n).length := by rw [List.length_take]; have := hn0 (by omega); omega
   obtain ⟨r1, hr1⟩ := tree_j0 l hl hs (by omega) (K + K2 + K3 + 1000) (by omega)
   obtain ⟨r2, hr2⟩ := tree_j0 (l.take n) hlt (fun p hp => hs p (List.mem_of_mem_take hp)) hlp (K + K2 + K3 + 1000) (by omega)
   cases b2
   ·refine ⟨r1.2.2.2.2.2, Ev.of (g := fun k => qmb.f k l) hm (k := K + K2 + K3 + 1000 + 1) ?_, fun _ => hu⟩
    rw [qmb.f, if_neg h0, qub.f, if_neg h0, show qdb.f (K + K2 + K3 + 1000 + 1) l = some true from hb _ (by omega), Option.bind_some, if_pos rfl, show qsb.f (K + K2 + K3 + 1000 + 1) l = some false from hb2 _ (by omega), Option.bind_some, if_neg (by decide), hr1]
    rfl
   ·refine ⟨r2.2.2.2.2.2, Ev.of (g := fun k => qmb.f k l) hm (k := K + K2 + K3 + 1000 + 1) ?_, fun _ => hu⟩
    rw [qmb.f, if_neg h0, qub.f, if_neg h0, show qdb.f (K + K2 + K3 + 1000 + 1) l = some true from hb _ (by omega), Option.bind_some, if_pos rfl, show qsb.f (K + K2 + K3 + 1000 + 1) l = some true from hb2 _ (by omega), Option.bind_some, if_pos rfl, show qxb.f (K + K2 + K3 + 1000 + 1) l = some (l.take n) from hn _ (by omega), Option.bind_some, hr2]
    rfl
theorem find_l0 (x : List S48) (s : ByteArray) (hx : x.length ≤ 1000) (d : Nat) : ∀ (k i : Nat) (x6 : Int), i + d = x.length → d < k → ∃ r, attrs_find.l0 k x s x6 x (x.length : Int) (i : Int) = some r ∧ (r.2 = true → 0 ≤ r.1 ∧ r.1 < (x.length : Int)) := by
 induction d with
 | zero =>
  intro k i x6 hi hk
  obtain ⟨k, rfl⟩ : ∃ m, k = m + 1 := ⟨k - 1, by omega⟩
  refine ⟨(x6, false), ?_, fun h => by cases h⟩
  rw [attrs_find.l0, if_neg (by omega)]
 | succ d ih =>
  intro k i x6 hi hk
  obtain ⟨k, rfl⟩ : ∃ m, k = m + 1 := ⟨k - 1, by omega⟩
  have hil : i < x.length := by omega
  have h0 : (0 : Int) ≤ (i : Int) := Int.natCast_nonneg i
  have h1 : (i : Int) < (x.length : Int) := Int.ofNat_lt.2 hil
  have hw : wrap64 ((i : Int) + 1) = ((i + 1 : Nat) : Int) := w64 (by omega) (by omega)
  rw [attrs_find.l0, if_pos h1, if_pos h0, if_pos h1, hw]
  by_cases c1 : ((qy x (i : Int)).f0).toList = s.toList
  ·exact ⟨((i : Int), true), by rw [if_pos c1], fun _ => ⟨h0, h1⟩⟩
  ·rw [if_neg c1]
   by_cases c2 : x6 < (x.length : Int)
   ·rw [if_pos c2]
    exact ih k (i + 1) x6 (by omega) (by omega)
   ·rw [if_neg c2]
    by_cases c3 : Op.bytesLess (((qy x (i : Int)).f0).toList) s.toList = true
    ·rw [if_pos c3]
     exact ih k (i + 1) x6 (by omega) (by omega)
    ·rw [if_neg c3]
     exact ih k (i + 1) (i : Int) (by omega) (by omega)
theorem get_spec (x : List S48) (s : ByteArray) (hx : x.length ≤ 1000) : ∃ v, attrs_Get.f (x.length + 2) x s = some v := by
 obtain ⟨r, hr, hr1⟩ := find_l0 x s hx x.length (x.length + 2) 0 (x.length : Int) (by omega) (by omega)
 have hf : attrs_find.f (x.length + 2) x s = some r := hr
 rw [attrs_Get.f, hf, Option.bind_some]
 by_cases hb : r.2 = true
 ·obtain ⟨a, b⟩ := hr1 hb
  rw [if_pos hb, if_pos a, if_pos b]
  exact ⟨_, rfl⟩
 ·rw [if_neg hb]
  exact ⟨_, rfl⟩
def badB (x : List S48) (c : S33) : Bool := (qrb.bad x c).getD false
theorem bad_spec (x : List S48) (hx : x.length ≤ 1000) (c : S33) : qrb.bad x c = some (badB x c) := by
 obtain ⟨v, hv⟩ := get_spec x c.f0 hx
 unfold badB qrb.bad
 rw [hv]
 rfl
theorem hasIdx_spec (x : List S48) (hx : x.length ≤ 1000) : ∀ (l : List S33) (i : Int), 0 ≤ i → ∃ j, qrb.idx x l i = some j ∧ (decide (0 ≤ j) = l.any (badB x))
 | [], i, hi => ⟨-1, rfl, rfl⟩
 | c :: r, i, hi => by
  unfold qrb.idx
  rw [bad_spec x hx c]
  simp only [Option.bind_some, List.any_cons]
  cases badB x c
  ·obtain ⟨j, hj, he⟩ := hasIdx_spec x hx r (i + 1) (by omega)
   exact ⟨j, by simpa using hj, by simpa using he⟩
  ·exact ⟨i, rfl, by simp [hi]⟩
def hasB (p : S41) (x : S46) : Bool := !(((p.f2.toList != []) && (p.f2.toList != x.f2.toList)) || (p.f1 && (p.f3.toList != x.f3.toList))) && !(p.f4.any (badB x.f5))
theorem has_spec (p : S41) (x : S46) (hx : x.f5.length ≤ 1000) : qrb.f p x = some (hasB p x) := by
 obtain ⟨j, hj, he⟩ := hasIdx_spec x.f5 hx p.f4 0 (Int.le_refl _)
 unfold qrb.f hasB
 cases (((p.f2.toList != []) && (p.f2.toList != x.f2.toList)) || (p.f1 && (p.f3.toList != x.f3.toList)))
 ·rw [if_neg (by decide), hj, Option.bind_some, he]
  rfl
 ·rw [if_pos rfl]
  rfl
def LeB (a b : List Bool) : Prop := a.length = b.length ∧ ∀ i : Nat, a.getD i false = true → b.getD i false = true
theorem LeB.refl (a : List Bool) : LeB a a := ⟨rfl, fun _ h => h⟩
theorem LeB.cons {x y : Bool} {a b : List Bool} (h : LeB a b) (e : x = true → y = true) : LeB (x :: a) (y :: b) := by
 refine ⟨by simp [h.1], fun i hi => ?_⟩
 cases i with
 | zero => simpa using e (by simpa using hi)
 | succ i => simpa using h.2 i (by simpa using hi)
theorem zip_getD : ∀ (a b : List Bool), a.length = b.length → ∀ i : Nat, (List.zipWith (· || ·) a b).getD i false = (a.getD i false || b.getD i false)
 | [], [], _, i => by simp
 | x :: a, y :: b, h, 0 => by simp
 | x :: a, y :: b, h, i + 1 => by
  have := zip_getD a b (by simpa using h) i
  simpa using this
theorem LeB.zip {a a2 b b2 : List Bool} (h : LeB a a2) (g : LeB b b2) (e : a.length = b.length) : LeB (List.zipWith (· || ·) a b) (List.zipWith (· || ·) a2 b2) := by
 have e2 : a2.length = b2.length := by rw [← h.1, ← g.1, e]
 refine ⟨by simp [h.1, g.1], fun i hi => ?_⟩
 rw [zip_getD a b e, Bool.or_eq_true] at hi
 rw [zip_getD a2 b2 e2, Bool.or_eq_true]
 exact hi.imp (h.2 i) (g.2 i)
theorem LeB.zip_right {a b : List Bool} (e : a.length = b.length) : LeB b (List.zipWith (· || ·) a b) := by
 refine ⟨by simp [e], fun i hi => ?_⟩
 rw [zip_getD a b e, hi, Bool.or_true]
def Asks (p q : S41) : Prop := (∀ x : S46, hasB p x = true → hasB q x = true) ∧ (p.f0 = false → q.f0 = false)
inductive AsksL : List S41 → List S41 → Prop
 | nil : AsksL [] []
 | cons {p q l m} (h : Asks p q) (t : AsksL l m) : AsksL (p :: l) (q :: m)
theorem AsksL.len {l m : List S41} (h : AsksL l m) : l.length = m.length := by
 induction h with
 | nil => rfl
 | cons _ _ ih => simp [ih]
theorem row_mono (x : S46) (hx : x.f5.length ≤ 1000) {o o2 a a2 : List Bool} (ho : LeB o o2) (ha : LeB a a2) (hoa : LeB o a) (hoa2 : LeB o2 a2) {l m : List S41} (h : AsksL l m) :
  ∀ k : Nat, ∃ t t2, qtb.row x o a l k = some t ∧ qtb.row x o2 a2 m k = some t2 ∧ LeB t t2 ∧ t.length = l.length := by
 induction h with
 | nil => exact fun k => ⟨[], [], rfl, rfl, LeB.refl _, rfl⟩
 | @cons p q l m h t ih =>
  intro k
  obtain ⟨u, u2, hu, hu2, hl, hn⟩ := ih (k + 1)
  obtain ⟨h1, h2⟩ := h
  unfold qtb.row
  rw [has_spec p x hx, has_spec q x hx, hu, hu2]
  refine ⟨_, _, rfl, rfl, hl.cons ?_, by simp [hn]⟩
  intro e
  rw [Bool.and_eq_true, Bool.or_eq_true] at e ⊢
  refine ⟨h1 x e.1, e.2.imp id (fun e2 => ?_)⟩
  cases hp : p.f0
  ·rw [hp, if_neg (by decide)] at e2
   rw [h2 hp, if_neg (by decide)]
   exact ha.2 _ e2
  ·rw [hp, if_pos rfl] at e2
   cases hq : q.f0
   ·rw [if_neg (by decide)]
    exact ha.2 _ (hoa.2 _ e2)
   ·rw [if_pos rfl]
    exact ho.2 _ e2
structure Wide (n c : Nat) (o a o2 a2 : List (List Bool)) : Prop where
 lo : o.length = c
 la : a.length = c
 lo2 : o2.length = c
 la2 : a2.length = c
 oo : ∀ i, i < c → LeB (o.getD i []) (o2.getD i [])
 aa : ∀ i, i < c → LeB (a.getD i []) (a2.getD i [])
 oa : ∀ i, i < c → LeB (o.getD i []) (a.getD i [])
 oa2 : ∀ i, i < c → LeB (o2.getD i []) (a2.getD i [])
 wid : ∀ i, i < c → (o.getD i []).length = n
theorem getD_app {α : Type} (l : List α) (x d : α) (i : Nat) : (l ++ [x]).getD i d = if i < l.length then l.getD i d else if i = l.length then x else d := by
 rw [List.getD_eq_getElem?_getD, List.getElem?_append]
 by_cases h : i < l.length
 ·rw [if_pos h, if_pos h, List.getD_eq_getElem?_getD]
 ·rw [if_neg h, if_neg h]
  by_cases h2 : i = l.length
  ·rw [if_pos h2, h2, Nat.sub_self]
   rfl
  ·rw [if_neg h2]
   obtain ⟨m, hm⟩ : ∃ m, i - l.length = m + 1 := ⟨i - l.length - 1, by omega⟩
   rw [hm]
   rfl
theorem Wide.snoc {n c : Nat} {o a o2 a2 : List (List Bool)} (h : Wide n c o a o2 a2) {t t2 u u2 : List Bool} (ht : LeB t t2) (hu : LeB u u2) (hl : t.length = n) (e1 : LeB t u) (e2 : LeB t2 u2) : Wide n (c + 1) (o ++ [t]) (a ++ [u]) (o2 ++ [t2]) (a2 ++ [u2]) := by
 have step : ∀ {p q : List (List Bool)} {x y : List Bool}, p.length = c → q.length = c → (∀ i, i < c → LeB (p.getD i []) (q.getD i [])) → LeB x y → ∀ i, i < c + 1 → LeB ((p ++ [x]).getD i []) ((q ++ [y]).getD i []) := by
  intro p q x y hp hq hpq hxy i hi
  rw [getD_app, getD_app, hp, hq]
  by_cases hic : i < c
  ·rw [if_pos hic, if_pos hic]
   exact hpq i hic
  ·rw [if_neg hic, if_neg hic, if_pos (by omega), if_pos (by omega)]
   exact hxy
 refine ⟨by simp [h.lo], by simp [h.la], by simp [h.lo2], by simp [h.la2], step h.lo h.lo2 h.oo ht, step h.la h.la2 h.aa hu, step h.lo h.la h.oa e1, step h.lo2 h.la2 h.oa2 e2, fun i hi => ?_⟩
 rw [getD_app, h.lo]
 by_cases hic : i < c
 ·rw [if_pos hic]
  exact h.wid i hic
 ·rw [if_neg hic, if_pos (by omega)]
  exact hl
theorem go_mono {l m : List S41} (h : AsksL l m) : ∀ (rows : List S46) (c : Nat) (o a o2 a2 : List (List Bool)), Wide l.length c o a o2 a2 →
  (∀ j, (hj : j < rows.length) → 0 ≤ rows[j].f1 ∧ rows[j].f1 < ((c + j : Nat) : Int)) → (∀ x ∈ rows, x.f5.length ≤ 1000) →
  ∃ r r2, qtb.go l rows o a = some r ∧ qtb.go m rows o2 a2 = some r2 ∧ r.length = c + rows.length ∧ r2.length = c + rows.length ∧ ∀ i, i < c + rows.length → LeB (r.getD i []) (r2.getD i []) ∧ (r.getD i []).length = l.length
 | [], c, o, a, o2, a2, w, _, _ => ⟨o, o2, rfl, rfl, by simpa using w.lo, by simpa using w.lo2, fun i hi => ⟨w.oo i (by simpa using hi), w.wid i (by simpa using hi)⟩⟩
 | x :: r, c, o, a, o2, a2, w, hu, hx => by
  obtain ⟨u1, u2⟩ : 0 ≤ x.f1 ∧ x.f1 < ((c + 0 : Nat) : Int) := hu 0 (by simp)
  have hi : x.f1.toNat < c := by omega
  obtain ⟨t, t2, ht, ht2, hl, hn⟩ := row_mono x (hx x (List.mem_cons_self ..)) (w.oo _ hi) (w.aa _ hi) (w.oa _ hi) (w.oa2 _ hi) h 0
  have ea : (a.getD x.f1.toNat []).length = t.length := by rw [← (w.oa _ hi).1, w.wid _ hi, hn]
  have ea2 : (a2.getD x.f1.toNat []).length = t2.length := by rw [← (w.aa _ hi).1, ea, hl.1]
  have w2 := w.snoc hl ((w.aa _ hi).zip hl ea) hn (LeB.zip_right ea) (LeB.zip_right ea2)
  obtain ⟨s, s2, hs, hs2, hsl, hsl2, hss⟩ := go_mono h r (c + 1) _ _ _ _ w2 (fun j hj => by
   have := hu (j + 1) (by simpa using hj)
   simpa [Nat.add_assoc, Nat.add_comm 1 j] using this) (fun y hy => hx y (List.mem_cons_of_mem _ hy))
  refine ⟨s, s2, ?_, ?_, by simp only [List.length_cons]; omega, by simp only [List.length_cons]; omega, fun i hi2 => hss i (by simp only [List.length_cons] at hi2; omega)⟩
  ·unfold qtb.go
   rw [if_pos ⟨u1, by rw [w.lo]; omega⟩, ht, Option.bind_some]
   exact hs
  ·unfold qtb.go
   rw [if_pos ⟨u1, by rw [w.lo2]; omega⟩, ht2, Option.bind_some]
   exact hs2
theorem fits_mono {l m : List S41} (h : AsksL l m) (h0 : 0 < l.length) (h1 : l.length ≤ 1000) (rows : List S46) (hr : rows.length ≤ 100) (hu : Ups rows rows.length) (hx : ∀ x ∈ rows, RS x) :
  ∃ r r2, qtb.f l rows = some r ∧ qtb.f m rows = some r2 ∧ r.length = rows.length + 1 ∧ r2.length = rows.length + 1 ∧ ∀ i, i < rows.length + 1 → LeB (r.getD i []) (r2.getD i []) ∧ (r.getD i []).length = l.length := by
 have hm := h.len
 have e : (List.replicate m.length false : List Bool) = List.replicate l.length false := by rw [hm]
 obtain ⟨r, r2, g1, g2, g3, g4, g5⟩ := go_mono h rows 1 [List.replicate l.length false] [List.replicate l.length false] [List.replicate l.length false] [List.replicate l.length false]
  ⟨rfl, rfl, rfl, rfl, fun i _ => LeB.refl _, fun i _ => LeB.refl _, fun i _ => LeB.refl _, fun i _ => LeB.refl _, fun i hi => by
   obtain rfl : i = 0 := by omega
   simp⟩ (fun j hj => by
   obtain ⟨a, b⟩ := hu j hj hj
   exact ⟨a, by omega⟩) (fun x hxx => by
   have := (hx x hxx).2
   omega)
 refine ⟨r, r2, ?_, ?_, by omega, by omega, fun i hi => g5 i (by omega)⟩
 ·unfold qtb.f
  rw [if_pos ⟨h0, by omega, by omega⟩]
  exact g1
 ·unfold qtb.f
  rw [if_pos ⟨by omega, by omega, by omega⟩, e]
  exact g2
theorem find_loop (l : List S41) (h0 : 0 < l.length) (h1 : l.length ≤ 1000) (ft : List (List Bool)) (hf : ft.length ≤ 1000) (hw : ∀ i, i < ft.length → (ft.getD i []).length = l.length) (d : Nat) :
  ∀ (i : Nat) (acc : List Int), i + d = ft.length → acc.length ≤ i → ∃ r, Ev (fun k => qu.l0 k l acc ft (ft.length : Int) (i : Int)) r ∧ r.length ≤ ft.length ∧ ∀ v, v ∈ r ↔ (v ∈ acc ∨ ∃ j : Nat, v = (j : Int) ∧ i ≤ j ∧ j < ft.length ∧ (ft.getD j []).getD (l.length - 1) false = true) := by
 induction d with
 | zero =>
  intro i acc hi ha
  refine ⟨acc, Ev.step (fun k => ?_) (Ev.now acc), by omega, fun v => ⟨.inl, fun h => ?_⟩⟩
  ·rw [qu.l0, if_neg (by omega)]
  ·rcases h with h | ⟨j, _, a, b, _⟩
   ·exact h
   ·omega
 | succ d ih =>
  intro i acc hi ha
  have hil : i < ft.length := by omega
  have i0 : (0 : Int) ≤ (i : Int) := Int.natCast_nonneg i
  have i1 : (i : Int) < (ft.length : Int) := Int.ofNat_lt.2 hil
  have wi : wrap64 ((i : Int) + 1) = ((i + 1 : Nat) : Int) := w64 (by omega) (by omega)
  have wn : wrap64 ((l.length : Int) - 1) = ((l.length - 1 : Nat) : Int) := (w64 (by omega) (by omega)).trans (by omega)
  have n0 : (0 : Int) ≤ ((l.length - 1 : Nat) : Int) := Int.natCast_nonneg _
  have hrd : rd_L12 ft (i : Int) = ft.getD i [] := rfl
  have n1 : ((l.length - 1 : Nat) : Int) < ((rd_L12 ft (i : Int)).length : Int) := by rw [hrd, hw i hil]; omega
  have hro : rdOf false (rd_L12 ft (i : Int)) ((l.length - 1 : Nat) : Int) = (ft.getD i []).getD (l.length - 1) false := rfl
  by_cases hb : (ft.getD i []).getD (l.length - 1) false = true
  ·obtain ⟨r, hr, hrl, hm⟩ := ih (i + 1) (acc ++ [(i : Int)]) (by omega) (by simp; omega)
   refine ⟨r, Ev.step (fun k => ?_) hr, hrl, fun v => ?_⟩
   ·rw [qu.l0, if_pos i1, if_pos i0, if_pos i1, wn, if_pos n0, if_pos n1, hro, if_pos hb, if_pos (by omega), wi]
   ·rw [hm v]
    constructor
    ·rintro (h | ⟨j, a, b, c, e⟩)
     ·rcases List.mem_append.1 h with h | h
      ·exact .inl h
      ·exact .inr ⟨i, List.mem_singleton.1 h, Nat.le_refl _, hil, hb⟩
     ·exact .inr ⟨j, a, by omega, c, e⟩
    ·rintro (h | ⟨j, a, b, c, e⟩)
     ·exact .inl (List.mem_append_left _ h)
     ·by_cases hj : j = i
      ·exact .inl (List.mem_append_right _ (by rw [a, hj]; exact List.mem_singleton.2 rfl))
      ·exact .inr ⟨j, a, by omega, c, e⟩
  ·obtain ⟨r, hr, hrl, hm⟩ := ih (i + 1) acc (by omega) (by omega)
   refine ⟨r, Ev.step (fun k => ?_) hr, hrl, fun v => ?_⟩
   ·rw [qu.l0, if_pos i1, if_pos i0, if_pos i1, wn, if_pos n0, if_pos n1, hro, if_neg hb, wi]
   ·rw [hm v]
    constructor
    ·rintro (h | ⟨j, a, b, c, e⟩)
     ·exact .inl h
     ·exact .inr ⟨j, a, by omega, c, e⟩
    ·rintro (h | ⟨j, a, b, c, e⟩)
     ·exact .inl h
     ·by_cases hj : j = i
      ·subst hj; exact absurd e hb
      ·exact .inr ⟨j, a, by omega, c, e⟩
theorem has_l0 (x : List Int) (v : Int) (hx : x.length ≤ 1000) (d : Nat) : ∀ i : Nat, i + d = x.length → Ev (fun k => qzb.l0 k x v (x.length : Int) (i : Int)) (decide (v ∈ x.drop i)) := by
 induction d with
 | zero =>
  intro i hi
  rw [List.drop_eq_nil_of_le (by omega)]
  refine Ev.step (fun k => ?_) (Ev.now _)
  rw [qzb.l0, if_neg (by omega)]
  rfl
 | succ d ih =>
  intro i hi
  have hil : i < x.length := by omega
  have i0 : (0 : Int) ≤ (i : Int) := Int.natCast_nonneg i
  have i1 : (i : Int) < (x.length : Int) := Int.ofNat_lt.2 hil
  have wi : wrap64 ((i : Int) + 1) = ((i + 1 : Nat) : Int) := w64 (by omega) (by omega)
  have hrd : rd x (i : Int) = x[i] := by
   unfold rd
   rw [Int.toNat_natCast, List.getD_eq_getElem?_getD, List.getElem?_eq_getElem hil]
   rfl
  rw [List.drop_eq_getElem_cons hil]
  by_cases hv : x[i] = v
  ·have e : decide (v ∈ x[i] :: x.drop (i + 1)) = true := decide_eq_true (List.mem_cons.2 (.inl hv.symm))
   rw [e]
   refine Ev.step (fun k => ?_) (Ev.now true)
   rw [qzb.l0, if_pos i1, if_pos i0, if_pos i1, hrd, if_pos hv]
  ·have e : decide (v ∈ x[i] :: x.drop (i + 1)) = decide (v ∈ x.drop (i + 1)) := decide_eq_decide.2 ⟨fun h => (List.mem_cons.1 h).resolve_left (Ne.symm hv), List.mem_cons_of_mem _⟩
   rw [e]
   refine Ev.step (fun k => ?_) (ih (i + 1) (by omega))
   rw [qzb.l0, if_pos i1, if_pos i0, if_pos i1, hrd, if_neg hv, wi]
theorem Has_spec (x : List Int) (v : Int) (hx : x.length ≤ 1000) : Ev (fun k => qzb.f k x v) (decide (v ∈ x)) := has_l0 x v hx x.length 0 (by omega)
theorem find_no (l : List S41) (rows : List S46) (h : selOK l = false) : Ev (fun k => qu.f k l rows) [] := by
 refine ⟨20, fun k hk => ?_⟩
 obtain ⟨k, rfl⟩ : ∃ m, k = m + 1 := ⟨k - 1, by omega⟩
 show qu.f (k + 1) l rows = some []
 rw [qu.f, check_spec l (k + 1) (by omega), h]
 simp only [Bool.false_eq_true, if_false, Option.bind_some]
 rw [if_neg (by decide), qu.j0, if_pos rfl]
theorem find_bad (l : List S41) (rows : List S46) (e : Int) (he : Ev (fun k => qmb.f k rows) e) (h0 : e ≠ 0) : Ev (fun k => qu.f k l rows) [] := by
 cases h : selOK l
 ·exact find_no l rows h
 ·obtain ⟨K, hK⟩ := he
  refine ⟨K + 20, fun k hk => ?_⟩
  obtain ⟨k, rfl⟩ : ∃ m, k = m + 1 := ⟨k - 1, by omega⟩
  show qu.f (k + 1) l rows = some []
  have hb : (e != 0) = true := by simpa using h0
  rw [qu.f, check_spec l (k + 1) (by omega), h, if_pos rfl, Option.bind_some, if_pos rfl, show qmb.f (k + 1) rows = some e from hK _ (by omega), Option.bind_some, hb, qu.j0, if_pos rfl]
theorem find_yes (l : List S41) (rows : List S46) (he : Ev (fun k => qmb.f k rows) 0) (h : selOK l = true) (ft : List (List Bool)) (hf : qtb.f l rows = some ft) {r : List Int} (hr : Ev (fun k => qu.l0 k l [] ft (ft.length : Int) 0) r) : Ev (fun k => qu.f k l rows) r := by
 obtain ⟨K, hK⟩ := he
 obtain ⟨K2, hK2⟩ := hr
 refine ⟨K + K2 + 20, fun k hk => ?_⟩
 obtain ⟨k, rfl⟩ : ∃ m, k = m + 1 := ⟨k - 1, by omega⟩
 show qu.f (k + 1) l rows = some r
 rw [qu.f, check_spec l (k + 1) (by omega), h, if_pos rfl, Option.bind_some, if_pos rfl, show qmb.f (k + 1) rows = some 0 from hK _ (by omega), Option.bind_some, qu.j0, if_neg (by decide), hf, Option.bind_some]
 exact hK2 _ (by omega)
theorem selOK_parts0 {l : List S41} (h : selOK l = true) : 0 < l.length ∧ l.length ≤ 8 := by
 unfold selOK at h
 simp only [Bool.and_eq_true, decide_eq_true_eq] at h
 refine ⟨?_, h.1.1.2⟩
 cases l with
 | nil => simp at h
 | cons p r => simp
theorem find_two {l m : List S41} (h : AsksL l m) (hlm : selOK l = true → selOK m = true) (rows : List S46) (hr : rows.length ≤ 100) (hx : ∀ x ∈ rows, RS x) (e : Int) (he : Ev (fun k => qmb.f k rows) e) (hu : e = 0 → Ups rows rows.length) {a b : List Int}
  (ha : Ev (fun k => qu.f k l rows) a) (hb : Ev (fun k => qu.f k m rows) b) : ∀ v ∈ a, v ∈ b := by
 intro v hv
 have one : ∀ {g : Nat → Option (List Int)} {x y : List Int}, Ev g x → Ev g y → x = y := fun ⟨K, p⟩ ⟨K2, q⟩ => Option.some.inj ((p (K + K2) (by omega)).symm.trans (q (K + K2) (by omega)))
 cases hs : selOK l
 ·rw [one ha (find_no l rows hs)] at hv
  cases hv
 ·by_cases h0 : e = 0
  ·subst h0
   have hs2 := hlm hs
   obtain ⟨hn1, hn2⟩ := selOK_parts0 hs
   obtain ⟨r, r2, f1, f2, f3, f4, f5⟩ := fits_mono h hn1 (by omega) rows hr (hu rfl) hx
   obtain ⟨x, x1, _, x3⟩ := find_loop l hn1 (by omega) r (by omega) (fun i hi => (f5 i (by omega)).2) r.length 0 [] (by omega) (Nat.zero_le _)
   have hm := h.len
   obtain ⟨y, y1, _, y3⟩ := find_loop m (by omega) (by omega) r2 (by omega) (fun i hi => by rw [← (f5 i (by omega)).1.1, (f5 i (by omega)).2, hm]) r2.length 0 [] (by omega) (Nat.zero_le _)
   rw [one ha (find_yes l rows he hs r f1 x1), x3 v] at hv
   rw [one hb (find_yes m rows he hs2 r2 f2 y1), y3 v]
   rcases hv with hv | ⟨j, c1, c2, c3, c4⟩
   ·cases hv
   ·exact .inr ⟨j, c1, c2, by omega, by rw [← hm]; exact (f5 j (by omega)).1.2 _ c4⟩
  ·rw [one ha (find_bad l rows e he h0)] at hv
   cases hv
def moreP (p : S41) (c : S33) : S41 := ⟨p.f0, p.f1, p.f2, p.f3, p.f4 ++ [c]⟩
def wideP (p : S41) : S41 := ⟨false, p.f1, p.f2, p.f3, p.f4⟩
def moreL (c : S33) : List S41 → List S41
 | [] => []
 | [p] => [moreP p c]
 | p :: q :: r => p :: moreL c (q :: r)
theorem Asks.refl (p : S41) : Asks p p := ⟨fun _ h => h, id⟩
theorem asks_more (p : S41) (c : S33) : Asks (moreP p c) p := by
 refine ⟨fun x h => ?_, id⟩
 unfold hasB moreP at h
 unfold hasB
 rw [List.any_append] at h
 simp only [Bool.and_eq_true, Bool.not_eq_true', Bool.or_eq_false_iff] at h ⊢
 exact ⟨h.1, h.2.1⟩
theorem asks_wide (p : S41) : Asks p (wideP p) := ⟨fun _ h => h, fun _ => rfl⟩
theorem asksL_more (c : S33) : ∀ l, AsksL (moreL c l) l
 | [] => .nil
 | [p] => .cons (asks_more p c) .nil
 | p :: q :: r => .cons (Asks.refl p) (asksL_more c (q :: r))
theorem asksL_wide : ∀ l, AsksL l (l.map wideP)
 | [] => .nil
 | p :: r => .cons (asks_wide p) (asksL_wide r)
theorem partOK_more {p : S41} {c : S33} (h : partOK (moreP p c) = true) : partOK p = true := by
 unfold partOK moreP at h
 unfold partOK
 rw [List.all_append, List.length_append] at h
 simp only [Bool.and_eq_true, decide_eq_true_eq] at h ⊢
 exact ⟨⟨h.1.1, by have := h.1.2; simp at this; omega⟩, h.2.1⟩
theorem all_more (c : S33) : ∀ l, (moreL c l).all partOK = true → l.all partOK = true
 | [], _ => rfl
 | [p], h => by
  simp only [moreL, List.all_cons, List.all_nil, Bool.and_true] at h ⊢
  exact partOK_more h
 | p :: q :: r, h => by
  rw [moreL, List.all_cons, Bool.and_eq_true] at h
  rw [List.all_cons, h.1, Bool.true_and]
  exact all_more c (q :: r) h.2
theorem selOK_more (c : S33) (l : List S41) (h : selOK (moreL c l) = true) : selOK l = true := by
 have hl := (asksL_more c l).len
 have ha := all_more c l
 unfold selOK at h ⊢
 rw [Bool.and_eq_true] at h ⊢
 refine ⟨?_, ha h.2⟩
 have h1 := h.1
 rw [hl] at h1
 match l with
 | [] => exact h1
 | [p] => exact h1
 | p :: q :: r => exact h1
theorem selOK_wide (l : List S41) (h : selOK l = true) : selOK (l.map wideP) = true := by
 unfold selOK at h ⊢
 rw [Bool.and_eq_true] at h ⊢
 have e : (l.map wideP).all partOK = l.all partOK := by
  rw [List.all_map]
  rfl
 rw [e]
 refine ⟨?_, h.2⟩
 have h1 := h.1
 rw [List.length_map]
 match l with
 | [] => exact h1
 | p :: r =>
  simp only [Bool.and_eq_true] at h1 ⊢
  exact ⟨h1.1, rfl⟩
theorem find_total (l : List S41) (rows : List S46) (hr : rows.length ≤ 100) (hx : ∀ x ∈ rows, RS x) (e : Int) (he : Ev (fun k => qmb.f k rows) e) (hu : e = 0 → Ups rows rows.length) : ∃ r, Ev (fun k => qu.f k l rows) r ∧ r.length ≤ 101 := by
 cases hs : selOK l
 ·exact ⟨[], find_no l rows hs, by simp⟩
 ·by_cases h0 : e = 0
  ·subst h0
   obtain ⟨hn1, hn2⟩ := selOK_parts0 hs
   have hrefl : ∀ l : List S41, AsksL l l := fun l => by
    induction l with
    | nil => exact .nil
    | cons p r ih => exact .cons (Asks.refl p) ih
   obtain ⟨r, r2, f1, f2, f3, f4, f5⟩ := fits_mono (hrefl l) hn1 (by omega) rows hr (hu rfl) hx
   obtain ⟨x, x1, x2, x3⟩ := find_loop l hn1 (by omega) r (by omega) (fun i hi => (f5 i (by omega)).2) r.length 0 [] (by omega) (Nat.zero_le _)
   exact ⟨x, find_yes l rows he hs r f1 x1, by omega⟩
  ·exact ⟨[], find_bad l rows e he h0, by simp⟩
end Go.Proofs.YtjbobecnlpiejaaDoor.Q.P
namespace Go.Proofs.YtjbobecnlpiejaaDoor.Q
open Go.Proofs.YtjbobecnlpiejaaDoorZ
open Go.RowKit Go.Proofs.YtjbobecnlpiejaaDoorW.PrintWords Go.Proofs.YtjbobecnlpiejaaDoorW.PrintLast Go.Proofs.YtjbobecnlpiejaaDoorW.PrintMore
attribute [local go_sem] qpb qqb qvb qwb
def qec.f (a0 : ByteArray) (a1 : ByteArray) : Option (Bool) := if (a0.size : Int) ≥ (a1.size : Int) then (if 0 ≤ (a1.size : Int) then (if (a1.size : Int) ≤ (a0.size : Int) then (some ((a0.extract 0 ((a1.size : Int) : Int).toNat).toList == a1.toList)) else (none)) else (none)) else (some false)
set_option maxHeartbeats 8000000 in
set_option maxRecDepth 100000 in
theorem qec.calls (a0 : ByteArray) (a1 : ByteArray) (r : Bool) (w : World) (h : qec.f a0 a1 = some r) :
  Calls Tryd.prog 60 #[.string a0, .string a1] w fun e w' => e = .returned (.bool r) ∧ Drawn0 w w' := by
 have H : (if (a0.size : Int) ≥ (a1.size : Int) then (if 0 ≤ (a1.size : Int) then (if (a1.size : Int) ≤ (a0.size : Int) then (some ((a0.extract 0 ((a1.size : Int) : Int).toNat).toList == a1.toList)) else (none)) else (none)) else (some false)) = some r := h
 clear h
 by_cases c3 : (a0.size : Int) ≥ (a1.size : Int)
 ·rw [if_pos c3] at H
  have c3b0 : decide ((a1.size : Int) ≤ (a0.size : Int)) = true := decide_eq_true c3
  have c3b1 : decide (a1.size ≤ a0.size) = true := decide_eq_true (Int.ofNat_le.mp c3)
  clear c3
  by_cases c4 : 0 ≤ (a1.size : Int)
  ·rw [if_pos c4] at H
   have c4b0 := eq_true c4
   have c4b1 : decide (0 ≤ (a1.size : Int)) = true := decide_eq_true c4
   clear c4
   by_cases c5 : (a1.size : Int) ≤ (a0.size : Int)
   ·rw [if_pos c5] at H
    have c5b0 := eq_true c5
    have c5b1 : decide ((a1.size : Int) ≤ (a0.size : Int)) = true := decide_eq_true c5
    clear c5
    obtain rfl := Option.some.inj H
    go_enter Tryd.func60, Tryd.ntmps60
    go_wp2
    go_ret
    exact ⟨zz6, zz13⟩
   ·rw [if_neg c5] at H
    exact absurd H (by simp)
  ·rw [if_neg c4] at H
   exact absurd H (by simp)
 ·rw [if_neg c3] at H
  have c3b0 : decide ((a1.size : Int) ≤ (a0.size : Int)) = false := decide_eq_false c3
  have c3b1 : decide (a1.size ≤ a0.size) = false := decide_eq_false (fun h => c3 (Int.ofNat_le.mpr h))
  clear c3
  obtain rfl := Option.some.inj H
  go_enter Tryd.func60, Tryd.ntmps60
  go_wp2
  go_ret
  exact ⟨zz6, zz13⟩
def stringslite_CutPrefix.f (a0 : ByteArray) (a1 : ByteArray) : Option (ByteArray × Bool) := (qec.f a0 a1).bind fun t101 => (if t101 = true then (if 0 ≤ (a1.size : Int) then (if (a1.size : Int) ≤ (a0.size : Int) then (some (a0.extract ((a1.size : Int) : Int).toNat a0.size, true)) else (none)) else (none)) else (some (a0, false)))
set_option maxHeartbeats 8000000 in
set_option maxRecDepth 100000 in
theorem stringslite_CutPrefix.calls (a0 : ByteArray) (a1 : ByteArray) (r1 : ByteArray) (r2 : Bool) (w : World) (h : stringslite_CutPrefix.f a0 a1 = some (r1, r2)) :
  Calls Tryd.prog 42 #[.string a0, .string a1] w fun e w' => e = .returned (.tuple #[.string r1, .bool r2]) ∧ Drawn0 w w' := by
 have H : ((qec.f a0 a1).bind fun t101 => (if t101 = true then (if 0 ≤ (a1.size : Int) then (if (a1.size : Int) ≤ (a0.size : Int) then (some (a0.extract ((a1.size : Int) : Int).toNat a0.size, true)) else (none)) else (none)) else (some (a0, false)))) = some (r1, r2) := h
 clear h
 replace H := Option.bind_eq_some_iff.mp H
 obtain ⟨t101, A30, H⟩ := H
 replace H : (if t101 = true then (if 0 ≤ (a1.size : Int) then (if (a1.size : Int) ≤ (a0.size : Int) then (some (a0.extract ((a1.size : Int) : Int).toNat a0.size, true)) else (none)) else (none)) else (some (a0, false))) = some (r1, r2) := H
 have A3 := qa.mk A30
 clear A30
 by_cases c4 : t101 = true
 ·subst c4
  have H1 : (if 0 ≤ (a1.size : Int) then (if (a1.size : Int) ≤ (a0.size : Int) then (some (a0.extract ((a1.size : Int) : Int).toNat a0.size, true)) else (none)) else (none)) = some (r1, r2) := by rw [if_pos rfl] at H; exact H
  clear H
  have H := H1
  clear H1
  by_cases c5 : 0 ≤ (a1.size : Int)
  ·rw [if_pos c5] at H
   have c5b0 := eq_true c5
   have c5b1 : decide (0 ≤ (a1.size : Int)) = true := decide_eq_true c5
   clear c5
   by_cases c6 : (a1.size : Int) ≤ (a0.size : Int)
   ·rw [if_pos c6] at H
    have c6b0 := eq_true c6
    have c6b1 : decide ((a1.size : Int) ≤ (a0.size : Int)) = true := decide_eq_true c6
    clear c6
    simp only [Option.some.injEq, Prod.mk.injEq] at H
    obtain ⟨rfl, rfl⟩ := H
    go_enter Tryd.func42, Tryd.ntmps42
    go_wp2_with (first | ((with_reducible refine qv (f := 60) rfl ?_); refine qob (some 8) rfl rfl Tryd.func60 (by kernel_rfl) rfl #[.string a0, .string a1] rfl zz56 ?_; (with_reducible refine (qec.calls a0 a1 true _ A3.out).mono ?_); rintro e w' ⟨rfl, ⟨nd, rfl⟩⟩; refine ⟨_, rfl, ?_⟩))
    go_ret2
    exact ⟨zz6, zz13⟩
   ·rw [if_neg c6] at H
    exact absurd H (by simp)
  ·rw [if_neg c5] at H
   exact absurd H (by simp)
 ·replace c4 := Bool.eq_false_iff.mpr c4
  subst c4
  have H1 : (some (a0, false)) = some (r1, r2) := by rw [if_neg (show ¬ (false = true) by decide)] at H; exact H
  clear H
  have H := H1
  clear H1
  simp only [Option.some.injEq, Prod.mk.injEq] at H
  obtain ⟨rfl, rfl⟩ := H
  go_enter Tryd.func42, Tryd.ntmps42
  go_wp2_with (first | ((with_reducible refine qv (f := 60) rfl ?_); refine qob (some 8) rfl rfl Tryd.func60 (by kernel_rfl) rfl #[.string a0, .string a1] rfl zz56 ?_; (with_reducible refine (qec.calls a0 a1 false _ A3.out).mono ?_); rintro e w' ⟨rfl, ⟨nd, rfl⟩⟩; refine ⟨_, rfl, ?_⟩))
  go_ret2
  exact ⟨zz6, zz13⟩
def strings_CutPrefix.f (a0 : ByteArray) (a1 : ByteArray) : Option (ByteArray × Bool) := (stringslite_CutPrefix.f a0 a1).bind fun bt102 => (some (bt102.1, bt102.2))
set_option maxHeartbeats 8000000 in
set_option maxRecDepth 100000 in
theorem strings_CutPrefix.calls (a0 : ByteArray) (a1 : ByteArray) (r1 : ByteArray) (r2 : Bool) (w : World) (h : strings_CutPrefix.f a0 a1 = some (r1, r2)) :
  Calls Tryd.prog 31 #[.string a0, .string a1] w fun e w' => e = .returned (.tuple #[.string r1, .bool r2]) ∧ Drawn0 w w' := by
 have H : ((stringslite_CutPrefix.f a0 a1).bind fun bt102 => (some (bt102.1, bt102.2))) = some (r1, r2) := h
 clear h
 replace H := Option.bind_eq_some_iff.mp H
 obtain ⟨⟨t102, t103⟩, A30, H⟩ := H
 replace H : (some (t102, t103)) = some (r1, r2) := H
 have A3 := qa.mk A30
 clear A30
 simp only [Option.some.injEq, Prod.mk.injEq] at H
 obtain ⟨rfl, rfl⟩ := H
 go_enter Tryd.func31, Tryd.ntmps31
 go_wp2_with (first | ((with_reducible refine qv (f := 42) rfl ?_); refine qob (some 8) rfl rfl Tryd.func42 (by kernel_rfl) rfl #[.string a0, .string a1] rfl zz56 ?_; (with_reducible refine (stringslite_CutPrefix.calls a0 a1 t102 t103 _ A3.out).mono ?_); rintro e w' ⟨rfl, ⟨nd, rfl⟩⟩; refine ⟨_, rfl, ?_⟩))
 go_ret2
 exact ⟨zz6, zz13⟩
def IsS55 (w0 W : World) (g : Nat) (f0 : ByteArray) (f1 : Bool) : Prop := W.heap[g]? = some (.cells #[.string f0, .bool f1] 55 (0, 0)) ∧ w0.heap.size ≤ g
theorem IsS55.grown {w0 W : World} {g : Nat} {f0 : ByteArray} {f1 : Bool} {W1 : World} {row : Option Nat} (h : IsS55 w0 W g f0 f1) (hw : W.grownBy W1 row) (hne : some g ≠ row) : IsS55 w0 W1 g f0 f1 := by
 obtain ⟨hb, hg⟩ := h
 exact ⟨blk_grown hb hw hne, hg⟩
theorem IsS55.own_neN {w0 W : World} {g : Nat} {f0 : ByteArray} {f1 : Bool} {α : Type} {d : Kd α} {e : Nat} {base : Nat} {ok : Nat → Prop} {v : Value} {xs : List α} (h : IsS55 w0 W g f0 f1) (ho : Kd.N d e W base ok v xs) (ht : e ≠ 55) : some g ≠ v.ownBlock := by
 obtain ⟨hb, hg⟩ := h
 exact Kd.N_ne ho hb ht
theorem IsS55.fresh {w0 W : World} {g : Nat} {f0 : ByteArray} {f1 : Bool} (h : IsS55 w0 W g f0 f1) : ∀ k, W.heap.size ≤ k → k ≠ g := by
 obtain ⟨hb, hg⟩ := h
 exact Kd.freshB hb
theorem IsS55.below {w0 W : World} {g : Nat} {f0 : ByteArray} {f1 : Bool} {W1 : World} (h : IsS55 w0 W g f0 f1) (hw : Below W.heap.size W W1) : IsS55 w0 W1 g f0 f1 := h.grown (grown_of_below hw none) (by simp)
theorem IsS55.alloc {w0 W : World} {g : Nat} {f0 : ByteArray} {f1 : Bool} (h : IsS55 w0 W g f0 f1) (o : Obj) : IsS55 w0 (W.alloc o) g f0 f1 := h.below (qc (Below.refl _ _) o)
theorem IsS55.drewN {w0 W : World} {g : Nat} {f0 : ByteArray} {f1 : Bool} (h : IsS55 w0 W g f0 f1) (m : Nat) : IsS55 w0 (W.drewN m) g f0 f1 := h
theorem IsS55.drew {w0 W : World} {g : Nat} {f0 : ByteArray} {f1 : Bool} (h : IsS55 w0 W g f0 f1) : IsS55 w0 W.drew g f0 f1 := h
theorem IsS55.apart {w0 W : World} {g : Nat} {f0 : ByteArray} {f1 : Bool} {α : Type} {d : Kd α} {e : Nat} {base : Nat} {ok : Nat → Prop} {v : Value} {xs : List α} (h : IsS55 w0 W g f0 f1) (ho : d.R e W base ok v xs) (ht : ∀ q, q ∈ e :: d.E → q ≠ 55) : d.R e W base (fun k => ok k ∧ k ≠ g) v xs := by
 obtain ⟨hb, hg⟩ := h
 exact Kd.R_types ho hb ht
theorem IsS55.lt {w0 W : World} {g : Nat} {f0 : ByteArray} {f1 : Bool} (h : IsS55 w0 W g f0 f1) : g < W.heap.size := by
 obtain ⟨hb, hg⟩ := h
 exact blk_lt hb
theorem IsS55.ge {w0 W : World} {g : Nat} {f0 : ByteArray} {f1 : Bool} (h : IsS55 w0 W g f0 f1) : w0.heap.size ≤ g := by
 obtain ⟨hb, hg⟩ := h
 exact hg
theorem IsS55.far {w0 W : World} {g : Nat} {f0 : ByteArray} {f1 : Bool} {p : Addr} (h : IsS55 w0 W g f0 f1) (hne : g ≠ p.block) (u : Value) : IsS55 w0 (W.setCell p u) g f0 f1 := by
 obtain ⟨hb, hg⟩ := h
 exact ⟨qkb hb hne u, hg⟩
theorem cellS55_0 {W : World} {g : Nat} {f0 : ByteArray} {f1 : Bool} (h : W.heap[g]? = some (.cells #[.string f0, .bool f1] 55 (0, 0))) : W.cell? ⟨g, 0, none⟩ = some (.string f0) := (qg h 0).trans rfl
theorem IsS55.set_0 {w0 W : World} {g : Nat} {f0 : ByteArray} {f1 : Bool} (h : IsS55 w0 W g f0 f1) (x : ByteArray) : IsS55 w0 (W.setCell ⟨g, 0, none⟩ (.string x)) g x f1 := by
 obtain ⟨hb, hg⟩ := h
 exact ⟨by simpa using blk_set hb 0 (.string x), hg⟩
theorem cellS55_1 {W : World} {g : Nat} {f0 : ByteArray} {f1 : Bool} (h : W.heap[g]? = some (.cells #[.string f0, .bool f1] 55 (0, 0))) : W.cell? ⟨g, 1, none⟩ = some (.bool f1) := (qg h 1).trans rfl
theorem IsS55.set_1 {w0 W : World} {g : Nat} {f0 : ByteArray} {f1 : Bool} (h : IsS55 w0 W g f0 f1) (x : Bool) : IsS55 w0 (W.setCell ⟨g, 1, none⟩ (.bool x)) g f0 x := by
 obtain ⟨hb, hg⟩ := h
 exact ⟨by simpa using blk_set hb 1 (.bool x), hg⟩
def qgb.f (s0_0 : ByteArray) (s0_1 : Bool) (a1 : ByteArray) : Option (Bool × ByteArray × Bool) := (strings_CutPrefix.f s0_0 a1).bind fun bt104 => (some (bt104.2, bt104.1, s0_1))
set_option maxHeartbeats 8000000 in
set_option maxRecDepth 100000 in
theorem qgb.calls (g : Nat) (s0_0 : ByteArray) (s0_1 : Bool) (a1 : ByteArray) (r1 : Bool) (r2 : ByteArray) (r3 : Bool) (w0 w : World) (hI : IsS55 w0 w g s0_0 s0_1) (hB : Below w0.heap.size w0 w) (h : qgb.f s0_0 s0_1 a1 = some (r1, r2, r3)) :
  Calls Tryd.prog 18 #[.pointer (some ⟨g, 0, none⟩), .string a1] w fun e w' => e = .returned (.bool r1) ∧ IsS55 w0 w' g r2 r3 ∧ Below w0.heap.size w0 w' ∧ KeepBut w w' g none := by
 have HI0 := qa.mk hI
 have HK := qa.mk (KeepBut.refl w g none)
 have HL := qa.mk hB.size
 clear hI
 have HW0 := qa.mk hB.size
 have HB := qa.mk hB
 clear hB
 have H : ((strings_CutPrefix.f s0_0 a1).bind fun bt104 => (some (bt104.2, bt104.1, s0_1))) = some (r1, r2, r3) := h
 clear h
 replace H := Option.bind_eq_some_iff.mp H
 obtain ⟨⟨t104, t105⟩, A30, H⟩ := H
 replace H : (some (t105, t104, s0_1)) = some (r1, r2, r3) := H
 have A3 := qa.mk A30
 clear A30
 simp only [Option.some.injEq, Prod.mk.injEq] at H
 obtain ⟨rfl, rfl, rfl⟩ := H
 obtain ⟨HGz4, hgz4⟩ := HI0.out
 have hcz4_0 := cellS55_0 HGz4
 have hcz4_1 := cellS55_1 HGz4
 have hfz4_0 := qf HGz4 0
 have hfz4_1 := qf HGz4 1
 clear HGz4 hgz4
 go_enter Tryd.func18, Tryd.ntmps18
 go_wp2_with (first | ((with_reducible refine qv (f := 31) rfl ?_); refine qob (some 13) rfl rfl Tryd.func31 (by kernel_rfl) rfl #[.string s0_0, .string a1] rfl zz56 ?_; (with_reducible refine (strings_CutPrefix.calls s0_0 a1 t104 t105 _ A3.out).mono ?_); rintro e w' ⟨rfl, ⟨nd, rfl⟩⟩; refine ⟨_, rfl, ?_⟩))
 go_ret
 exact ⟨zz65, zz79, zz54, zz61⟩
def query_anyAt.f (a0 a1 : ByteArray) : Option Int := if a1.data.toList.all (fun b => decide (b.toNat < 128)) = true then some (Lib.indexAny a0.data.toList a1.data.toList) else none
theorem get_toList (s : ByteArray) (i : Nat) (h : i < s.size) : s.data.toList[i]? = some s[i] := by
 rw [Array.getElem?_toList]
 exact Array.getElem?_eq_getElem h
theorem get_bang (s : ByteArray) (i : Nat) (h : i < s.size) : s.get! i = s[i] := get_at s i h
theorem decode_skip (s : ByteArray) (pos : Nat) (h : pos < s.size) (h8 : 128 ≤ (s[pos]'h).toNat) (j : Nat) (hj0 : pos ≤ j) (hj : j < pos + (Utf8.decode s pos).2) (hjs : j < s.size) : 128 ≤ (s[j]'hjs).toNat := by
 rw [← get_bang s j hjs]
 rw [← get_bang s pos h] at h8
 obtain ⟨k, rfl⟩ : ∃ k, j = pos + k := ⟨j - pos, by omega⟩
 rw [Lib.decode_at] at hj
 unfold Lib.decodeN at hj
 have hk : k = 0 ∨ k = 1 ∨ k = 2 ∨ k = 3 ∨ 4 ≤ k := by omega
 have e0 : pos + 0 = pos := rfl
 repeat' split at hj
 all_goals
  simp only at hj
  rcases hk with rfl | rfl | rfl | rfl | hk <;> first | exact h8 | omega
theorem noAny_skip (s a : ByteArray) (pos : Nat) (h : pos < s.size) (h8 : 128 ≤ (s[pos]'h).toNat) (ha : a.data.toList.all (fun b => decide (b.toNat < 128)) = true) (hn : Lib.NoAny s.data.toList a.data.toList pos) : Lib.NoAny s.data.toList a.data.toList (pos + (Utf8.decode s pos).2) := by
 intro j b hj hb
 by_cases hlt : j < pos
 ·exact hn j b hlt hb
 have hjs : j < s.size := by
  have := (List.getElem?_eq_some_iff.1 hb).1
  simpa using this
 have h1 := decode_skip s pos h h8 j (by omega) hj hjs
 rw [get_toList s j hjs] at hb
 obtain rfl := Option.some.inj hb
 cases hc : a.data.toList.contains s[j] with
 | false => rfl
 | true =>
  have hm := List.contains_iff_mem.1 hc
  have := of_decide_eq_true (List.all_eq_true.1 ha _ hm)
  omega
theorem ascii_at (a : ByteArray) (ha : a.data.toList.all (fun b => decide (b.toNat < 128)) = true) (q : Nat) (h : q < a.size) : (a[q]'h).toNat < 128 := by
 have hm : a[q] ∈ a.data.toList := List.mem_of_getElem? (get_toList a q h)
 exact of_decide_eq_true (List.all_eq_true.1 ha _ hm)
set_option maxHeartbeats 8000000 in
set_option maxRecDepth 100000 in
theorem query_anyAt.calls (a0 a1 : ByteArray) (r : Int) (w : World) (h : query_anyAt.f a0 a1 = some r) :
  Calls Tryd.prog 40 #[.string a0, .string a1] w fun e w' => e = .returned (.int .i64 r) ∧ Below w.heap.size w w' := by
 unfold query_anyAt.f at h
 by_cases ha : a1.data.toList.all (fun b => decide (b.toNat < 128)) = true
 rotate_left
 ·rw [if_neg ha] at h
  cases h
 rw [if_pos ha] at h
 obtain rfl := Option.some.inj h
 clear h
 have HA := qa.mk ha
 clear ha
 go_enter Tryd.func40, Tryd.ntmps40
 go_wp2_with fail
 go_loopg [] (a0.size + 1) (fun kq w' => ∃ (pos : Nat), w'.heap[w.heap.size]? = some (.stringIter a0 pos) ∧ qa (kq = a0.size + 1 - pos) ∧ qa (Lib.NoAny a0.data.toList a1.data.toList pos) ∧ qa (Below w.heap.size w w'))
 case atStart => exact ⟨0, World.iter_heap w a0 0, ⟨rfl⟩, ⟨Lib.NoAny.zero _ _⟩, ⟨(Below.refl _ _).alloc (Nat.le_refl _) _⟩⟩
 case round =>
  obtain ⟨pos, hit, HK, HN, HB⟩ := hrel
  by_cases hp : pos < a0.size
  ·have hnx : ∀ ty, (Instr.next (.pointer (some ⟨w.heap.size, 0, none⟩)) true ty).run Tryd.prog wr = _ := fun ty => Lib.run_next_any_at wr w.heap.size a0 pos ty hit hp
   have hit2 := Lib.iterAt_heap wr w.heap.size a0 pos (pos + (Utf8.decode a0 pos).2) hit
   have hbw2 := Lib.below_iterAt HB.out (k := w.heap.size) (Nat.le_refl _) a0 (pos + (Utf8.decode a0 pos).2)
   obtain ⟨W1, hW1⟩ : ∃ W1, W1 = wr.iterAt w.heap.size a0 (pos + (Utf8.decode a0 pos).2) := ⟨_, rfl⟩
   rw [← hW1] at hnx hit2 hbw2
   have HB2 := qa.mk hbw2
   clear hW1 hit hbw2
   generalize hc : ((Utf8.decode a0 pos).1 : Int) = c at *
   have HC := qa.mk hc
   clear hc
   go_wp2_with fail
   go_loopg [] (a1.size + 1) (fun kq w' => ∃ (q : Nat), w'.heap[W1.heap.size]? = some (.stringIter a1 q) ∧ w'.heap[w.heap.size]? = some (.stringIter a0 (pos + (Utf8.decode a0 pos).2)) ∧ qa (q ≤ a1.size ∧ kq = a1.size + 1 - q) ∧ qa (∀ (j : Nat) (hj : j < a1.size), j < q → c ≠ (a1[j].toNat : Int)) ∧ qa (Below w.heap.size w w'))
   case atStart => exact ⟨0, World.iter_heap W1 a1 0, (Below.heap_alloc W1 _ _ (Array.getElem?_eq_some_iff.1 hit2).1).trans hit2, ⟨Nat.zero_le _, rfl⟩, ⟨fun j _ hj => absurd hj (Nat.not_lt_zero _)⟩, ⟨qc HB2.out _⟩⟩
   case round =>
    clear hnx HB HB2
    obtain ⟨q, hiq, hio, HQ, HM, HB⟩ := hrel
    by_cases hq : q < a1.size
    ·have hnx : ∀ ty, (Instr.next (.pointer (some ⟨W1.heap.size, 0, none⟩)) true ty).run Tryd.prog wr = _ := fun ty => Lib.run_next_ascii_at wr W1.heap.size a1 q ty hiq hq (ascii_at a1 HA.out q hq)
     have hlt1 := (Array.getElem?_eq_some_iff.1 hit2).1
     have hiq2 := Lib.iterAt_heap wr W1.heap.size a1 q (q + 1) hiq
     have hio2 := (Lib.iterAt_other wr W1.heap.size w.heap.size a1 (q + 1) (by omega)).trans hio
     have hbw2 := Lib.below_iterAt HB.out (k := W1.heap.size) (by omega) a1 (q + 1)
     obtain ⟨W2, hW2⟩ : ∃ W2, W2 = wr.iterAt W1.heap.size a1 (q + 1) := ⟨_, rfl⟩
     rw [← hW2] at hnx hiq2 hio2 hbw2
     have HB2 := qa.mk hbw2
     generalize hd : ((a1[q]'hq).toNat : Int) = d at *
     have HD := qa.mk hd
     clear hW2 hiq hio hbw2 hd
     by_cases hcd : c = d
     ·have hcd1 : (c == d) = true := by simpa using hcd
      have HCD := qa.mk hcd
      clear hcd
      go_wp2_with fail
      go_ret
      refine ⟨?_, HB2.out⟩
      have h1 := HC.out
      have h2 := HD.out
      have h3 := HCD.out
      have h4 := ascii_at a1 HA.out q hq
      have h5 : (a0[pos]'hp).toNat < 128 := by
       rcases Nat.lt_or_ge (a0[pos]'hp).toNat 128 with h | h
       ·exact h
       ·have := (decode_high a0 pos hp h).1
        omega
      rw [decode_ascii a0 pos hp h5] at h1
      have h6 : a0[pos]'hp = a1[q]'hq := by
       apply UInt8.toNat_inj.1
       simp only at h1
       omega
      have h7 : Lib.indexAny a0.data.toList a1.data.toList = pos := Lib.indexAny_hit HN.out (get_toList a0 pos hp) (by rw [h6]; exact List.contains_iff_mem.2 (List.mem_of_getElem? (get_toList a1 q hq)))
      rw [h7]
      rfl
     ·have hcd1 : (c == d) = false := by simpa using hcd
      have HCD := qa.mk hcd
      clear hcd
      go_wp2_with fail
      go_roundg (a1.size + 1 - (q + 1))
      case measure => have := HQ.out; omega
      case rel =>
       refine ⟨q + 1, hiq2, hio2, ⟨by omega, rfl⟩, ⟨fun j hj hjq => ?_⟩, HB2⟩
       by_cases e : j = q
       ·subst e
        have := HD.out
        have := HCD.out
        omega
       ·exact HM.out j hj (by omega)
    ·have hnx : ∀ ty, (Instr.next (.pointer (some ⟨W1.heap.size, 0, none⟩)) true ty).run Tryd.prog wr = _ := fun ty => Lib.run_next_end_at wr W1.heap.size a1 q ty hiq hq
     have HNX := qa.mk (show Lib.NoAny a0.data.toList a1.data.toList (pos + (Utf8.decode a0 pos).2) from by
      rcases Nat.lt_or_ge (a0[pos]'hp).toNat 128 with h | h
      ·have h1 := HC.out
       rw [decode_ascii a0 pos hp h] at h1 ⊢
       refine HN.out.succ (get_toList a0 pos hp) ?_
       cases hct : a1.data.toList.contains a0[pos] with
       | false => rfl
       | true =>
        obtain ⟨j, hj, hje⟩ := List.getElem_of_mem (List.contains_iff_mem.1 hct)
        have hj2 : j < a1.size := by simpa using hj
        have h2 := HM.out j hj2 (by omega)
        have h3 := get_toList a1 j hj2
        rw [List.getElem?_eq_getElem hj, hje] at h3
        have h4 := Option.some.inj h3
        simp only at h1
        rw [← h4] at h2
        exact absurd h1.symm h2
      ·exact noAny_skip a0 a1 pos hp h HA.out HN.out)
     have HW := qa.mk (show 1 ≤ (Utf8.decode a0 pos).2 from by
      rcases Nat.lt_or_ge (a0[pos]'hp).toNat 128 with h | h
      ·rw [decode_ascii a0 pos hp h]; exact Nat.le_refl _
      ·exact (decode_high a0 pos hp h).2)
     go_wp2_with fail
     go_roundg (a0.size + 1 - (pos + (Utf8.decode a0 pos).2))
     case measure =>
      have h1 := HW.out
      have h2 := HK.out
      omega
     case rel => exact ⟨pos + (Utf8.decode a0 pos).2, hio, ⟨rfl⟩, HNX, HB⟩
  ·have hnx : ∀ ty, (Instr.next (.pointer (some ⟨w.heap.size, 0, none⟩)) true ty).run Tryd.prog wr = _ := fun ty => Lib.run_next_end_at wr w.heap.size a0 pos ty hit hp
   have HE := qa.mk (show Lib.indexAny a0.data.toList a1.data.toList = -1 from Lib.indexAny_none (fun j b hj hb => HN.out j b (by have : a0.data.toList.length = a0.size := rfl; omega) hb))
   go_wp2_with fail
   go_ret
   exact ⟨by rw [HE.out]; rfl, HB.out⟩
def qhc.f (s0_0 : ByteArray) (s0_1 : Bool) (a1 : ByteArray) : Option (ByteArray × ByteArray × Bool) :=
 (query_anyAt.f s0_0 a1).bind fun n => if n < 0 then some (s0_0, ByteArray.empty, s0_1) else if n ≤ (s0_0.size : Int) then some (s0_0.extract 0 n.toNat, s0_0.extract n.toNat s0_0.size, s0_1) else none
set_option maxHeartbeats 8000000 in
set_option maxRecDepth 100000 in
theorem qhc.calls (g : Nat) (s0_0 : ByteArray) (s0_1 : Bool) (a1 : ByteArray) (r1 : ByteArray) (r2 : ByteArray) (r3 : Bool) (w0 w : World) (hI : IsS55 w0 w g s0_0 s0_1) (hB : Below w0.heap.size w0 w) (h : qhc.f s0_0 s0_1 a1 = some (r1, r2, r3)) :
  Calls Tryd.prog 28 #[.pointer (some ⟨g, 0, none⟩), .string a1] w fun e w' => e = .returned (.string r1) ∧ IsS55 w0 w' g r2 r3 ∧ Below w0.heap.size w0 w' ∧ KeepBut w w' g none := by
 obtain ⟨n, hn, h⟩ := Option.bind_eq_some_iff.1 h
 have HN := qa.mk hn
 have HI := qa.mk hI
 have HB := qa.mk hB
 have hs := hB.size
 have hc0 := cellS55_0 hI.1
 have hc1 := cellS55_1 hI.1
 clear hn hI hB
 have hf0 := qf HI.out.1 0
 by_cases hn0 : n < 0
 ·rw [if_pos hn0] at h
  simp only [Option.some.injEq, Prod.mk.injEq] at h
  obtain ⟨rfl, rfl, rfl⟩ := h
  go_enter Tryd.func28, Tryd.ntmps28
  go_wp2_with (go_at_call 40; refine (query_anyAt.calls _ _ _ _ HN.out).mono ?_; rintro e w2 ⟨rfl, hb⟩; have HI2 := qa.mk (HI.out.below hb); have HB2 := qa.mk (HB.out.trans (hb.mono hs)); have HK2 := qa.mk (KeepBut.of_below hb g none); have hd0 := cellS55_0 HI2.out.1; have hf2 := qf HI2.out.1 0; clear hb)
  go_ret
  exact ⟨rfl, HI2.out.set_0 _, qj HB2.out HI.out.2, HK2.out.set_ 0 _⟩
 ·rw [if_neg hn0] at h
  by_cases hn1 : n ≤ (s0_0.size : Int)
  rotate_left
  ·rw [if_neg hn1] at h
   cases h
  rw [if_pos hn1] at h
  simp only [Option.some.injEq, Prod.mk.injEq] at h
  obtain ⟨rfl, rfl, rfl⟩ := h
  have hn2 : 0 ≤ n := by omega
  go_enter Tryd.func28, Tryd.ntmps28
  go_wp2_with (go_at_call 40; refine (query_anyAt.calls _ _ _ _ HN.out).mono ?_; rintro e w2 ⟨rfl, hb⟩; have HI2 := qa.mk (HI.out.below hb); have HB2 := qa.mk (HB.out.trans (hb.mono hs)); have HK2 := qa.mk (KeepBut.of_below hb g none); have hd0 := cellS55_0 HI2.out.1; have hf2 := qf HI2.out.1 0; clear hb)
  go_ret
  exact ⟨rfl, HI2.out.set_0 _, qj HB2.out HI.out.2, HK2.out.set_ 0 _⟩
def formL (c : Int) : List UInt8 :=
 if c = 38 then [38, 97, 109, 112, 59] else if c = 60 then [38, 108, 116, 59] else if c = 62 then [38, 103, 116, 59] else if c = 34 then [38, 113, 117, 111, 116, 59]
 else if c = 127 ∨ c < 32 then [38, 35] ++ Lib.itoa c ++ [59] else []
def escape_form.f (a0 : Int) : Option ByteArray := if 0 ≤ a0 ∧ a0 ≤ 255 then some ⟨(formL a0).toArray⟩ else none
theorem itoa_short (c : Nat) (h : c < 256) : (Lib.itoa (c : Int)).length ≤ 3 := by
 have : ∀ c : Fin 256, (Lib.itoa (c.val : Int)).length ≤ 3 := by decide +kernel
 exact this ⟨c, h⟩
set_option maxHeartbeats 4000000 in
set_option maxRecDepth 100000 in
theorem escape_form.number (b : Nat) (a0 : Int) (w : World) (hG : Glob w) (h0 : 0 ≤ a0) (h1 : a0 ≤ 255) (hc : w.cell? ⟨b, 0, none⟩ = some (.int .u8 a0)) :
  Calls Tryd.prog 57 #[.pointer (some ⟨b, 0, none⟩)] w fun e w' => e = .returned (.string ⟨([38, 35] ++ Lib.itoa a0 ++ [59]).toArray⟩) ∧ Below w.heap.size w w' := by
 have HG := qa.mk hG
 have hl : (Lib.itoa a0).length ≤ 3 := by
  obtain ⟨n, rfl⟩ := Int.eq_ofNat_of_zero_le h0
  exact itoa_short n (by omega)
 have HF := qa.mk (show ∀ l : List UInt8, (⟨#[38, 35]⟩ : ByteArray) ++ ⟨l.toArray⟩ ++ ⟨#[59]⟩ = ⟨([38, 35] ++ l ++ [59]).toArray⟩ from fun l => by
  apply ByteArray.ext; simp)
 clear hG
 go_enter Tryd.func57, Tryd.ntmps57
 go_wp2_with (go_at_call 58; refine (Tryd.strconv_Itoa a0 (by omega) (by omega) _ HG.out.1).mono ?_; rintro e w2 ⟨rfl, k, os, hw⟩; have HB := qa.mk (show Below w.heap.size w w2 from by rw [hw]; exact Lib.below_grow _ _ (Nat.le_refl _) _ _); clear hw)
 go_ret
 exact ⟨by rw [HF.out]; simp, HB.out⟩
set_option maxHeartbeats 4000000 in
set_option maxRecDepth 100000 in
theorem escape_form.calls (a0 : Int) (r : ByteArray) (w : World) (hG : Glob w) (h : escape_form.f a0 = some r) :
  Calls Tryd.prog 39 #[.int .u8 a0] w fun e w' => e = .returned (.string r) ∧ Below w.heap.size w w' := by
 unfold escape_form.f at h
 by_cases hb : 0 ≤ a0 ∧ a0 ≤ 255
 rotate_left
 ·rw [if_neg hb] at h
  cases h
 rw [if_pos hb] at h
 obtain rfl := Option.some.inj h
 obtain ⟨h0, h1⟩ := hb
 clear h
 have HG := qa.mk hG
 clear hG
 have HX : ∀ x, formL a0 = x → qa (formL a0 = x) := fun _ h => ⟨h⟩
 by_cases c1 : a0 = 38
 ·have c1b : (a0 == 38) = true := by simp [c1]
  have H := HX _ (by unfold formL; rw [if_pos c1])
  clear c1 HX
  go_enter Tryd.func39, Tryd.ntmps39
  go_wp2
  go_ret
  exact ⟨by rw [H.out]; rfl, (Below.refl _ _).alloc (Nat.le_refl _) _⟩
 have c1b : (a0 == 38) = false := by simp [c1]
 by_cases c2 : a0 = 60
 ·have c2b : (a0 == 60) = true := by simp [c2]
  have H := HX _ (by unfold formL; rw [if_neg c1, if_pos c2])
  clear c1 c2 HX
  go_enter Tryd.func39, Tryd.ntmps39
  go_wp2
  go_ret
  exact ⟨by rw [H.out]; rfl, (Below.refl _ _).alloc (Nat.le_refl _) _⟩
 have c2b : (a0 == 60) = false := by simp [c2]
 by_cases c3 : a0 = 62
 ·have c3b : (a0 == 62) = true := by simp [c3]
  have H := HX _ (by unfold formL; rw [if_neg c1, if_neg c2, if_pos c3])
  clear c1 c2 c3 HX
  go_enter Tryd.func39, Tryd.ntmps39
  go_wp2
  go_ret
  exact ⟨by rw [H.out]; rfl, (Below.refl _ _).alloc (Nat.le_refl _) _⟩
 have c3b : (a0 == 62) = false := by simp [c3]
 by_cases c4 : a0 = 34
 ·have c4b : (a0 == 34) = true := by simp [c4]
  have H := HX _ (by unfold formL; rw [if_neg c1, if_neg c2, if_neg c3, if_pos c4])
  clear c1 c2 c3 c4 HX
  go_enter Tryd.func39, Tryd.ntmps39
  go_wp2
  go_ret
  exact ⟨by rw [H.out]; rfl, (Below.refl _ _).alloc (Nat.le_refl _) _⟩
 have c4b : (a0 == 34) = false := by simp [c4]
 by_cases c5 : a0 = 127
 ·have c5b : (a0 == 127) = true := by simp [c5]
  have H := HX _ (by unfold formL; rw [if_neg c1, if_neg c2, if_neg c3, if_neg c4, if_pos (.inl c5)])
  clear c1 c2 c3 c4 c5 HX
  go_enter Tryd.func39, Tryd.ntmps39
  go_wp2_with (go_at_call 57; refine (escape_form.number _ a0 _ (Glob.below HG.out (qc (Below.refl _ _) _)) h0 h1 ?hc).mono ?_; (case hc => simp); rintro e w2 ⟨rfl, hb⟩; have HB := qa.mk (qm (w := w) (qc (Below.refl _ _) _) hb); clear hb)
  go_ret
  exact ⟨by rw [H.out]; rfl, HB.out⟩
 have c5b : (a0 == 127) = false := by simp [c5]
 by_cases c6 : a0 < 32
 ·have H := HX _ (by unfold formL; rw [if_neg c1, if_neg c2, if_neg c3, if_neg c4, if_pos (.inr c6)])
  clear c1 c2 c3 c4 c5 HX
  go_enter Tryd.func39, Tryd.ntmps39
  go_wp2_with (go_at_call 57; refine (escape_form.number _ a0 _ (Glob.below HG.out (qc (Below.refl _ _) _)) h0 h1 ?hc).mono ?_; (case hc => simp); rintro e w2 ⟨rfl, hb⟩; have HB := qa.mk (qm (w := w) (qc (Below.refl _ _) _) hb); clear hb)
  go_ret
  exact ⟨by rw [H.out]; rfl, HB.out⟩
 have H := HX _ (by unfold formL; rw [if_neg c1, if_neg c2, if_neg c3, if_neg c4, if_neg (by omega)])
 clear c1 c2 c3 c4 c5 HX
 go_enter Tryd.func39, Tryd.ntmps39
 go_wp2
 go_ret
 exact ⟨by rw [H.out]; rfl, (Below.refl _ _).alloc (Nat.le_refl _) _⟩
def qgc.f (a0 : ByteArray) (a1 : ByteArray) : Option (Bool) := (qec.f a0 a1).bind fun t106 => (some t106)
set_option maxHeartbeats 8000000 in
set_option maxRecDepth 100000 in
theorem qgc.calls (a0 : ByteArray) (a1 : ByteArray) (r : Bool) (w : World) (h : qgc.f a0 a1 = some r) :
  Calls Tryd.prog 68 #[.string a0, .string a1] w fun e w' => e = .returned (.bool r) ∧ Drawn0 w w' := by
 have H : ((qec.f a0 a1).bind fun t106 => (some t106)) = some r := h
 clear h
 replace H := Option.bind_eq_some_iff.mp H
 obtain ⟨t106, A30, H⟩ := H
 replace H : (some t106) = some r := H
 have A3 := qa.mk A30
 clear A30
 obtain rfl := Option.some.inj H
 go_enter Tryd.func68, Tryd.ntmps68
 go_wp2_with (first | ((with_reducible refine qv (f := 60) rfl ?_); refine qob (some 7) rfl rfl Tryd.func60 (by kernel_rfl) rfl #[.string a0, .string a1] rfl zz56 ?_; (with_reducible refine (qec.calls a0 a1 t106 _ A3.out).mono ?_); rintro e w' ⟨rfl, ⟨nd, rfl⟩⟩; refine ⟨_, rfl, ?_⟩))
 go_ret
 exact ⟨zz6, zz13⟩
def refForms (s : List UInt8) : List Int → Option (Int × Int)
 | [] => none
 | c :: r => if (formL c).isPrefixOf s = true then some (c, ((formL c).length : Int)) else refForms s r
def refNum (s : List UInt8) : Int × Int :=
 if [38, 35].isPrefixOf s = true then
  if Lib.indexByte (s.take 6) 59 < 0 then (0, 0) else
   match Lib.atoiAll ((s.take (Lib.indexByte (s.take 6) 59).toNat).drop 2) with
   | .ok n => if n < 0 ∨ 127 < n ∨ formL n ≠ s.take ((Lib.indexByte (s.take 6) 59).toNat + 1) then (0, 0) else (n, Lib.indexByte (s.take 6) 59 + 1)
   | _ => (0, 0)
 else (0, 0)
def refC (s : List UInt8) : Int × Int := (refForms s [38, 60, 62, 34]).getD (refNum s)
def unescL : List UInt8 → Nat → List UInt8 → Nat → Except Nat (List UInt8)
 | _, 0, acc, _ => .ok acc
 | s, k + 1, acc, i =>
  match s with
  | [] => .ok acc
  | b :: r =>
   if b.toNat = 38 then (if (refC s).2 = 0 then .error i else unescL (s.drop (refC s).2.toNat) k (acc ++ [(refC s).1.toNat.toUInt8]) (i + (refC s).2.toNat))
   else if formL (b.toNat : Int) ≠ [] then .error i else unescL r k (acc ++ [b]) (i + 1)
def escape_Unescape.f (a0 : ByteArray) : Option (ByteArray × Int × Int) :=
 if a0.size ≤ 1000000000000 then
  match unescL a0.data.toList a0.size [] 0 with
  | .ok l => some (⟨l.toArray⟩, 0, 0)
  | .error i => some (⟨#[]⟩, (i : Int), 2)
 else none
theorem hasPrefix_eq (a b : ByteArray) : qgc.f a b = some (b.data.toList.isPrefixOf a.data.toList) := by
 unfold qgc.f qec.f
 have hex : (a.extract 0 ((b.size : Int) : Int).toNat).toList = a.data.toList.take b.size := by
  rw [Lib.toList_data]
  simp
 have hla : a.data.toList.length = a.size := rfl
 have hlb : b.data.toList.length = b.size := rfl
 by_cases h : (a.size : Int) ≥ (b.size : Int)
 ·rw [if_pos h, if_pos (by omega), if_pos (by omega), hex, Lib.toList_data]
  simp only [Option.bind_some, Option.some.injEq]
  rw [Bool.eq_iff_iff, beq_iff_eq, List.isPrefixOf_iff_prefix, List.prefix_iff_eq_take]
  rw [hlb]
  exact eq_comm
 ·rw [if_neg h]
  simp only [Option.bind_some, Option.some.injEq]
  symm
  rw [Bool.eq_false_iff]
  intro hp
  have := (List.isPrefixOf_iff_prefix.1 hp).length_le
  omega
set_option maxHeartbeats 8000000 in
set_option maxRecDepth 100000 in
theorem escape_reference.calls (s : ByteArray) (w : World) (hG : Glob w) :
  Calls Tryd.prog 59 #[.string s] w fun e w' => e = .returned (.tuple #[.int .u8 (refC s.data.toList).1, .int .i64 (refC s.data.toList).2]) ∧ Below w.heap.size w w' := by
 have HG := qa.mk hG
 clear hG
 go_enter Tryd.func59, Tryd.ntmps59
 go_wp2_with fail
 go_loopg [11] 5 (fun kq v11 w' => ∃ (j : Nat), v11 = .int .i64 (j : Int) ∧ w'.heap[w.heap.size]? = some (.cells #[.int .u8 38, .int .u8 60, .int .u8 62, .int .u8 34] 5 (0, 0)) ∧ qa (j ≤ 4 ∧ kq = 5 - j) ∧ qa (refForms s.data.toList (([38, 60, 62, 34] : List Int).drop j) = refForms s.data.toList [38, 60, 62, 34]) ∧ qa (Below w.heap.size w w'))
 case atStart => exact ⟨0, rfl, heap_alloc_new w _, ⟨by omega, rfl⟩, ⟨rfl⟩, ⟨qc (Below.refl _ _) _⟩⟩
 case round =>
  obtain ⟨j, rfl, hblk, HJ, HF, HB⟩ := hrel
  obtain ⟨hj, rfl⟩ := HJ.out
  by_cases h4 : j = 4
  ·subst h4
   have HR := qa.mk (show refC s.data.toList = refNum s.data.toList from by
    unfold refC
    rw [← HF.out]
    rfl)
   clear hblk HF HJ hj
   cases hp : ([38, 35] : List UInt8).isPrefixOf s.data.toList
   ·have HN := qa.mk (show refNum s.data.toList = (0, 0) from by
     unfold refNum
     rw [if_neg (by rw [hp]; exact Bool.false_ne_true)])
    have HP := qa.mk (show qgc.f s ⟨#[38, 35]⟩ = some false from by rw [hasPrefix_eq, ← hp])
    clear hp
    go_wp2_with (go_at_call 68; refine (qgc.calls _ _ _ _ HP.out).mono ?_; rintro e w3 ⟨rfl, hw3⟩; have HB3 := qa.mk (HB.out.trans (hw3.below.mono HB.out.size)); clear hw3)
    go_ret2
    exact ⟨by rw [HR.out, HN.out]; rfl, HB3.out⟩
   ·have HN := qa.mk hp
    have HP := qa.mk (show qgc.f s ⟨#[38, 35]⟩ = some true from by rw [hasPrefix_eq, ← hp])
    have h2s : 2 ≤ s.size := by
     have := (List.isPrefixOf_iff_prefix.1 hp).length_le
     exact this
    have h0 : s.data.toList[0]? = some 38 ∧ s.data.toList[1]? = some 35 := by
     obtain ⟨t, ht⟩ := List.isPrefixOf_iff_prefix.1 hp
     rw [← ht]
     exact ⟨rfl, rfl⟩
    obtain ⟨e, he⟩ : ∃ e, e = Lib.indexByte (s.data.toList.take 6) 59 := ⟨_, rfl⟩
    have HE := qa.mk he
    have HX1 := qa.mk (show strings_IndexByte.f (s.extract 0 6) 59 = some e from by
     rw [he]
     unfold strings_IndexByte.f
     congr 2
     simp)
    have HX2 := qa.mk (show (s.size : Int) ≤ 6 → strings_IndexByte.f s 59 = some e from by
     intro h6
     rw [he, List.take_of_length_le (by have : s.data.toList.length = s.size := rfl; omega)]
     rfl)
    have hem : e = -1 ∨ (2 ≤ e ∧ e < s.size ∧ e < 6) := by
     have h1 := Lib.indexByte_ge (s.data.toList.take 6) 59
     rw [← he] at h1
     by_cases h : e = -1
     ·exact .inl h
     ·right
      obtain ⟨n, rfl⟩ := Int.eq_ofNat_of_zero_le (show 0 ≤ e by omega)
      have h2 := (Lib.indexByte_some he.symm).1
      have h3 := (List.getElem?_eq_some_iff.1 h2).1
      rw [List.length_take] at h3
      rw [List.getElem?_take_of_lt (by omega)] at h2
      have hls : s.data.toList.length = s.size := rfl
      refine ⟨?_, by omega, by omega⟩
      rcases (show n = 0 ∨ n = 1 ∨ 2 ≤ n by omega) with rfl | rfl | h
      ·rw [h0.1] at h2; cases h2
      ·rw [h0.2] at h2; cases h2
      ·omega
    clear hp he h0
    go_upto_if 34 with (first | (go_at_call 68; refine (qgc.calls _ _ _ _ HP.out).mono ?_; rintro e w3 ⟨rfl, hw3⟩; have HB3 := qa.mk (HB.out.trans (hw3.below.mono HB.out.size)); clear hw3) | (go_at_call 69; refine (strings_IndexByte.calls _ _ e _ (by first | exact HX1.out | exact HX2.out (by omega))).mono ?_; rintro e w4 ⟨rfl, hw4⟩; have HB4 := qa.mk (HB3.out.trans (hw4.below.mono HB3.out.size)); clear hw4))
    all_goals
     clear HB3 HX1 HX2 HP HB
     rcases hem with hem | ⟨h2, hes, he6⟩
     ·have HNR := qa.mk (show refNum s.data.toList = (0, 0) from by
       unfold refNum
       rw [if_pos HN.out, ← HE.out, if_pos (by omega)])
      have hlt0 : e < 0 := by omega
      clear hem
      go_wp2_with fail
      go_ret2
      exact ⟨by rw [HR.out, HNR.out]; rfl, HB4.out⟩
     ·have hlt0 : ¬ e < 0 := by omega
      have HNR := qa.mk (show refNum s.data.toList = (match Lib.atoiAll ((s.data.toList.take e.toNat).drop 2) with
        | .ok n => if n < 0 ∨ 127 < n ∨ formL n ≠ s.data.toList.take (e.toNat + 1) then (0, 0) else (n, e + 1)
        | _ => (0, 0)) from by
       unfold refNum
       rw [if_pos HN.out, ← HE.out, if_neg hlt0])
      have hex : (s.extract 2 e.toNat).data.toList = (s.data.toList.take e.toNat).drop 2 := by
       simp [List.drop_take, List.extract_eq_take_drop]
      have hexs : (s.extract 2 e.toNat).size ≤ 281474976710656 := by
       simp only [ByteArray.size_extract]
       omega
      rw [← hex] at HNR
      have HXS := qa.mk hexs
      clear hex hexs
      have hle2 : e ≤ (s.size : Int) := by omega
      obtain ⟨⟨tp1, p1, hv1⟩, tp2, p2, hv2⟩ := (HG.out.below HB4.out).2
      have HV1 := qa.mk hv1
      have HV2 := qa.mk hv2
      clear hv1 hv2
      have hends : ∀ z : Lib.NumEnd Int, (∃ n, z = .ok n) ∨ z = Lib.NumEnd.syntax ∨ z = .range := by
       intro z
       cases z
       exact .inl ⟨_, rfl⟩
       exact .inr (.inl rfl)
       exact .inr (.inr rfl)
      rcases hends (Lib.atoiAll (s.extract 2 e.toNat).data.toList) with ⟨n, hat⟩ | hat | hat
      ·rw [hat] at HNR
       dsimp only at HNR
       have HAT := qa.mk hat
       clear hat
       go_upto_region 13 with (first | (go_at_call 70; go_loud (refine (Tryd.strconv_Atoi_ok _ (Nat.le_trans HXS.out (by decide)) n HAT.out _).mono ?_); rintro e5 w5 ⟨rfl, hw5⟩; have HB5 := qa.mk (HB4.out.trans (Below.mono (show Below w4.heap.size w4 w5 from by rcases hw5 with rfl | ⟨t, rfl⟩; exact Below.refl _ _; exact Lib.bytesWorld_below _ _ _) HB4.out.size)); clear hw5))
       clear HV1 HV2
       by_cases hn0 : n < 0
       ·have HNS := qa.mk (show refNum s.data.toList = (0, 0) from by rw [HNR.out, if_pos (.inl hn0)])
        have hd0 : decide (n < 0) = true := by simpa using hn0
        go_quiet (fail)
        go_wp2_with fail
        go_ret2
        exact ⟨by rw [HR.out, HNS.out]; rfl, zz14⟩
       by_cases hn1 : 127 < n
       ·have HNS := qa.mk (show refNum s.data.toList = (0, 0) from by rw [HNR.out, if_pos (.inr (.inl hn1))])
        have hd0 : decide (n < 0) = false := by simpa using hn0
        have hd1 : decide (127 < n) = true := by simpa using hn1
        go_quiet (fail)
        go_wp2_with fail
        go_ret2
        exact ⟨by rw [HR.out, HNS.out]; rfl, zz14⟩
       have hd0 : decide (n < 0) = false := by simpa using hn0
       have hd1 : decide (127 < n) = false := by simpa using hn1
       have hwr : IntKind.u8.wrap n = n := by
        rw [show IntKind.u8.wrap n = n % 256 from by simp [IntKind.wrap, IntKind.bits, IntKind.signed]]
        omega
       have HN2 := qa.mk (show 0 ≤ n ∧ n ≤ 255 from by omega)
       have hs5 := HB5.out.size
       have he1 : IntKind.i64.wrap (e + 1) = e + 1 := by rw [IntKind.wrap_i64]; omega
       have hle3 : e + 1 ≤ (s.size : Int) := by omega
       have hle4 : 0 ≤ e + 1 := by omega
       go_region_held3 (fun w' => Below w.heap.size w w') (first | exact HB5.out | exact HB6.out | exact Below.drew HB5.out | exact Below.drew HB6.out | (apply below_drewN; assumption) | assumption) (first | (go_at_call 39; refine (escape_form.calls n _ _ (HG.out.below (by assumption)) (if_pos HN2.out)).mono ?_; rintro e6 w6 ⟨rfl, hb6⟩; have HB6 := qa.mk (Below.trans (show Below w.heap.size w _ from by assumption) (hb6.mono hs5)); clear hb6))
       generalize hq : (formL n == (s.extract 0 (e + 1).toNat).toList) = q
       have hx : (s.extract 0 (e + 1).toNat).toList = s.data.toList.take (e.toNat + 1) := by
        rw [Lib.toList_data, show (e + 1).toNat = e.toNat + 1 by omega]
        simp
       rw [hx] at hq
       clear hx
       have HQ := qa.mk hq
       clear hq
       cases q
       ·have HNS := qa.mk (show refNum s.data.toList = (0, 0) from by rw [HNR.out, if_pos (.inr (.inr (beq_eq_false_iff_ne.1 HQ.out)))])
        go_wp2_with fail
        go_ret2
        exact ⟨by rw [HR.out, HNS.out]; rfl, HB6.out⟩
       ·have HNS := qa.mk (show refNum s.data.toList = (n, e + 1) from by
         rw [HNR.out, if_neg]
         rintro (h1 | h1 | h1)
         ·omega
         ·omega
         ·exact h1 (beq_iff_eq.1 HQ.out))
        go_wp2_with fail
        go_ret2
        exact ⟨by rw [HR.out, HNS.out]; rfl, HB6.out⟩
      ·rw [hat] at HNR
       have HAT := qa.mk hat
       clear hat
       go_upto_region 13 with (first | (go_at_call 70; go_loud (refine (Tryd.strconv_Atoi_syntax_var _ HXS.out HAT.out tp1 p1 _ HV1.out).mono ?_); rintro e5 w5 ⟨N5, rfl, hN5, _, hb5⟩; have HB5 := qa.mk (HB4.out.trans (hb5.mono HB4.out.size)); clear hb5))
       go_quiet (fail)
       go_wp2_with fail
       go_ret2
       exact ⟨by rw [HR.out, HNR.out]; rfl, zz14⟩
      ·rw [hat] at HNR
       have HAT := qa.mk hat
       clear hat
       go_upto_region 13 with (first | (go_at_call 70; go_loud (refine (Tryd.strconv_Atoi_range_var _ HXS.out HAT.out tp2 p2 _ HV2.out).mono ?_); rintro e5 w5 ⟨N5, rfl, hN5, _, hb5⟩; have HB5 := qa.mk (HB4.out.trans (hb5.mono HB4.out.size)); clear hb5))
       go_quiet (fail)
       go_wp2_with fail
       go_ret2
       exact ⟨by rw [HR.out, HNR.out]; rfl, zz14⟩
  ·obtain ⟨c, hc0, hc1, hcl, hcell⟩ : ∃ c : Int, 0 ≤ c ∧ c ≤ 255 ∧ ([38, 60, 62, 34] : List Int).drop j = c :: ([38, 60, 62, 34] : List Int).drop (j + 1) ∧ wr.cell? ⟨w.heap.size, (j : Nat), none⟩ = some (.int .u8 c) := by
    have hj4 : j = 0 ∨ j = 1 ∨ j = 2 ∨ j = 3 := by omega
    rcases hj4 with rfl | rfl | rfl | rfl
    ·exact ⟨38, by omega, by omega, rfl, (qg hblk 0).trans rfl⟩
    ·exact ⟨60, by omega, by omega, rfl, (qg hblk 1).trans rfl⟩
    ·exact ⟨62, by omega, by omega, rfl, (qg hblk 2).trans rfl⟩
    ·exact ⟨34, by omega, by omega, rfl, (qg hblk 3).trans rfl⟩
   have HC := qa.mk (And.intro hc0 hc1)
   have HCL := qa.mk hcl
   clear hc0 hc1 hcl
   have hj3 : (j : Int) < 4 := by omega
   have HBLK := qa.mk hblk
   clear hblk
   have hcell2 : wr.cell? ((⟨w.heap.size, 0, none⟩ : Addr).add j) = some (.int .u8 c) := by
    rw [Addr.add_lit, Nat.zero_add]
    exact hcell
   cases hb : (formL c).isPrefixOf s.data.toList
   ·have HN := qa.mk (show refForms s.data.toList (([38, 60, 62, 34] : List Int).drop (j + 1)) = refForms s.data.toList [38, 60, 62, 34] from by
     rw [← HF.out, HCL.out]
     simp only [refForms, hb, Bool.false_eq_true, if_false])
    have HP := qa.mk (show qgc.f s ⟨(formL c).toArray⟩ = some false from by rw [hasPrefix_eq, ← hb])
    clear hb
    go_wp2_with (first | (go_at_call 39; refine (escape_form.calls c _ _ (HG.out.below HB.out) (if_pos HC.out)).mono ?_; rintro e w2 ⟨rfl, hb2⟩; have HB2 := qa.mk (HB.out.trans (hb2.mono HB.out.size)); have HBLK2 := qa.mk ((hb2.block w.heap.size (Array.getElem?_eq_some_iff.1 HBLK.out).1).trans HBLK.out); clear hb2) | (go_at_call 68; refine (qgc.calls _ _ _ _ HP.out).mono ?_; rintro e w3 ⟨rfl, hw3⟩; have HB3 := qa.mk (HB2.out.trans (hw3.below.mono HB2.out.size)); have HBLK3 := qa.mk ((hw3.below.block w.heap.size (Array.getElem?_eq_some_iff.1 HBLK2.out).1).trans HBLK2.out); clear hw3))
    go_roundg (5 - (j + 1))
    case measure => omega
    case rel => exact ⟨j + 1, by simp, HBLK3.out, ⟨by omega, rfl⟩, HN, HB3⟩
   ·have HN := qa.mk (show refC s.data.toList = (c, ((formL c).length : Int)) from by
     unfold refC
     rw [← HF.out, HCL.out]
     simp only [refForms, hb, if_true, Option.getD_some])
    have HP := qa.mk (show qgc.f s ⟨(formL c).toArray⟩ = some true from by rw [hasPrefix_eq, ← hb])
    clear hb
    go_wp2_with (first | (go_at_call 39; first | (refine (escape_form.calls c _ _ (HG.out.below HB.out) (if_pos HC.out)).mono ?_; rintro e w2 ⟨rfl, hb2⟩; have HB2 := qa.mk (HB.out.trans (hb2.mono HB.out.size)); clear hb2) | (refine (escape_form.calls c _ _ (HG.out.below HB3.out) (if_pos HC.out)).mono ?_; rintro e w4 ⟨rfl, hb4⟩; have HB4 := qa.mk (HB3.out.trans (hb4.mono HB3.out.size)); clear hb4)) | (go_at_call 68; refine (qgc.calls _ _ _ _ HP.out).mono ?_; rintro e w3 ⟨rfl, hw3⟩; have HB3 := qa.mk (HB2.out.trans (hw3.below.mono HB2.out.size)); clear hw3))
    go_ret2
    exact ⟨by rw [HN.out]; rfl, HB4.out⟩
theorem refForms_ok (s : List UInt8) : ∀ (cs : List Int), (∀ c ∈ cs, 0 ≤ c ∧ c ≤ 127 ∧ formL c ≠ []) → ∀ c n, refForms s cs = some (c, n) → 1 ≤ n ∧ n ≤ s.length ∧ 0 ≤ c ∧ c ≤ 127
 | [], _, _, _, h => by cases h
 | c0 :: r, hc, c, n, h => by
  unfold refForms at h
  obtain ⟨h1, h2, h3⟩ := hc c0 (List.mem_cons_self ..)
  split at h
  ·rename_i hp
   have hle := (List.isPrefixOf_iff_prefix.1 hp).length_le
   have hpos := List.length_pos_iff.2 h3
   cases h
   omega
  ·exact refForms_ok s r (fun c hm => hc c (List.mem_cons_of_mem _ hm)) c n h
theorem refC_ok (s : List UInt8) : (refC s).2 = 0 ∨ (1 ≤ (refC s).2 ∧ (refC s).2 ≤ s.length ∧ 0 ≤ (refC s).1 ∧ (refC s).1 ≤ 127) := by
 unfold refC
 cases h : refForms s [38, 60, 62, 34] with
 | some x =>
  right
  obtain ⟨c, n⟩ := x
  exact refForms_ok s _ (by decide) c n h
 | none =>
  simp only [Option.getD_none]
  unfold refNum
  split
  ·split
   ·exact .inl rfl
   ·rename_i h2
    split
    ·rename_i n hn
     split
     ·exact .inl rfl
     ·right
      rename_i h3
      have h4 := Lib.indexByte_ge (s.take 6) 59
      obtain ⟨o, ho⟩ := Int.eq_ofNat_of_zero_le (show 0 ≤ Lib.indexByte (s.take 6) 59 by omega)
      have h5 := (List.getElem?_eq_some_iff.1 (Lib.indexByte_some ho).1).1
      rw [List.length_take] at h5
      rw [not_or, not_or] at h3
      dsimp only
      omega
    ·exact .inl rfl
  ·exact .inl rfl
set_option maxHeartbeats 8000000 in
set_option maxRecDepth 100000 in
theorem escape_Unescape.calls (a0 : ByteArray) (r1 : ByteArray) (r2 r3 : Int) (w : World) (hG : Glob w) (h : escape_Unescape.f a0 = some (r1, r2, r3)) :
  Calls Tryd.prog 41 #[.string a0] w fun e w' => e = .returned (.tuple #[.string r1, .int .i64 r2, .int .i64 r3]) ∧ Below w.heap.size w w' := by
 unfold escape_Unescape.f at h
 by_cases hl : a0.size ≤ 1000000000000
 rotate_left
 ·rw [if_neg hl] at h
  cases h
 rw [if_pos hl] at h
 have HG := qa.mk hG
 have HH := qa.mk h
 clear hG h
 have hls : a0.data.toList.length = a0.size := rfl
 go_enter Tryd.func41, Tryd.ntmps41
 go_wp2_with fail
 go_loopg [6] (a0.size + 1) (fun kq v6 w' => ∃ (j k : Nat) (acc : List UInt8), v6 = .int .i64 (j : Int) ∧ qa (j ≤ a0.size ∧ kq = a0.size + 1 - j ∧ acc.length ≤ j ∧ a0.size ≤ k + j) ∧ qa (unescL (a0.data.toList.drop j) k acc j = unescL a0.data.toList a0.size [] 0) ∧ qa (Bld w.heap.size acc w') ∧ qa (Below w.heap.size w w'))
 case atStart => exact ⟨0, a0.size, [], rfl, ⟨Nat.zero_le _, rfl, Nat.le_refl _, Nat.le_refl _⟩, ⟨rfl⟩, ⟨Bld.fresh w⟩, ⟨qc (Below.refl _ _) _⟩⟩
 case round =>
  obtain ⟨j, k, acc, rfl, HJ, HU, HI, HB⟩ := hrel
  obtain ⟨hj, hk, hacc, hjk⟩ := HJ.out
  clear HJ
  subst hk
  have hsz : w.heap.size ≤ wr.heap.size := HB.out.size
  by_cases hlt : j < a0.size
  ·obtain ⟨k, rfl⟩ : ∃ k', k = k' + 1 := ⟨k - 1, by omega⟩
   have hcons : a0.data.toList.drop j = a0[j] :: a0.data.toList.drop (j + 1) := by
    rw [List.drop_eq_getElem_cons (by omega)]
    rfl
   have hb255 : (a0[j].toNat : Int) ≤ 255 := by have := a0[j].toNat_lt; omega
   by_cases h38 : a0[j].toNat = 38
   ·have hU2 := HU.out
    conv at hU2 => lhs; rw [hcons]; unfold unescL
    dsimp only at hU2
    rw [if_pos h38, ← hcons] at hU2
    have hok := refC_ok (a0.data.toList.drop j)
    have hex : (a0.extract j a0.size).data.toList = a0.data.toList.drop j := by
     simp only [ByteArray.data_extract, Array.toList_extract, List.extract_eq_take_drop]
     exact List.take_of_length_le (by rw [List.length_drop]; omega)
    have HEX := qa.mk hex
    obtain ⟨cc, nn, hcn⟩ : ∃ cc nn, refC (a0.data.toList.drop j) = (cc, nn) := ⟨_, _, rfl⟩
    have HCN := qa.mk hcn
    rw [hcn] at hU2 hok
    dsimp only at hU2 hok
    have c38 : ((a0[j].toNat : Int) == 38) = true := by rw [h38]; rfl
    clear hcn hex hcons
    by_cases hn0 : nn = 0
    ·rw [if_pos hn0] at hU2
     have HU2 := qa.mk hU2
     clear hU2 hok
     subst hn0
     go_wp2_with (first | (go_at_call 59; go_loud (refine (escape_reference.calls _ _ (HG.out.below HB.out)).mono ?_); rintro e w2 ⟨rfl, hb⟩; have HB2 := qa.mk (qm HB.out hb); clear hb; rw [HEX.out, HCN.out]; dsimp only))
     go_ret3
     have h9 := HH.out
     rw [← HU2.out] at h9
     simp only [Option.some.injEq, Prod.mk.injEq] at h9
     obtain ⟨rfl, rfl, rfl⟩ := h9
     exact ⟨rfl, HB2.out⟩
    ·rw [if_neg hn0] at hU2
     obtain ⟨h1, h2, h3, h4⟩ := hok.resolve_left hn0
     have hN1 : (nn == 0) = false := by simpa using hn0
     obtain ⟨m, rfl⟩ := Int.eq_ofNat_of_zero_le (show 0 ≤ nn by omega)
     rw [List.drop_drop] at hU2
     simp only [Int.toNat_natCast] at hU2
     rw [List.length_drop] at h2
     have HU2 := qa.mk hU2
     clear hU2 hok hn0
     go_wp2_with (first | (go_at_call 59; refine (escape_reference.calls _ _ (HG.out.below HB.out)).mono ?_; rintro e w2 ⟨rfl, hb⟩; have HB2 := qa.mk (qm HB.out hb); have HI2 := qa.mk (HI.out.below hb); have hs2 := HB2.out.size; clear hb; rw [HEX.out, HCN.out]; dsimp only) | (go_at_call 24; go_loud (refine (Bld.byte w.heap.size _ cc _ HI2.out h3 (by omega) (by omega) hs2).mono ?_); rintro e w3 ⟨rfl, h3, hb3, _⟩; have HB3 := qa.mk (HB2.out.trans hb3); have HI3 := qa.mk h3; clear h3 hb3))
     go_roundg (a0.size + 1 - (j + m))
     case measure => omega
     case rel => exact ⟨j + m, k, _, by go_num, ⟨by omega, rfl, by simp; omega, by omega⟩, HU2, HI3, HB3⟩
   ·have hU2 := HU.out
    conv at hU2 => lhs; rw [hcons]; unfold unescL
    dsimp only at hU2
    rw [if_neg h38] at hU2
    have c38 : ((a0[j].toNat : Int) == 38) = false := by simp; omega
    have HF := qa.mk (show escape_form.f (a0[j].toNat : Int) = some ⟨(formL (a0[j].toNat : Int)).toArray⟩ from if_pos ⟨by omega, hb255⟩)
    clear hcons
    by_cases hf : formL (a0[j].toNat : Int) = []
    ·rw [if_neg (by rw [hf]; simp)] at hU2
     have HU2 := qa.mk hU2
     have HE := qa.mk hf
     clear hU2 hf
     go_wp2_with (first | (go_at_call 39; refine (escape_form.calls _ _ _ (Glob.below HG.out HB.out) HF.out).mono ?_; rintro e w2 ⟨rfl, hb⟩; have HB2 := qa.mk (qm HB.out hb); have HI2 := qa.mk (HI.out.below hb); have hs2 := HB2.out.size; clear hb; rw [HE.out]) | (go_at_call 24; refine (Bld.byte w.heap.size _ (a0[j].toNat : Int) _ HI2.out (by omega) hb255 (by omega) hs2).mono ?_; rintro e w3 ⟨rfl, h3, hb3, _⟩; have HB3 := qa.mk (HB2.out.trans hb3); have HI3 := qa.mk h3; clear h3 hb3))
     go_roundg (a0.size + 1 - (j + 1))
     case measure => omega
     case rel => exact ⟨j + 1, k, acc ++ [a0[j]], by go_num, ⟨by omega, rfl, by simp; omega, by omega⟩, HU2, ⟨by simpa using HI3.out⟩, HB3⟩
    ·rw [if_pos hf] at hU2
     have HU2 := qa.mk hU2
     have c1 : (formL (a0[j].toNat : Int)).isEmpty = false := by simpa using hf
     clear hU2 hf
     go_wp2_with (first | (go_at_call 39; refine (escape_form.calls _ _ _ (Glob.below HG.out HB.out) HF.out).mono ?_; rintro e w2 ⟨rfl, hb⟩; have HB2 := qa.mk (qm HB.out hb); clear hb))
     go_ret3
     have h9 := HH.out
     rw [← HU2.out] at h9
     simp only [Option.some.injEq, Prod.mk.injEq] at h9
     obtain ⟨rfl, rfl, rfl⟩ := h9
     exact ⟨rfl, HB2.out⟩
  ·have HU2 := qa.mk (show unescL a0.data.toList a0.size [] 0 = .ok acc from by
    rw [← HU.out, List.drop_eq_nil_of_le (by omega)]
    cases k <;> rfl)
   go_wp2_with (go_at_call 27; refine (Bld.out w.heap.size _ _ HI.out hsz).mono ?_; rintro e w2 ⟨rfl, hb⟩; have HB2 := qa.mk (HB.out.trans hb); clear hb)
   go_ret3
   have h9 := HH.out
   rw [HU2.out] at h9
   simp only [Option.some.injEq, Prod.mk.injEq] at h9
   obtain ⟨rfl, rfl, rfl⟩ := h9
   exact ⟨rfl, HB2.out⟩
def query_reader_text.f (s0_0 : ByteArray) (s0_1 : Bool) : Option (ByteArray × ByteArray × Bool) := (qhc.f s0_0 s0_1 (⟨#[34]⟩ : ByteArray)).bind fun bt107 => ((escape_Unescape.f bt107.1).bind fun bt110 => (if bt110.2.2 = 0 then ((qgb.f bt107.2.1 bt107.2.2 (⟨#[34]⟩ : ByteArray)).bind fun bt113 => (if bt113.1 = true then (some (bt110.1, bt113.2.1, bt113.2.2)) else (some (bt110.1, bt113.2.1, true)))) else (some (bt110.1, bt107.2.1, true))))
set_option maxHeartbeats 8000000 in
set_option maxRecDepth 100000 in
theorem query_reader_text.calls (g : Nat) (s0_0 : ByteArray) (s0_1 : Bool) (r1 : ByteArray) (r2 : ByteArray) (r3 : Bool) (w0 w : World) (hG : Glob w0) (hI : IsS55 w0 w g s0_0 s0_1) (hB : Below w0.heap.size w0 w) (h : query_reader_text.f s0_0 s0_1 = some (r1, r2, r3)) :
  Calls Tryd.prog 29 #[.pointer (some ⟨g, 0, none⟩)] w fun e w' => e = .returned (.string r1) ∧ IsS55 w0 w' g r2 r3 ∧ Below w0.heap.size w0 w' ∧ KeepBut w w' g none := by
 have HG := qa.mk hG
 clear hG
 have HI0 := qa.mk hI
 have HK := qa.mk (KeepBut.refl w g none)
 have HL := qa.mk hB.size
 clear hI
 have HW0 := qa.mk hB.size
 have HB := qa.mk hB
 clear hB
 have H : ((qhc.f s0_0 s0_1 (⟨#[34]⟩ : ByteArray)).bind fun bt107 => ((escape_Unescape.f bt107.1).bind fun bt110 => (if bt110.2.2 = 0 then ((qgb.f bt107.2.1 bt107.2.2 (⟨#[34]⟩ : ByteArray)).bind fun bt113 => (if bt113.1 = true then (some (bt110.1, bt113.2.1, bt113.2.2)) else (some (bt110.1, bt113.2.1, true)))) else (some (bt110.1, bt107.2.1, true))))) = some (r1, r2, r3) := h
 clear h
 replace H := Option.bind_eq_some_iff.mp H
 obtain ⟨⟨t107, t108, t109⟩, A20, H⟩ := H
 replace H : ((escape_Unescape.f t107).bind fun bt110 => (if bt110.2.2 = 0 then ((qgb.f t108 t109 (⟨#[34]⟩ : ByteArray)).bind fun bt113 => (if bt113.1 = true then (some (bt110.1, bt113.2.1, bt113.2.2)) else (some (bt110.1, bt113.2.1, true)))) else (some (bt110.1, t108, true)))) = some (r1, r2, r3) := H
 have A2 := qa.mk A20
 clear A20
 replace H := Option.bind_eq_some_iff.mp H
 obtain ⟨⟨t110, t111, t112⟩, A30, H⟩ := H
 replace H : (if t112 = 0 then ((qgb.f t108 t109 (⟨#[34]⟩ : ByteArray)).bind fun bt113 => (if bt113.1 = true then (some (t110, bt113.2.1, bt113.2.2)) else (some (t110, bt113.2.1, true)))) else (some (t110, t108, true))) = some (r1, r2, r3) := H
 have A3 := qa.mk A30
 clear A30
 by_cases c4 : t112 = 0
 ·rw [if_pos c4] at H
  have c4b0 : (t112 == 0) = true := beq_iff_eq.mpr c4
  have c4b1 : (t112 != 0) = false := bne_eq_false_iff_eq.mpr c4
  clear c4
  replace H := Option.bind_eq_some_iff.mp H
  obtain ⟨⟨t113, t114, t115⟩, A50, H⟩ := H
  replace H : (if t113 = true then (some (t110, t114, t115)) else (some (t110, t114, true))) = some (r1, r2, r3) := H
  have A5 := qa.mk A50
  clear A50
  by_cases c6 : t113 = true
  ·subst c6
   have H1 : (some (t110, t114, t115)) = some (r1, r2, r3) := by rw [if_pos rfl] at H; exact H
   clear H
   have H := H1
   clear H1
   simp only [Option.some.injEq, Prod.mk.injEq] at H
   obtain ⟨rfl, rfl, rfl⟩ := H
   go_enter Tryd.func29, Tryd.ntmps29
   go_wp2_with (first | ((with_reducible refine qv (f := 28) rfl ?_); refine qob (some 8) rfl rfl Tryd.func28 (by kernel_rfl) rfl #[.pointer (some ⟨g, 0, none⟩), .string (⟨#[34]⟩ : ByteArray)] rfl zz56 ?_; (with_reducible refine (qhc.calls g s0_0 s0_1 (⟨#[34]⟩ : ByteArray) t107 t108 t109 w0 _ ?side1 ?side2 A2.out).mono ?_); (case side1 => exact zz79); (case side2 => exact zz54); rintro e w7 ⟨rfl, hi, hb, hk⟩; refine ⟨_, rfl, ?_⟩; have n0_ := qa.mk (KeepBut.trans zz61 hk (.inl rfl)); have n1_ := qa.mk (hb); have n2_ := qa.mk (hi); clear HK; clear HB; clear HI0; have HK := n0_; have HB := n1_; have HI0 := n2_; clear n0_ n1_ n2_; (try clear hb); (try clear hb2); (try clear hk); (try clear hi)) | ((with_reducible refine qv (f := 41) rfl ?_); refine qob (some 9) rfl rfl Tryd.func41 (by kernel_rfl) rfl #[.string t107] rfl zz56 ?_; (with_reducible refine (escape_Unescape.calls t107 t110 t111 t112 _ ?side1 A3.out).mono ?_); (case side1 => exact zz77); rintro e w8 ⟨rfl, hb⟩; refine ⟨_, rfl, ?_⟩; have n0_ := qa.mk (IsS55.below zz79 hb); have n1_ := qa.mk (KeepBut.trans zz61 (KeepBut.of_below hb g none) (.inl rfl)); have n2_ := qa.mk (qm zz54 hb); clear HI0; clear HK; clear HB; have HI0 := n0_; have HK := n1_; have HB := n2_; clear n0_ n1_ n2_; (try clear hb); (try clear hb2); (try clear hk); (try clear hi)) | (go_at_call 18; (with_reducible refine (qgb.calls g t108 t109 (⟨#[34]⟩ : ByteArray) true t114 t115 w0 _ ?side1 ?side2 A5.out).mono ?_); (case side1 => exact zz79); (case side2 => exact zz54); rintro e w9 ⟨rfl, hi, hb, hk⟩; have n0_ := qa.mk (KeepBut.trans zz61 hk (.inl rfl)); have n1_ := qa.mk (hb); have n2_ := qa.mk (hi); clear HK; clear HB; clear HI0; have HK := n0_; have HB := n1_; have HI0 := n2_; clear n0_ n1_ n2_; (try clear hb); (try clear hb2); (try clear hk); (try clear hi)))
   go_ret
   exact ⟨zz65, zz79, zz54, zz61⟩
  ·replace c6 := Bool.eq_false_iff.mpr c6
   subst c6
   have H1 : (some (t110, t114, true)) = some (r1, r2, r3) := by rw [if_neg (show ¬ (false = true) by decide)] at H; exact H
   clear H
   have H := H1
   clear H1
   simp only [Option.some.injEq, Prod.mk.injEq] at H
   obtain ⟨rfl, rfl, rfl⟩ := H
   go_enter Tryd.func29, Tryd.ntmps29
   go_wp2_with (first | ((with_reducible refine qv (f := 28) rfl ?_); refine qob (some 8) rfl rfl Tryd.func28 (by kernel_rfl) rfl #[.pointer (some ⟨g, 0, none⟩), .string (⟨#[34]⟩ : ByteArray)] rfl zz56 ?_; (with_reducible refine (qhc.calls g s0_0 s0_1 (⟨#[34]⟩ : ByteArray) t107 t108 t109 w0 _ ?side1 ?side2 A2.out).mono ?_); (case side1 => exact zz79); (case side2 => exact zz54); rintro e w10 ⟨rfl, hi, hb, hk⟩; refine ⟨_, rfl, ?_⟩; have n0_ := qa.mk (KeepBut.trans zz61 hk (.inl rfl)); have n1_ := qa.mk (hb); have n2_ := qa.mk (hi); clear HK; clear HB; clear HI0; have HK := n0_; have HB := n1_; have HI0 := n2_; clear n0_ n1_ n2_; (try clear hb); (try clear hb2); (try clear hk); (try clear hi)) | ((with_reducible refine qv (f := 41) rfl ?_); refine qob (some 9) rfl rfl Tryd.func41 (by kernel_rfl) rfl #[.string t107] rfl zz56 ?_; (with_reducible refine (escape_Unescape.calls t107 t110 t111 t112 _ ?side1 A3.out).mono ?_); (case side1 => exact zz77); rintro e w11 ⟨rfl, hb⟩; refine ⟨_, rfl, ?_⟩; have n0_ := qa.mk (IsS55.below zz79 hb); have n1_ := qa.mk (KeepBut.trans zz61 (KeepBut.of_below hb g none) (.inl rfl)); have n2_ := qa.mk (qm zz54 hb); clear HI0; clear HK; clear HB; have HI0 := n0_; have HK := n1_; have HB := n2_; clear n0_ n1_ n2_; (try clear hb); (try clear hb2); (try clear hk); (try clear hi)) | (go_at_call 18; (with_reducible refine (qgb.calls g t108 t109 (⟨#[34]⟩ : ByteArray) false t114 t115 w0 _ ?side1 ?side2 A5.out).mono ?_); (case side1 => exact zz79); (case side2 => exact zz54); rintro e w12 ⟨rfl, hi, hb, hk⟩; have n0_ := qa.mk (KeepBut.trans zz61 hk (.inl rfl)); have n1_ := qa.mk (hb); have n2_ := qa.mk (hi); clear HK; clear HB; clear HI0; have HK := n0_; have HB := n1_; have HI0 := n2_; clear n0_ n1_ n2_; (try clear hb); (try clear hb2); (try clear hk); (try clear hi); obtain ⟨HGz13, hgz13⟩ := HI0.out; have hcz13_0 := cellS55_0 HGz13; have hcz13_1 := cellS55_1 HGz13; have hfz13_0 := qf HGz13 0; have hfz13_1 := qf HGz13 1; clear HGz13 hgz13))
   go_ret
   exact ⟨zz65, zz79, zz54, zz61⟩
 ·rw [if_neg c4] at H
  have c4b0 : (t112 == 0) = false := beq_eq_false_iff_ne.mpr c4
  have c4b1 : (t112 != 0) = true := bne_iff_ne.mpr c4
  simp only [Option.some.injEq, Prod.mk.injEq] at H
  obtain ⟨rfl, rfl, rfl⟩ := H
  go_enter Tryd.func29, Tryd.ntmps29
  go_wp2_with (first | ((with_reducible refine qv (f := 28) rfl ?_); refine qob (some 8) rfl rfl Tryd.func28 (by kernel_rfl) rfl #[.pointer (some ⟨g, 0, none⟩), .string (⟨#[34]⟩ : ByteArray)] rfl zz56 ?_; (with_reducible refine (qhc.calls g s0_0 s0_1 (⟨#[34]⟩ : ByteArray) t107 t108 t109 w0 _ ?side1 ?side2 A2.out).mono ?_); (case side1 => exact zz79); (case side2 => exact zz54); rintro e w14 ⟨rfl, hi, hb, hk⟩; refine ⟨_, rfl, ?_⟩; have n0_ := qa.mk (KeepBut.trans zz61 hk (.inl rfl)); have n1_ := qa.mk (hb); have n2_ := qa.mk (hi); clear HK; clear HB; clear HI0; have HK := n0_; have HB := n1_; have HI0 := n2_; clear n0_ n1_ n2_; (try clear hb); (try clear hb2); (try clear hk); (try clear hi)) | ((with_reducible refine qv (f := 41) rfl ?_); refine qob (some 9) rfl rfl Tryd.func41 (by kernel_rfl) rfl #[.string t107] rfl zz56 ?_; (with_reducible refine (escape_Unescape.calls t107 t110 t111 t112 _ ?side1 A3.out).mono ?_); (case side1 => exact zz77); rintro e w15 ⟨rfl, hb⟩; refine ⟨_, rfl, ?_⟩; have n0_ := qa.mk (IsS55.below zz79 hb); have n1_ := qa.mk (KeepBut.trans zz61 (KeepBut.of_below hb g none) (.inl rfl)); have n2_ := qa.mk (qm zz54 hb); clear HI0; clear HK; clear HB; have HI0 := n0_; have HK := n1_; have HB := n2_; clear n0_ n1_ n2_; (try clear hb); (try clear hb2); (try clear hk); (try clear hi); obtain ⟨HGz16, hgz16⟩ := HI0.out; have hcz16_0 := cellS55_0 HGz16; have hcz16_1 := cellS55_1 HGz16; have hfz16_0 := qf HGz16 0; have hfz16_1 := qf HGz16 1; clear HGz16 hgz16))
  go_ret
  exact ⟨zz65, zz79, zz54, zz61⟩
def part_cond.f (s0 : ByteArray) (b0 : Bool) : Option (S33 × ByteArray × Bool) :=
 (qhc.f s0 b0 ⟨#[61, 93]⟩).bind fun x => (qgb.f x.2.1 x.2.2 ⟨#[61, 34]⟩).bind fun y =>
  (if y.1 = true then (query_reader_text.f y.2.1 y.2.2).bind fun z => some (z.1, true, z.2.1, z.2.2) else some (⟨#[]⟩, false, y.2.1, y.2.2)).bind fun v =>
   if v.2.2.2 = true then some (⟨x.1, v.1, v.2.1⟩, v.2.2.1, true) else (qgb.f v.2.2.1 v.2.2.2 ⟨#[93]⟩).bind fun u => some (⟨x.1, v.1, v.2.1⟩, u.2.1, !u.1)
def part_conds.f : Nat → List S33 → ByteArray → Bool → Option (List S33 × ByteArray × Bool)
 | 0, _, _, _ => none
 | k + 1, acc, s, b => if b = true then some (acc, s, b) else if acc.length ≤ 8 then (qgb.f s b ⟨#[91]⟩).bind fun y => if y.1 = true then (part_cond.f y.2.1 y.2.2).bind fun c => part_conds.f k (acc ++ [c.1]) c.2.1 c.2.2 else some (acc, y.2.1, y.2.2) else some (acc, s, b)
def qyb.f (s0 : ByteArray) (b0 : Bool) : Option (Bool × Bool × ByteArray × ByteArray × List S33 × ByteArray × Bool) :=
 (qgb.f s0 b0 ⟨#[42]⟩).bind fun x => (if x.1 = true then some ((⟨#[]⟩ : ByteArray), x.2.1, x.2.2) else (qhc.f x.2.1 x.2.2 ⟨#[35, 91, 62, 32]⟩).bind fun t => some (t.1, t.2.1, t.2.2 || t.1.data.toList.isEmpty)).bind fun t =>
  (qgb.f t.2.1 t.2.2 ⟨#[35, 34]⟩).bind fun y => (if y.1 = true then query_reader_text.f y.2.1 y.2.2 else some (⟨#[]⟩, y.2.1, y.2.2)).bind fun z =>
   (part_conds.f 10 [] z.2.1 z.2.2).bind fun c => some (false, y.1, t.1, z.1, c.1, c.2.1, c.2.2)
theorem keep_new {w W : World} {g b j : Nat} (h : KeepBut w W g none) (hb : w.heap.size ≤ b) (u : Value) : KeepBut w (W.setCell ⟨b, j, none⟩ u) g none :=
 ⟨by simpa [World.setCell] using h.1, fun i hi hg hr => (Below.heap_setCell W ⟨b, j, none⟩ u i (by show i ≠ b; omega)).trans (h.2 i hi hg hr)⟩
structure PC (w0 w : World) (bx g bc : Nat) (s : ByteArray) (b : Bool) (c0 c1 : ByteArray) (c2 : Bool) (W : World) : Prop where
 hx : W.heap[bx]? = some (.cells #[.pointer (some ⟨g, 0, none⟩)] 53 (0, 0))
 hr : W.heap[w.heap.size]? = some (.cells #[.string ⟨#[]⟩, .string ⟨#[]⟩, .bool false] 33 (0, 0))
 hc : W.heap[bc]? = some (.cells #[.string c0, .string c1, .bool c2] 33 (0, 0))
 hn : w.heap.size < bc
 hl : w0.heap.size ≤ w.heap.size
 hi : IsS55 w0 W g s b
 hb : Below w0.heap.size w0 W
 hk : KeepBut w W g none
section
variable {w0 w W W1 : World} {bx g bc : Nat} {s s1 : ByteArray} {b b1 : Bool} {c0 c1 : ByteArray} {c2 : Bool}
theorem PC.ne (h : PC w0 w bx g bc s b c0 c1 c2 W) : bx ≠ g ∧ w.heap.size ≠ g ∧ bc ≠ g ∧ bx ≠ bc := ⟨blk_ne h.hx h.hi.1 (by decide), blk_ne h.hr h.hi.1 (by decide), blk_ne h.hc h.hi.1 (by decide), blk_ne h.hx h.hc (by decide)⟩
theorem PC.call (h : PC w0 w bx g bc s b c0 c1 c2 W) (hi : IsS55 w0 W1 g s1 b1) (hb : Below w0.heap.size w0 W1) (hk : KeepBut W W1 g none) : PC w0 w bx g bc s1 b1 c0 c1 c2 W1 :=
 ⟨hk.blk h.hx h.ne.1 (by simp), hk.blk h.hr h.ne.2.1 (by simp), hk.blk h.hc h.ne.2.2.1 (by simp), h.hn, h.hl, hi, hb, h.hk.trans hk (.inl rfl)⟩
theorem PC.drew (h : PC w0 w bx g bc s b c0 c1 c2 W) : PC w0 w bx g bc s b c0 c1 c2 W.drew := ⟨h.hx, h.hr, h.hc, h.hn, h.hl, h.hi.drew, h.hb.drew, keep_drew h.hk⟩
theorem PC.bad (h : PC w0 w bx g bc s b c0 c1 c2 W) (x : Bool) : PC w0 w bx g bc s x c0 c1 c2 (W.setCell ⟨g, 1, none⟩ (.bool x)) :=
 ⟨qkb h.hx h.ne.1 _, qkb h.hr h.ne.2.1 _, qkb h.hc h.ne.2.2.1 _, h.hn, h.hl, h.hi.set_1 x, qj h.hb h.hi.2, h.hk.set_ 1 _⟩
theorem PC.set1 (h : PC w0 w bx g bc s b c0 c1 c2 W) (x : ByteArray) : PC w0 w bx g bc s b c0 x c2 (W.setCell ⟨bc, 1, none⟩ (.string x)) :=
 ⟨qkb h.hx h.ne.2.2.2 _, qkb h.hr (qkc h.hn) _, qq h.hc 1 _ rfl, h.hn, h.hl, h.hi.far (Ne.symm h.ne.2.2.1) _, qj h.hb (Nat.le_of_lt (Nat.lt_of_le_of_lt h.hl h.hn)), keep_new h.hk (Nat.le_of_lt h.hn) _⟩
theorem PC.set2 (h : PC w0 w bx g bc s b c0 c1 c2 W) (x : Bool) : PC w0 w bx g bc s b c0 c1 x (W.setCell ⟨bc, 2, none⟩ (.bool x)) :=
 ⟨qkb h.hx h.ne.2.2.2 _, qkb h.hr (qkc h.hn) _, qq h.hc 2 _ rfl, h.hn, h.hl, h.hi.far (Ne.symm h.ne.2.2.1) _, qj h.hb (Nat.le_of_lt (Nat.lt_of_le_of_lt h.hl h.hn)), keep_new h.hk (Nat.le_of_lt h.hn) _⟩
theorem PC.look (h : PC w0 w bx g bc s b c0 c1 c2 W) : W.cell? ⟨bx, 0, none⟩ = some (.pointer (some ⟨g, 0, none⟩)) ∧ W.cell? ⟨g, 0, none⟩ = some (.string s) ∧ W.cell? ⟨g, 1, none⟩ = some (.bool b) ∧ W.cell? ⟨bc, 0, none⟩ = some (.string c0) ∧ W.cell? ⟨bc, 1, none⟩ = some (.string c1) ∧ W.cell? ⟨bc, 2, none⟩ = some (.bool c2) ∧ W.frozen? ⟨g, 1, none⟩ = false ∧ W.frozen? ⟨bc, 1, none⟩ = false ∧ W.frozen? ⟨bc, 2, none⟩ = false :=
 ⟨(qg h.hx 0).trans rfl, (qg h.hi.1 0).trans rfl, (qg h.hi.1 1).trans rfl, (qg h.hc 0).trans rfl, (qg h.hc 1).trans rfl, (qg h.hc 2).trans rfl, qf h.hi.1 1, qf h.hc 1, qf h.hc 2⟩
theorem PC.end (h : PC w0 w bx g bc s b c0 c1 c2 W) (u0 u1 u2 : Value) : IsS55 w0 (((W.setCell ⟨w.heap.size, 0, none⟩ u0).setCell ⟨w.heap.size, 1, none⟩ u1).setCell ⟨w.heap.size, 2, none⟩ u2) g s b ∧ Below w0.heap.size w0 (((W.setCell ⟨w.heap.size, 0, none⟩ u0).setCell ⟨w.heap.size, 1, none⟩ u1).setCell ⟨w.heap.size, 2, none⟩ u2) ∧ KeepBut w (((W.setCell ⟨w.heap.size, 0, none⟩ u0).setCell ⟨w.heap.size, 1, none⟩ u1).setCell ⟨w.heap.size, 2, none⟩ u2) g none :=
 ⟨((h.hi.far (Ne.symm h.ne.2.1) _).far (Ne.symm h.ne.2.1) _).far (Ne.symm h.ne.2.1) _, qj (qj (qj h.hb h.hl) h.hl) h.hl, keep_new (keep_new (keep_new h.hk (Nat.le_refl _) _) (Nat.le_refl _) _) (Nat.le_refl _) _⟩
end
set_option maxHeartbeats 8000000 in
set_option maxRecDepth 100000 in
theorem qyb.cond (bx g : Nat) (s0 : ByteArray) (b0 : Bool) (c : S33) (s1 : ByteArray) (b1 : Bool) (w0 w : World) (hG : Glob w0) (hI : IsS55 w0 w g s0 b0) (hB : Below w0.heap.size w0 w) (hx : w.heap[bx]? = some (.cells #[.pointer (some ⟨g, 0, none⟩)] 53 (0, 0))) (h : part_cond.f s0 b0 = some (c, s1, b1)) :
  Calls Tryd.prog 30 #[.pointer (some ⟨bx, 0, none⟩)] w fun e w' => e = .returned (.agg #[.string c.f0, .string c.f1, .bool c.f2]) ∧ IsS55 w0 w' g s1 b1 ∧ Below w0.heap.size w0 w' ∧ KeepBut w w' g none := by
 obtain ⟨⟨nm, s2, b2⟩, hrun, h2⟩ := Option.bind_eq_some_iff.1 h
 obtain ⟨⟨ok, s3, b3⟩, his, h3⟩ := Option.bind_eq_some_iff.1 h2
 obtain ⟨⟨v, gv, s4, b4⟩, htx, h4⟩ := Option.bind_eq_some_iff.1 h3
 clear h h2 h3
 dsimp only at hrun his htx h4
 have HRUN := qa.mk hrun
 have HIS := qa.mk his
 have HTX := qa.mk htx
 have HH := qa.mk h4
 have HG := qa.mk hG
 have HI := qa.mk hI
 have HB := qa.mk hB
 have HX := qa.mk hx
 have hs := hB.size
 have HNE := qa.mk (blk_ne hx hI.1 (by decide))
 have hu1 := Tryd.underlying33
 clear hrun his htx h4 hG hI hB
 obtain ⟨w1, hw1⟩ : ∃ w1, w1 = w.alloc (.cells #[.string ⟨#[]⟩, .string ⟨#[]⟩, .bool false] 33) := ⟨_, rfl⟩
 have hx1 := (qg (qh hx (.cells #[.string ⟨#[]⟩, .string ⟨#[]⟩, .bool false] 33)) 0).trans (show _ = some (Value.pointer (some ⟨g, 0, none⟩)) from rfl)
 have HK1 := qa.mk (keep_alloc (KeepBut.refl w g none) (.cells #[.string ⟨#[]⟩, .string ⟨#[]⟩, .bool false] 33))
 have HI1 := qa.mk (HI.out.alloc (.cells #[.string ⟨#[]⟩, .string ⟨#[]⟩, .bool false] 33))
 have HB1 := qa.mk (qc HB.out (.cells #[.string ⟨#[]⟩, .string ⟨#[]⟩, .bool false] 33))
 have HR1 := qa.mk (heap_alloc_new w (.cells #[.string ⟨#[]⟩, .string ⟨#[]⟩, .bool false] 33))
 clear hx hw1 w1
 go_enter Tryd.func30, Tryd.ntmps30
 go_upto_if 7 with (first
  | (go_at_call 28; refine (qhc.calls g _ _ _ _ _ _ w0 _ HI1.out HB1.out HRUN.out).mono ?_; rintro e w2 ⟨rfl, hi2, hb2, hk2⟩; have HP2 := qa.mk (show PC w0 w bx g w2.heap.size s2 b2 nm ⟨#[]⟩ false (w2.alloc (.cells #[.string nm, .string ⟨#[]⟩, .bool false] 33)) from ⟨qh (hk2.blk (qh HX.out _) HNE.out (by simp)) _, qh (hk2.blk HR1.out (blk_ne HR1.out HI1.out.1 (by decide)) (by simp)) _, heap_alloc_new _ _, blk_lt (hk2.blk HR1.out (blk_ne HR1.out HI1.out.1 (by decide)) (by simp)), hs, hi2.alloc _, qc hb2 _, keep_alloc (HK1.out.trans hk2 (.inl rfl)) _⟩); obtain ⟨hp0, hp1, hp2, hp3, hp4, hp5, hp6, hp7, hp8⟩ := HP2.out.look; clear hi2 hb2 hk2)
  | (go_at_call 18; go_loud (refine (qgb.calls g _ _ _ _ _ _ w0 _ HP2.out.hi HP2.out.hb HIS.out).mono ?_); rintro e w3 ⟨rfl, hi3, hb3, hk3⟩; have HP3 := qa.mk (HP2.out.call hi3 hb3 hk3); clear hi3 hb3 hk3))
 clear hp0 hp1 hp2 hp3 hp4 hp5 hp6 hp7 hp8 hx1
 obtain ⟨hp0, hp1, hp2, hp3, hp4, hp5, hp6, hp7, hp8⟩ := HP3.out.look
 go_cut [] (fun wc => qa (PC w0 w bx g w2.heap.size s4 b4 nm v gv wc))
 case first =>
  cases ok
  ·have hq := HTX.out
   rw [if_neg Bool.false_ne_true] at hq
   simp only [Option.some.injEq, Prod.mk.injEq] at hq
   obtain ⟨rfl, rfl, rfl, rfl⟩ := hq
   go_wp2_with fail
   go_meet
   exact HP3
  ·have hq := HTX.out
   rw [if_pos rfl] at hq
   obtain ⟨⟨z1, z2, z3⟩, hz, hq⟩ := Option.bind_eq_some_iff.1 hq
   simp only [Option.some.injEq, Prod.mk.injEq] at hq
   obtain ⟨rfl, rfl, rfl, rfl⟩ := hq
   have HZ := qa.mk hz
   clear hz
   go_wp2_with (first
    | (go_at_call 29; go_loud (refine (query_reader_text.calls g _ _ _ _ _ w0 _ HG.out HP3.out.hi HP3.out.hb HZ.out).mono ?_); rintro e w4 ⟨rfl, hi4, hb4, hk4⟩; have HP4 := qa.mk (HP3.out.call hi4 hb4 hk4); obtain ⟨hq0, hq1, hq2, hq3, hq4, hq5, hq6, hq7, hq8⟩ := HP4.out.look; clear hi4 hb4 hk4))
   go_meet
   exact ⟨(HP4.out.set2 true).set1 _⟩
 case rest =>
  clear hp0 hp1 hp2 hp3 hp4 hp5 hp6 hp7 hp8
  obtain ⟨hp0, hp1, hp2, hp3, hp4, hp5, hp6, hp7, hp8⟩ := hcut.out.look
  cases b4
  ·have hq := HH.out
   rw [if_neg Bool.false_ne_true] at hq
   obtain ⟨⟨z1, z2, z3⟩, hz, hq⟩ := Option.bind_eq_some_iff.1 hq
   simp only [Option.some.injEq, Prod.mk.injEq] at hq
   obtain ⟨rfl, rfl, rfl⟩ := hq
   have HZ := qa.mk hz
   clear hz
   clear hq HH HTX HRUN HIS
   go_wp2_with fail
   go_cut [] (fun wd => qa (PC w0 w bx g w2.heap.size z2 (!z1) nm v gv wd))
   case first =>
    go_region_with (first | (go_at_call 18; refine (qgb.calls g _ _ _ _ _ _ w0 _ hcut.out.drew.hi hcut.out.drew.hb HZ.out).mono ?_; rintro e w5 ⟨rfl, hi5, hb5, hk5⟩; have HP5 := qa.mk (hcut.out.drew.call hi5 hb5 hk5); obtain ⟨hr0, hr1, hr2, hr3, hr4, hr5, hr6, hr7, hr8⟩ := HP5.out.look; clear hi5 hb5 hk5))
    all_goals go_wp2_with fail
    all_goals go_meet
    all_goals exact ⟨HP5.out.bad (!z1)⟩
   case rest =>
    have HP6 := hcut
    clear hp0 hp1 hp2 hp3 hp4 hp5 hp6 hp7 hp8
    obtain ⟨hp0, hp1, hp2, hp3, hp4, hp5, hp6, hp7, hp8⟩ := HP6.out.look
    have hz0 := qf HP6.out.hr 0
    have hz1 := qf HP6.out.hr 1
    have hz2 := qf HP6.out.hr 2
    have hz3 : _ = some (Value.string ⟨#[]⟩) := qg HP6.out.hr 0
    have hz4 : _ = some (Value.string ⟨#[]⟩) := qg HP6.out.hr 1
    have hz5 : _ = some (Value.bool false) := qg HP6.out.hr 2
    go_wp2_with fail
    (try simp only [Exit.inBlock, Exit.then])
    refine bodyPost_ret (v := .agg #[.string nm, .string v, .bool gv]) ?_ rfl ?_
    exact results_cell_row rfl _ _ w.heap.size 33 #[.string nm, .string v, .bool gv] (0, 0) _ rfl (qq (qq (qq HP6.out.hr 0 _ rfl) 1 _ rfl) 2 _ rfl) Tryd.underlying33 rfl (by kernel_rfl)
    exact ⟨rfl, HP6.out.end _ _ _⟩
  ·have hq := HH.out
   rw [if_pos rfl] at hq
   simp only [Option.some.injEq, Prod.mk.injEq] at hq
   obtain ⟨rfl, rfl, rfl⟩ := hq
   clear HH HTX HRUN HIS
   go_wp2_with fail
   go_cut [] (fun wd => qa (PC w0 w bx g w2.heap.size s4 true nm v gv wd))
   case first =>
    go_region_with fail
    all_goals go_wp2_with fail
    all_goals go_meet
    all_goals exact ⟨hcut.out.drew.bad true⟩
   case rest =>
    have HP6 := hcut
    clear hp0 hp1 hp2 hp3 hp4 hp5 hp6 hp7 hp8
    obtain ⟨hp0, hp1, hp2, hp3, hp4, hp5, hp6, hp7, hp8⟩ := HP6.out.look
    have hz0 := qf HP6.out.hr 0
    have hz1 := qf HP6.out.hr 1
    have hz2 := qf HP6.out.hr 2
    have hz3 : _ = some (Value.string ⟨#[]⟩) := qg HP6.out.hr 0
    have hz4 : _ = some (Value.string ⟨#[]⟩) := qg HP6.out.hr 1
    have hz5 : _ = some (Value.bool false) := qg HP6.out.hr 2
    go_wp2_with fail
    (try simp only [Exit.inBlock, Exit.then])
    refine bodyPost_ret (v := .agg #[.string nm, .string v, .bool gv]) ?_ rfl ?_
    exact results_cell_row rfl _ _ w.heap.size 33 #[.string nm, .string v, .bool gv] (0, 0) _ rfl (qq (qq (qq HP6.out.hr 0 _ rfl) 1 _ rfl) 2 _ rfl) Tryd.underlying33 rfl (by kernel_rfl)
    exact ⟨rfl, HP6.out.end _ _ _⟩
structure PP (w0 w : World) (g : Nat) (s : ByteArray) (b : Bool) (p1 : Bool) (p2 p3 : ByteArray) (vs : Value) (cs : List S33) (W : World) : Prop where
 hx : W.heap[w.heap.size]? = some (.cells #[.pointer (some ⟨g, 0, none⟩)] 53 (0, 0))
 hr : W.heap[w.heap.size + 1]? = some (.cells #[.bool false, .bool false, .string ⟨#[]⟩, .string ⟨#[]⟩, .slice none 0 0] 41 (0, 0))
 hp : W.heap[w.heap.size + 1 + 1]? = some (.cells #[.bool false, .bool p1, .string p2, .string p3, vs] 41 (0, 0))
 ho : Kd.R k33 33 W w.heap.size (fun _ => True) vs cs
 hl : w0.heap.size ≤ w.heap.size
 hi : IsS55 w0 W g s b
 hb : Below w0.heap.size w0 W
 hk : KeepBut w W g none
section
variable {w0 w W W1 : World} {g : Nat} {s s1 : ByteArray} {b b1 : Bool} {p1 : Bool} {p2 p3 : ByteArray} {vs : Value} {cs : List S33}
theorem PP.ne (h : PP w0 w g s b p1 p2 p3 vs cs W) : w.heap.size ≠ g ∧ w.heap.size + 1 ≠ g ∧ w.heap.size + 1 + 1 ≠ g := ⟨blk_ne h.hx h.hi.1 (by decide), blk_ne h.hr h.hi.1 (by decide), blk_ne h.hp h.hi.1 (by decide)⟩
theorem PP.call (h : PP w0 w g s b p1 p2 p3 vs cs W) (hi : IsS55 w0 W1 g s1 b1) (hb : Below w0.heap.size w0 W1) (hk : KeepBut W W1 g none) : PP w0 w g s1 b1 p1 p2 p3 vs cs W1 :=
 ⟨hk.blk h.hx h.ne.1 (by simp), hk.blk h.hr h.ne.2.1 (by simp), hk.blk h.hp h.ne.2.2 (by simp), Kd.R_mono (Kd.R_keep (Kd.R_types h.ho h.hi.1 (by decide)) hk (fun _ hh => hh.2)) (fun _ _ => trivial), h.hl, hi, hb, h.hk.trans hk (.inl rfl)⟩
theorem PP.drew (h : PP w0 w g s b p1 p2 p3 vs cs W) : PP w0 w g s b p1 p2 p3 vs cs W.drew := ⟨h.hx, h.hr, h.hp, Kd.R_drew h.ho, h.hl, h.hi.drew, h.hb.drew, keep_drew h.hk⟩
theorem PP.bad (h : PP w0 w g s b p1 p2 p3 vs cs W) (x : Bool) : PP w0 w g s x p1 p2 p3 vs cs (W.setCell ⟨g, 1, none⟩ (.bool x)) :=
 ⟨qkb h.hx h.ne.1 _, qkb h.hr h.ne.2.1 _, qkb h.hp h.ne.2.2 _, Kd.R_set h.ho h.hi.1 (by decide) _ _, h.hl, h.hi.set_1 x, qj h.hb h.hi.2, h.hk.set_ 1 _⟩
theorem PP.set1 (h : PP w0 w g s b p1 p2 p3 vs cs W) (x : Bool) : PP w0 w g s b x p2 p3 vs cs (W.setCell ⟨w.heap.size + 1 + 1, 1, none⟩ (.bool x)) :=
 ⟨qkb h.hx zz0 _, qkb h.hr zz0 _, qq h.hp 1 _ rfl, Kd.R_set h.ho h.hp (by decide) _ _, h.hl, h.hi.far (Ne.symm h.ne.2.2) _, qj h.hb (by have := h.hl; omega), keep_new h.hk (by omega) _⟩
theorem PP.set2 (h : PP w0 w g s b p1 p2 p3 vs cs W) (x : ByteArray) : PP w0 w g s b p1 x p3 vs cs (W.setCell ⟨w.heap.size + 1 + 1, 2, none⟩ (.string x)) :=
 ⟨qkb h.hx zz0 _, qkb h.hr zz0 _, qq h.hp 2 _ rfl, Kd.R_set h.ho h.hp (by decide) _ _, h.hl, h.hi.far (Ne.symm h.ne.2.2) _, qj h.hb (by have := h.hl; omega), keep_new h.hk (by omega) _⟩
theorem PP.set3 (h : PP w0 w g s b p1 p2 p3 vs cs W) (x : ByteArray) : PP w0 w g s b p1 p2 x vs cs (W.setCell ⟨w.heap.size + 1 + 1, 3, none⟩ (.string x)) :=
 ⟨qkb h.hx zz0 _, qkb h.hr zz0 _, qq h.hp 3 _ rfl, Kd.R_set h.ho h.hp (by decide) _ _, h.hl, h.hi.far (Ne.symm h.ne.2.2) _, qj h.hb (by have := h.hl; omega), keep_new h.hk (by omega) _⟩
theorem PP.grow (h : PP w0 w g s b p1 p2 p3 vs cs W) {v1 : Value} {cs1 : List S33} (ho : Kd.R k33 33 W1 w.heap.size (fun _ => True) v1 cs1) (hb : Below w.heap.size W W1) (hg : W.grownBy W1 vs.ownBlock) : PP w0 w g s b p1 p2 p3 v1 cs1 (W1.setCell ⟨w.heap.size + 1 + 1, 4, none⟩ v1) := by
 have e1 := blk_grown h.hx hg (Kd.R_ne h.ho h.hx (by decide))
 have e2 := blk_grown h.hr hg (Kd.R_ne h.ho h.hr (by decide))
 have e3 := blk_grown h.hp hg (Kd.R_ne h.ho h.hp (by decide))
 exact ⟨qkb e1 zz0 _, qkb e2 zz0 _, qq e3 4 _ rfl, Kd.R_set ho e3 (by decide) _ _, h.hl, (h.hi.grown hg (Kd.R_ne h.ho h.hi.1 (by decide))).far (Ne.symm h.ne.2.2) _, qj (h.hb.trans (hb.mono h.hl)) (by have := h.hl; omega), keep_new ⟨Nat.le_trans h.hk.1 hg.size, fun i hi hgi hn => (hb.block i hi).trans (h.hk.2 i hi hgi hn)⟩ (by omega) _⟩
theorem PP.look (h : PP w0 w g s b p1 p2 p3 vs cs W) : W.cell? ⟨w.heap.size, 0, none⟩ = some (.pointer (some ⟨g, 0, none⟩)) ∧ W.cell? ⟨g, 1, none⟩ = some (.bool b) ∧ W.cell? ⟨w.heap.size + 1 + 1, 0, none⟩ = some (.bool false) ∧ W.cell? ⟨w.heap.size + 1 + 1, 1, none⟩ = some (.bool p1) ∧ W.cell? ⟨w.heap.size + 1 + 1, 2, none⟩ = some (.string p2) ∧ W.cell? ⟨w.heap.size + 1 + 1, 3, none⟩ = some (.string p3) ∧ W.cell? ⟨w.heap.size + 1 + 1, 4, none⟩ = some vs :=
 ⟨(qg h.hx 0).trans rfl, (qg h.hi.1 1).trans rfl, (qg h.hp 0).trans rfl, (qg h.hp 1).trans rfl, (qg h.hp 2).trans rfl, (qg h.hp 3).trans rfl, (qg h.hp 4).trans rfl⟩
theorem PP.free (h : PP w0 w g s b p1 p2 p3 vs cs W) : W.frozen? ⟨g, 1, none⟩ = false ∧ W.frozen? ⟨w.heap.size + 1 + 1, 1, none⟩ = false ∧ W.frozen? ⟨w.heap.size + 1 + 1, 2, none⟩ = false ∧ W.frozen? ⟨w.heap.size + 1 + 1, 3, none⟩ = false ∧ W.frozen? ⟨w.heap.size + 1 + 1, 4, none⟩ = false :=
 ⟨qf h.hi.1 1, qf h.hp 1, qf h.hp 2, qf h.hp 3, qf h.hp 4⟩
end
structure PE (w0 w : World) (g : Nat) (s : ByteArray) (b : Bool) (vs : Value) (cs : List S33) (r : Array Value) (W : World) : Prop where
 hr : W.heap[w.heap.size + 1]? = some (.cells r 41 (0, 0))
 ho : Kd.R k33 33 W w.heap.size (fun _ => True) vs cs
 hl : w0.heap.size ≤ w.heap.size
 hi : IsS55 w0 W g s b
 hb : Below w0.heap.size w0 W
 hk : KeepBut w W g none
theorem PE.put {w0 w W : World} {g : Nat} {s : ByteArray} {b : Bool} {vs : Value} {cs : List S33} {r : Array Value} (h : PE w0 w g s b vs cs r W) (j : Nat) (u : Value) : PE w0 w g s b vs cs (r.setIfInBounds j u) (W.setCell ⟨w.heap.size + 1, j, none⟩ u) :=
 ⟨qq h.hr j u rfl, Kd.R_set h.ho h.hr (by decide) _ _, h.hl, h.hi.far (Ne.symm (blk_ne h.hr h.hi.1 (by decide))) _, qj h.hb (by have := h.hl; omega), keep_new h.hk (by omega) _⟩
theorem PP.last {w0 w W : World} {g : Nat} {s : ByteArray} {b : Bool} {p1 : Bool} {p2 p3 : ByteArray} {vs : Value} {cs : List S33} (h : PP w0 w g s b p1 p2 p3 vs cs W) :
  PE w0 w g s b vs cs #[.bool false, .bool p1, .string p2, .string p3, vs] (((((W.setCell ⟨w.heap.size + 1, 0, none⟩ (.bool false)).setCell ⟨w.heap.size + 1, 1, none⟩ (.bool p1)).setCell ⟨w.heap.size + 1, 2, none⟩ (.string p2)).setCell ⟨w.heap.size + 1, 3, none⟩ (.string p3)).setCell ⟨w.heap.size + 1, 4, none⟩ vs) :=
 ((((PE.put ⟨h.hr, h.ho, h.hl, h.hi, h.hb, h.hk⟩ 0 _).put 1 _).put 2 _).put 3 _).put 4 _
theorem PP.back {w0 w W : World} {g : Nat} {s : ByteArray} {b : Bool} {p1 : Bool} {p2 p3 : ByteArray} {vs : Value} {cs : List S33} (h : PP w0 w g s b p1 p2 p3 vs cs W) :
  W.frozen? ⟨w.heap.size + 1, 0, none⟩ = false ∧ W.frozen? ⟨w.heap.size + 1, 1, none⟩ = false ∧ W.frozen? ⟨w.heap.size + 1, 2, none⟩ = false ∧ W.frozen? ⟨w.heap.size + 1, 3, none⟩ = false ∧ W.frozen? ⟨w.heap.size + 1, 4, none⟩ = false ∧ W.cell? ⟨w.heap.size + 1, 0, none⟩ = some (.bool false) ∧ W.cell? ⟨w.heap.size + 1, 1, none⟩ = some (.bool false) ∧ W.cell? ⟨w.heap.size + 1, 2, none⟩ = some (.string ⟨#[]⟩) ∧ W.cell? ⟨w.heap.size + 1, 3, none⟩ = some (.string ⟨#[]⟩) ∧ W.cell? ⟨w.heap.size + 1, 4, none⟩ = some (.slice none 0 0) :=
 ⟨qf h.hr 0, qf h.hr 1, qf h.hr 2, qf h.hr 3, qf h.hr 4, qg h.hr 0, qg h.hr 1, qg h.hr 2, qg h.hr 3, qg h.hr 4⟩
set_option maxHeartbeats 8000000 in
set_option maxRecDepth 100000 in
theorem qyb.calls (g : Nat) (s0_0 : ByteArray) (s0_1 : Bool) (r1 r2 : Bool) (r3 r4 : ByteArray) (r5 : List S33) (r6 : ByteArray) (r7 : Bool) (w0 w : World) (hG : Glob w0) (hI : IsS55 w0 w g s0_0 s0_1) (hB : Below w0.heap.size w0 w) (h : qyb.f s0_0 s0_1 = some (r1, r2, r3, r4, r5, r6, r7)) :
  Calls Tryd.prog 17 #[.pointer (some ⟨g, 0, none⟩)] w fun e w' => ∃ v : Value, e = .returned (.agg #[.bool r1, .bool r2, .string r3, .string r4, v]) ∧ Kd.R k33 33 w' w.heap.size (fun _ => True) v r5 ∧ IsS55 w0 w' g r6 r7 ∧ Below w0.heap.size w0 w' ∧ KeepBut w w' g none := by
 obtain ⟨⟨st, s2, b2⟩, his, h2⟩ := Option.bind_eq_some_iff.1 h
 obtain ⟨⟨tg, s3, b3⟩, htg, h3⟩ := Option.bind_eq_some_iff.1 h2
 obtain ⟨⟨kd, s4, b4⟩, his2, h4⟩ := Option.bind_eq_some_iff.1 h3
 obtain ⟨⟨ky, s5, b5⟩, hky, h5⟩ := Option.bind_eq_some_iff.1 h4
 obtain ⟨⟨cs, s6, b6⟩, hcs, h6⟩ := Option.bind_eq_some_iff.1 h5
 clear h h2 h3 h4 h5
 dsimp only at his htg his2 hky hcs h6
 simp only [Option.some.injEq, Prod.mk.injEq] at h6
 obtain ⟨rfl, rfl, rfl, rfl, rfl, rfl, rfl⟩ := h6
 have HIS := qa.mk his
 have HTG := qa.mk htg
 have HIS2 := qa.mk his2
 have HKY := qa.mk hky
 have HCS := qa.mk hcs
 have HG := qa.mk hG
 have HI := qa.mk hI
 have HB := qa.mk hB
 have hs := hB.size
 have hu1 := Tryd.underlying41
 have hu2 := Tryd.underlying33
 clear his htg his2 hky hcs hG hI hB
 go_enter Tryd.func17, Tryd.ntmps17
 go_upto_region 2 with fail
 have HP0 := qa.mk (show PP w0 w g s0_0 s0_1 false ⟨#[]⟩ ⟨#[]⟩ (.slice none 0 0) [] (((w.alloc (.cells #[.pointer (some ⟨g, 0, none⟩)] 53)).alloc (.cells #[.bool false, .bool false, .string ⟨#[]⟩, .string ⟨#[]⟩, .slice none 0 0] 41)).alloc (.cells #[.bool false, .bool false, .string ⟨#[]⟩, .string ⟨#[]⟩, .slice none 0 0] 41)) from
  ⟨qh (qh (blk_new _ _) _) _, by simpa using qh (blk_new (w.alloc (.cells #[.pointer (some ⟨g, 0, none⟩)] 53)) (.cells #[.bool false, .bool false, .string ⟨#[]⟩, .string ⟨#[]⟩, .slice none 0 0] 41)) (.cells #[.bool false, .bool false, .string ⟨#[]⟩, .string ⟨#[]⟩, .slice none 0 0] 41), by simpa using blk_new ((w.alloc (.cells #[.pointer (some ⟨g, 0, none⟩)] 53)).alloc (.cells #[.bool false, .bool false, .string ⟨#[]⟩, .string ⟨#[]⟩, .slice none 0 0] 41)) (.cells #[.bool false, .bool false, .string ⟨#[]⟩, .string ⟨#[]⟩, .slice none 0 0] 41), Kd.R_nil _ _ _ _ _, hs, ((HI.out.alloc _).alloc _).alloc _, qc (qc (qc HB.out _) _) _, keep_alloc (keep_alloc (keep_alloc (KeepBut.refl _ _ _) _) _) _⟩)
 generalize ((w.alloc (.cells #[.pointer (some ⟨g, 0, none⟩)] 53)).alloc (.cells #[.bool false, .bool false, .string ⟨#[]⟩, .string ⟨#[]⟩, .slice none 0 0] 41)).alloc (.cells #[.bool false, .bool false, .string ⟨#[]⟩, .string ⟨#[]⟩, .slice none 0 0] 41) = W0 at *
 obtain ⟨ha0, ha1, ha2, ha3, ha4, ha5, ha6⟩ := HP0.out.look
 go_upto_if 7 with (first
  | (go_at_call 18; refine (qgb.calls g _ _ _ _ _ _ w0 _ HP0.out.hi HP0.out.hb HIS.out).mono ?_; rintro e w1 ⟨rfl, hi1, hb1, hk1⟩; have HP1 := qa.mk (HP0.out.call hi1 hb1 hk1); clear hi1 hb1 hk1))
 clear ha0 ha1 ha2 ha3 ha4 ha5 ha6
 obtain ⟨ha0, ha1, ha2, ha3, ha4, ha5, ha6⟩ := HP1.out.look
 go_cut [] (fun wc => qa (PP w0 w g s3 b3 false tg ⟨#[]⟩ (.slice none 0 0) [] wc))
 case first =>
  have hq := HTG.out
  clear HTG HIS
  cases st
  ·rw [Bool.not_false]
   rw [if_neg Bool.false_ne_true] at hq
   obtain ⟨⟨z1, z2, z3⟩, hz, hq2⟩ := Option.bind_eq_some_iff.1 hq
   simp only [Option.some.injEq, Prod.mk.injEq] at hq2
   obtain ⟨rfl, rfl, hq3⟩ := hq2
   have HZ := qa.mk hz
   have HQ := qa.mk hq3
   clear hz hq hq3
   go_upto_if 13 with (first
    | (go_at_call 28; refine (qhc.calls g _ _ _ _ _ _ w0 _ HP1.out.hi HP1.out.hb HZ.out).mono ?_; rintro e w2 ⟨rfl, hi2, hb2, hk2⟩; have HP2 := qa.mk (HP1.out.call hi2 hb2 hk2); have HP3 := qa.mk (HP2.out.set2 z1); obtain ⟨hb0, hb1, hb2, hb3, hb4, hb5, hb6⟩ := HP2.out.look; obtain ⟨hf0, hf1, hf2, hf3, hf4⟩ := HP2.out.free; clear hi2 hk2))
   have HQ2 := qa.mk (show (z3 || z1.toList.isEmpty) = b3 from by rw [Lib.toList_data]; exact HQ.out)
   clear hb0 hb1 hb2 hb3 hb4 hb5 hb6 hf0 hf1 hf2 hf3 hf4 ha0 ha1 ha2 ha3 ha4 ha5 ha6
   obtain ⟨ha0, ha1, ha2, ha3, ha4, ha5, ha6⟩ := HP3.out.look
   obtain ⟨hf0, hf1, hf2, hf3, hf4⟩ := HP3.out.free
   generalize w2.setCell ⟨w.heap.size + 1 + 1, 2, none⟩ (.string z1) = w3 at *
   generalize z1.toList.isEmpty = em at *
   cases em
   ·have e3 : z3 = b3 := by simpa using HQ2.out
    subst e3
    go_wp2_with fail
    go_meet
    exact HP3
   ·have e3 : true = b3 := by simpa using HQ2.out
    subst e3
    go_wp2_with fail
    go_meet
    exact ⟨HP3.out.bad true⟩
  ·rw [Bool.not_true]
   rw [if_pos rfl] at hq
   simp only [Option.some.injEq, Prod.mk.injEq] at hq
   obtain ⟨rfl, rfl, rfl⟩ := hq
   go_wp2_with fail
   go_meet
   exact HP1
 case rest =>
  clear ha0 ha1 ha2 ha3 ha4 ha5 ha6 HTG HIS HP0 HP1
  obtain ⟨ha0, ha1, ha2, ha3, ha4, ha5, ha6⟩ := hcut.out.look
  go_upto_if 18 with (first
   | (go_at_call 18; refine (qgb.calls g _ _ _ _ _ _ w0 _ hcut.out.hi hcut.out.hb HIS2.out).mono ?_; rintro e w1 ⟨rfl, hi1, hb1, hk1⟩; have HP1 := qa.mk (hcut.out.call hi1 hb1 hk1); clear hi1 hb1 hk1))
  clear ha0 ha1 ha2 ha3 ha4 ha5 ha6 hcut HIS2
  obtain ⟨ha0, ha1, ha2, ha3, ha4, ha5, ha6⟩ := HP1.out.look
  go_cut [] (fun wc => qa (PP w0 w g s5 b5 kd tg ky (.slice none 0 0) [] wc))
  case first =>
   have hq := HKY.out
   clear HKY HCS
   cases kd
   ·rw [if_neg Bool.false_ne_true] at hq
    simp only [Option.some.injEq, Prod.mk.injEq] at hq
    obtain ⟨rfl, rfl, rfl⟩ := hq
    go_wp2_with fail
    go_meet
    exact HP1
   ·rw [if_pos rfl] at hq
    have HZ := qa.mk hq
    clear hq
    go_wp2_with (first
     | (go_at_call 29; refine (query_reader_text.calls g _ _ _ _ _ w0 _ HG.out HP1.out.hi HP1.out.hb HZ.out).mono ?_; rintro e w4 ⟨rfl, hi4, hb4, hk4⟩; have HP4 := qa.mk (HP1.out.call hi4 hb4 hk4); obtain ⟨hb0, hb1, hb2, hb3, hb4, hb5, hb6⟩ := HP4.out.look; obtain ⟨hf0, hf1, hf2, hf3, hf4⟩ := HP4.out.free; clear hi4 hk4))
    go_meet
    exact ⟨(HP4.out.set1 true).set3 _⟩
  case rest =>
   clear ha0 ha1 ha2 ha3 ha4 ha5 ha6 HP1 HKY
   go_wp2_with fail
   go_loopg [] 10 (fun kq w' => ∃ (s : ByteArray) (b : Bool) (vs : Value) (acc : List S33), qa (part_conds.f kq acc s b = some (cs, s6, b6)) ∧ qa (PP w0 w g s b kd tg ky vs acc w'))
   case atStart => exact ⟨_, _, _, _, HCS, hcut⟩
   case round =>
    clear HCS
    obtain ⟨s, b, vs, acc, HC, HP⟩ := hrel
    obtain ⟨A, cp, rfl⟩ := Kd.R_slice HP.out.ho
    cases gk with
    | zero => exact absurd HC.out (by simp [part_conds.f])
    | succ k =>
     have hc := HC.out
     unfold part_conds.f at hc
     clear HC
     cases b
     ·rw [if_neg Bool.false_ne_true] at hc
      by_cases h8 : acc.length ≤ 8
      ·rw [if_pos h8] at hc
       obtain ⟨⟨y1, y2, y3⟩, hy, hc⟩ := Option.bind_eq_some_iff.1 hc
       have HY := qa.mk hy
       dsimp only at hc
       have HC := qa.mk hc
       clear hy hc
       have h8a : decide ((acc.length : Int) ≤ 8) = true := by simp; omega
       obtain ⟨ha0, ha1, ha2, ha3, ha4, ha5, ha6⟩ := HP.out.look
       go_upto_if 38 with (first
        | (go_at_call 18; refine (qgb.calls g _ _ _ _ _ _ w0 _ HP.out.hi HP.out.hb HY.out).mono ?_; rintro e w1 ⟨rfl, hi1, hb1, hk1⟩; have HP1 := qa.mk (HP.out.call hi1 hb1 hk1); clear hi1 hb1 hk1))
       clear ha0 ha1 ha2 ha3 ha4 ha5 ha6 HY
       obtain ⟨ha0, ha1, ha2, ha3, ha4, ha5, ha6⟩ := HP1.out.look
       have hc := HC.out
       clear HC
       cases y1
       ·rw [if_neg Bool.false_ne_true] at hc
        simp only [Option.some.injEq, Prod.mk.injEq] at hc
        obtain ⟨rfl, rfl, rfl⟩ := hc
        obtain ⟨hk0, hk1, hk2, hk3, hk4, hk5, hk6, hk7, hk8, hk9⟩ := HP1.out.back
        go_wp2_with fail
        refine bodyPost_ret (v := .agg #[.bool false, .bool kd, .string tg, .string ky, .slice A acc.length cp]) ?_ rfl ?_
        exact results_cell_row rfl _ _ (w.heap.size + 1) 41 #[.bool false, .bool kd, .string tg, .string ky, .slice A acc.length cp] (0, 0) _ rfl HP1.out.last.hr Tryd.underlying41 rfl (by kernel_rfl)
        exact ⟨_, rfl, HP1.out.last.ho, HP1.out.last.hi, HP1.out.last.hb, HP1.out.last.hk⟩
       ·rw [if_pos rfl] at hc
        obtain ⟨⟨c, z2, z3⟩, hz, hc⟩ := Option.bind_eq_some_iff.1 hc
        have HZ := qa.mk hz
        have HC := qa.mk hc
        clear hz hc
        have HIN := qa.mk (show (Tryd.prog.info? 33).map (fun i => (i.zero, i.size, i.bytes)) = some (some (.agg #[.string ⟨#[]⟩, .string ⟨#[]⟩, .bool false]), Kd.sz k33, 40) from by kernel_rfl)
        have HA8 := qa.mk (show (acc.length + 1) * 40 ≤ 140737488355328 from by omega)
        go_wp2_with fail
        go_region_law (first
         | (refine Kd.R_append_step k33 (w0 := w5) w.heap.size rfl (.tmp 40) (.tmp 43) 39 33 (.agg #[.string ⟨#[]⟩, .string ⟨#[]⟩, .bool false]) 40 rfl Tryd.underlying39 HIN.out rfl (by decide) (by decide) (.slice A acc.length cp) acc c [.string c.f0, .string c.f1, .bool c.f2] (fun _ => True) (fun _ => False) rfl rfl (k33_mkM _ _ _ _) (fun _ h => h.elim) (fun _ _ => trivial) HP5.out.ho (Below.refl _ _) (Nat.le_of_lt (Nat.lt_of_le_of_lt (Nat.le_add_right _ _) (blk_lt HP5.out.hr))) HA8.out ?_; intro v1 w6 ho6 hb6 hg6 _; obtain ⟨A6, c6, e6⟩ := Kd.R_slice ho6; subst e6; have HP6 := qa.mk (HP5.out.grow ho6 hb6 hg6); rw [show (acc ++ [c]).length = acc.length + 1 from by simp] at HP6; have hp6 := blk_grown HP5.out.hp hg6 (Kd.R_ne HP5.out.ho HP5.out.hp (by decide)); have hc6 : _ = some (Value.slice A acc.length cp) := qg hp6 4; have hf6 := qf hp6 4; clear ho6 hb6 hg6 hp6)
         | (go_simp; go_at_call 30; refine (qyb.cond _ g _ _ c z2 z3 w0 _ HG.out HP1.out.drew.hi HP1.out.drew.hb HP1.out.drew.hx HZ.out).mono ?_; rintro e w5 ⟨rfl, hi5, hb5, hk5⟩; have HP5 := qa.mk (HP1.out.drew.call hi5 hb5 hk5); obtain ⟨hb0, hb1, hb2, hb3, hb4, hb5, hb6⟩ := HP5.out.look; obtain ⟨hf0, hf1, hf2, hf3, hf4⟩ := HP5.out.free; have hb7 : _ = some (Value.slice A acc.length cp) := qg (qh HP5.out.hp (.cells #[.string c.f0, .string c.f1, .bool c.f2] 33)) 4; clear hi5 hk5))
        all_goals go_wp2_with fail
        all_goals go_roundg k
        all_goals first | exact ⟨_, _, _, _, HC, HP6⟩ | omega
      ·rw [if_neg h8] at hc
       simp only [Option.some.injEq, Prod.mk.injEq] at hc
       obtain ⟨rfl, rfl, rfl⟩ := hc
       have h8a : decide ((acc.length : Int) ≤ 8) = false := by simp; omega
       obtain ⟨ha0, ha1, ha2, ha3, ha4, ha5, ha6⟩ := HP.out.look
       obtain ⟨hk0, hk1, hk2, hk3, hk4, hk5, hk6, hk7, hk8, hk9⟩ := HP.out.back
       go_wp2_with fail
       refine bodyPost_ret (v := .agg #[.bool false, .bool kd, .string tg, .string ky, .slice A acc.length cp]) ?_ rfl ?_
       exact results_cell_row rfl _ _ (w.heap.size + 1) 41 #[.bool false, .bool kd, .string tg, .string ky, .slice A acc.length cp] (0, 0) _ rfl HP.out.last.hr Tryd.underlying41 rfl (by kernel_rfl)
       exact ⟨_, rfl, HP.out.last.ho, HP.out.last.hi, HP.out.last.hb, HP.out.last.hk⟩
     ·rw [if_pos rfl] at hc
      simp only [Option.some.injEq, Prod.mk.injEq] at hc
      obtain ⟨rfl, rfl, rfl⟩ := hc
      obtain ⟨ha0, ha1, ha2, ha3, ha4, ha5, ha6⟩ := HP.out.look
      obtain ⟨hk0, hk1, hk2, hk3, hk4, hk5, hk6, hk7, hk8, hk9⟩ := HP.out.back
      go_wp2_with fail
      refine bodyPost_ret (v := .agg #[.bool false, .bool kd, .string tg, .string ky, .slice A acc.length cp]) ?_ rfl ?_
      exact results_cell_row rfl _ _ (w.heap.size + 1) 41 #[.bool false, .bool kd, .string tg, .string ky, .slice A acc.length cp] (0, 0) _ rfl HP.out.last.hr Tryd.underlying41 rfl (by kernel_rfl)
      exact ⟨_, rfl, HP.out.last.ho, HP.out.last.hi, HP.out.last.hb, HP.out.last.hk⟩
end Go.Proofs.YtjbobecnlpiejaaDoor.Q
