/- The law QueryMore tells true of every selector, every condition and all rows, for all starts that the row lets in: with one condition more no other rows fit, with a blank in the place of a sign all that fitted do. -/
import Derived.Test.YtjbobecnlpiejaaDoorSM3
import Derived.Test.YtjbobecnlpiejaaDoorCards
import Derived.Test.YtjbobecnlpiejaaDoorTie
import Derived.SevenTiedAt
set_option linter.unusedVariables false
set_option linter.unusedSimpArgs false
namespace Go.Proofs.YtjbobecnlpiejaaDoor.Q
open Go.Proofs.YtjbobecnlpiejaaDoorZ
open Go.RowKit Go.Proofs.YtjbobecnlpiejaaDoorW.PrintWords Go.Proofs.YtjbobecnlpiejaaDoorW.PrintLast Go.Proofs.YtjbobecnlpiejaaDoorW.PrintMore
attribute [local go_sem] qpb qqb qvb qwb
mutual
def qcb.l0 : Nat → List (S41) → ByteArray → Bool → Option ((List (S41)) × Int)
 | 0, _, _, _ => none
 | k + 1, x5, x130000, x130001 => if x130001 = true then (qcb.j1 k x5 false x130000 x130001) else (qcb.j1 k x5 (decide ((x5.length : Int) ≤ 8)) x130000 x130001)
def qcb.j1 : Nat → List (S41) → Bool → ByteArray → Bool → Option ((List (S41)) × Int)
 | 0, _, _, _, _ => none
 | k + 1, x5, x23, x130000, x130001 => if x23 = true then ((qgb.f x130000 x130001 (⟨#[62]⟩ : ByteArray)).bind fun bt143 => (if bt143.1 = true then ((qyb.f bt143.2.1 bt143.2.2).bind fun bt146 => (if x5.length < 2199023255552 then (qcb.l0 k (x5 ++ [(⟨bt143.1, bt146.2.1, bt146.2.2.1, bt146.2.2.2.1, bt146.2.2.2.2.1⟩ : S41)]) bt146.2.2.2.2.2.1 bt146.2.2.2.2.2.2) else (none))) else ((qgb.f bt143.2.1 bt143.2.2 (⟨#[32]⟩ : ByteArray)).bind fun bt159 => (if bt159.1 = true then ((qyb.f bt159.2.1 bt159.2.2).bind fun bt162 => (if x5.length < 2199023255552 then (qcb.l0 k (x5 ++ [(⟨bt143.1, bt162.2.1, bt162.2.2.1, bt162.2.2.2.1, bt162.2.2.2.2.1⟩ : S41)]) bt162.2.2.2.2.2.1 bt162.2.2.2.2.2.2) else (none))) else (if bt159.2.2 = true then (some (([] : List (S41)), 2)) else (if bt159.2.1.toList = ([] : List UInt8) then ((qp.f k x5).bind fun t175 => (if t175 = 0 then (some (x5, 0)) else (some (([] : List (S41)), 2)))) else (some (([] : List (S41)), 2)))))))) else (if x130001 = true then (some (([] : List (S41)), 2)) else (if x130000.toList = ([] : List UInt8) then ((qp.f k x5).bind fun t142 => (if t142 = 0 then (some (x5, 0)) else (some (([] : List (S41)), 2)))) else (some (([] : List (S41)), 2))))
end
def qcb.f (k : Nat) (a0 : ByteArray) : Option ((List (S41)) × Int) := (qyb.f a0 false).bind fun bt130 => (qcb.l0 k (([(⟨bt130.1, bt130.2.1, bt130.2.2.1, bt130.2.2.2.1, bt130.2.2.2.2.1⟩ : S41)] : List (S41))) bt130.2.2.2.2.2.1 bt130.2.2.2.2.2.2)
theorem qcb.mono_l : ∀ k, (∀ y0 y1 y2, LeO (qcb.l0 k y0 y1 y2) (qcb.l0 (k + 1) y0 y1 y2)) ∧ (∀ y0 y1 y2 y3, LeO (qcb.j1 k y0 y1 y2 y3) (qcb.j1 (k + 1) y0 y1 y2 y3))
 | 0 => ⟨fun _ _ _ r h => by simp [qcb.l0] at h, fun _ _ _ _ r h => by simp [qcb.j1] at h⟩
 | k + 1 => by
  obtain ⟨ih0, ih1⟩ := qcb.mono_l k
  refine ⟨?_, ?_⟩
  ·intro y0 y1 y2
   unfold qcb.l0
   repeat' first
   | (with_reducible exact ih0 _ _ _)
   | (with_reducible exact ih1 _ _ _ _)
   | (with_reducible exact qp.mono _ _)
   | (with_reducible exact LeO.refl _)
   | (with_reducible exact LeO.none _)
   | (with_reducible refine LeO.ite ?_ ?_)
   | (with_reducible refine LeO.bind ?_ (fun _ => ?_))
   | exact ih0 _ _ _
   | exact ih1 _ _ _ _
   | exact qp.mono _ _
   | exact LeO.none _
   | refine LeO.ite ?_ ?_
   | refine LeO.bind ?_ (fun _ => ?_)
  ·intro y0 y1 y2 y3
   unfold qcb.j1
   repeat' first
   | (with_reducible exact ih0 _ _ _)
   | (with_reducible exact ih1 _ _ _ _)
   | (with_reducible exact qp.mono _ _)
   | (with_reducible exact LeO.refl _)
   | (with_reducible exact LeO.none _)
   | (with_reducible refine LeO.ite ?_ ?_)
   | (with_reducible refine LeO.bind ?_ (fun _ => ?_))
   | exact ih0 _ _ _
   | exact ih1 _ _ _ _
   | exact qp.mono _ _
   | exact LeO.none _
   | refine LeO.ite ?_ ?_
   | refine LeO.bind ?_ (fun _ => ?_)
theorem qcb.mono : ∀ a0 k, LeO (qcb.f k a0) (qcb.f (k + 1) a0) := by
 intro a0 k
 obtain ⟨ih0, ih1⟩ := qcb.mono_l k
 unfold qcb.f
 repeat' first
   | (with_reducible exact ih0 _ _ _)
   | (with_reducible exact ih1 _ _ _ _)
   | (with_reducible exact qp.mono _ _)
   | (with_reducible exact LeO.refl _)
   | (with_reducible exact LeO.none _)
   | (with_reducible refine LeO.ite ?_ ?_)
   | (with_reducible refine LeO.bind ?_ (fun _ => ?_))
   | exact ih0 _ _ _
   | exact ih1 _ _ _ _
   | exact qp.mono _ _
   | exact LeO.none _
   | refine LeO.ite ?_ ?_
   | refine LeO.bind ?_ (fun _ => ?_)
set_option maxHeartbeats 8000000 in
set_option maxRecDepth 100000 in
theorem qcb.calls (k : Nat) (a0 : ByteArray) (r1 : List (S41)) (r2 : Int) (w : World) (hG : Glob w) (h : qcb.f k a0 = some (r1, r2)) :
  Calls Tryd.prog 6 #[.string a0] w fun e w' => ∃ v0_ : Value, e = .returned (.tuple #[v0_, .int .i64 r2]) ∧ Kd.N k41 41 w' w.heap.size (fun k_ => (w.heap.size ≤ k_)) v0_ r1 ∧ Below w.heap.size w w' := by
 have hu55 := Tryd.underlying55
 have hu41 := Tryd.underlying41
 have HG := qa.mk hG
 clear hG
 have HB := qa.mk (Below.refl w.heap.size w)
 have H : ((qyb.f a0 false).bind fun bt130 => (qcb.l0 k (([(⟨bt130.1, bt130.2.1, bt130.2.2.1, bt130.2.2.2.1, bt130.2.2.2.2.1⟩ : S41)] : List (S41))) bt130.2.2.2.2.2.1 bt130.2.2.2.2.2.2)) = some (r1, r2) := h
 clear h
 replace H := Option.bind_eq_some_iff.mp H
 obtain ⟨⟨t130, t131, t132, t133, t134, t137, t138⟩, A20, H⟩ := H
 replace H : (qcb.l0 k (([(⟨t130, t131, t132, t133, t134⟩ : S41)] : List (S41))) t137 t138) = some (r1, r2) := H
 have A2 := qa.mk A20
 clear A20
 obtain ⟨y139, hy139⟩ : ∃ y_ : List (S41), y_ = (([(⟨t130, t131, t132, t133, t134⟩ : S41)] : List (S41))) := ⟨_, rfl⟩
 replace H : (qcb.l0 k y139 t137 t138) = some (r1, r2) := by first | (rw [hy139]; with_reducible exact H) | (have H2_ := (Option.bind_some _ _).symm.trans H; rw [hy139]; with_reducible exact H2_) | (have H2_ := (Option.bind_some _ _).symm.trans H; with_reducible exact H2_) | with_reducible exact H | (rw [hy139]; exact H) | exact H
 have Ny139 := qa.mk hy139
 clear hy139
 have H' := qa.mk H
 clear H
 go_enter Tryd.func6, Tryd.ntmps6
 go_wp2_with (first | ((with_reducible refine qeb (N := 10) rfl ?_); (try (refine gate_guard (by rfl) ?_; dsimp only)); refine qib ?hg (N := 10) ?hd (cs := #[.string a0, .bool false]) (t := 55) ?hr ?_; (case hd => rfl); (case hg => rfl); (case hr => exact zz5); intro gb129 hg w3 hbox hb; have n0_ := qa.mk (qm zz24 hb); have n1_ := qa.mk ((show IsS55 w w3 gb129 a0 false from ⟨hbox, (by rw [hg]; exact (ql zz24))⟩)); clear HB; have HB := n0_; have HI129 := n1_; clear n0_ n1_; clear hb hbox hg) | ((with_reducible refine qv (f := 17) rfl ?_); refine qob (some 12) rfl rfl Tryd.func17 (by kernel_rfl) rfl #[.pointer (some ⟨gb129, 0, none⟩)] rfl zz56 ?_; (with_reducible refine (qyb.calls gb129 a0 false t130 t131 t132 t133 t134 t137 t138 w _ ?side1 ?side2 ?side3 A2.out).mono ?_); (case side1 => exact HG.out); (case side2 => exact zz89); (case side3 => exact zz55); rintro e w4 ⟨v135, rfl, ho0, hi, hb, hk⟩; refine ⟨_, rfl, ?_⟩; have n0_ := qa.mk (Kd.R_lower (Kd.R_newM (M := fun k_ => (w.heap.size ≤ k_)) ho0 (ql zz55) (fun k_ h_ => h_)) (ql zz55)); have n1_ := qa.mk (hb); have n2_ := qa.mk (hi); clear HB; clear HI129; have HO136 := n0_; have HB := n1_; have HI129 := n2_; clear n0_ n1_ n2_; (try clear hb); (try clear hb2); (try clear hk); (try clear hi); (try clear ho0); obtain ⟨Ao5, co5, eo5⟩ := Kd.R_slice HO136.out; subst eo5) | ((with_reducible refine qeb (N := 13) rfl ?_); (try (refine gate_guard (by rfl) ?_; dsimp only)); refine Kd.N_lit k41 _ 41 ?hg (N' := 13) ?hd (xs := ([(⟨t130, t131, t132, t133, t134⟩ : S41)] : List (S41))) (inner := [.bool t130, .bool t131, .string t132, .string t133, .slice Ao5 t134.length co5]) (ok := (fun k_ => (w.heap.size ≤ k_) ∧ k_ ≠ gb129)) (okp := (fun k_ => (w.heap.size ≤ k_) ∧ k_ ≠ gb129)) ?hr ?hp (fun _ hk => hk) ((show ∀ k_, w4.heap.size ≤ k_ → (fun k_ => (w.heap.size ≤ k_) ∧ k_ ≠ gb129) k_ from fun k_ hk => ⟨(Nat.le_trans (ql zz55) hk), IsS55.fresh zz89 k_ hk⟩) _ (Nat.le_refl _)) (Below.refl _ _) (Nat.le_refl _) (by simp) ?_; (case hd => rfl); (case hg => rfl); (case hr => exact zz5); (case hp => exact (Reps.c5 (show Kd.FK k41 _ _ (⟨t130, t131, t132, t133, t134⟩ : S41) [.bool t130, .bool t131, .string t132, .string t133, .slice Ao5 t134.length co5] from (k41_mkF _ _ (⟨t130, t131, t132, t133, t134⟩ : S41) (Kd.R_reads' (Kd.R_mono (ok' := (fun k_ => (w.heap.size ≤ k_) ∧ k_ ≠ gb129)) (IsS55.apart HI129.out (HO136.out) (by decide)) (fun k_ hk => ⟨hk.1.1, hk.2⟩))).2.1 (Kd.R_F (Kd.R_mono (ok' := (fun k_ => (w.heap.size ≤ k_) ∧ k_ ≠ gb129)) (IsS55.apart HI129.out (HO136.out) (by decide)) (fun k_ hk => ⟨hk.1.1, hk.2⟩))))) (Reps.none _ _))); intro v140 w6 ho7 hb hg_ hnew_; clear hg_ hnew_; (first | rw [← Ny139.out] at ho7 | (simp only [Int.reduceToNat] at ho7; rw [← Ny139.out] at ho7)); have n0_ := qa.mk (Kd.N_lower ho7 (ql zz55)); have n1_ := qa.mk (IsS55.below zz89 hb); have n2_ := qa.mk (qm zz55 hb); clear HI129; clear HB; clear HO136; have HO141 := n0_; have HI129 := n1_; have HB := n2_; clear n0_ n1_ n2_; clear hb ho7))
 go_loopg [5] k (fun kq v5 w' => ∃ (x5_1 : List (S41)) (x130000_1 : ByteArray) (x130001_1 : Bool), qa (qcb.l0 kq x5_1 x130000_1 x130001_1 = some (r1, r2)) ∧ qa (kq ≤ k) ∧ qa (Kd.N k41 41 w' w.heap.size (fun k_ => (w.heap.size ≤ k_) ∧ k_ ≠ gb129) v5 x5_1) ∧ qa (IsS55 w w' gb129 x130000_1 x130001_1) ∧ qa (Below w.heap.size w w'))
 case atStart => exact ⟨(y139), (t137), (t138), H', ⟨Nat.le_refl _⟩, ⟨by (with_reducible repeat (first | apply Kd.N_alloc | apply Kd.N_drewN | apply Kd.N_drew)); exact HO141.out⟩, ⟨zz89⟩, ⟨zz55⟩⟩
 case round =>
  clear H'
  try clear c1
  try clear p2
  try clear c5
  try clear c6
  obtain ⟨x5_1, x130000_1, x130001_1, HA, HK1, HO_5, HI129, HB⟩ := hrel
  cases gk with
  | zero => exact absurd HA.out (by simp [qcb.l0])
  | succ k1 =>
   have H := HA.out
   clear HA
   simp only [qcb.l0] at H
   have HC8 := qa.mk H
   clear H
   go_upto_region 3 with (fail)
   go_cut [23] (fun v23 wc => ∃ (kq : Nat) (x23_7 : Bool), v23 = .bool x23_7 ∧ qa (qcb.j1 kq x5_1 x23_7 x130000_1 x130001_1 = some (r1, r2)) ∧ qa (kq ≤ k1) ∧ qa (Kd.N k41 41 wc w.heap.size (fun k_ => (w.heap.size ≤ k_) ∧ k_ ≠ gb129) u5 x5_1) ∧ qa (IsS55 w wc gb129 x130000_1 x130001_1) ∧ qa (Below w.heap.size w wc))
   case first =>
    have H := HC8.out
    clear HC8
    by_cases c9 : x130001_1 = true
    ·subst c9
     have H1 : (qcb.j1 k1 x5_1 false x130000_1 true) = some (r1, r2) := by rw [if_pos rfl] at H; exact H
     clear H
     have H := H1
     clear H1
     have H' := qa.mk H
     clear H
     obtain ⟨HGz10, hgz10⟩ := HI129.out
     have hcz10_0 := cellS55_0 HGz10
     have hcz10_1 := cellS55_1 HGz10
     have hfz10_0 := qf HGz10 0
     have hfz10_1 := qf HGz10 1
     clear HGz10 hgz10
     go_wp2
     go_meet
     case rel => exact ⟨_, (false), zz6, H', ⟨zz12⟩, ⟨zz28⟩, ⟨zz89⟩, ⟨zz55⟩⟩
    ·replace c9 := Bool.eq_false_iff.mpr c9
     subst c9
     have H1 : (qcb.j1 k1 x5_1 (decide ((x5_1.length : Int) ≤ 8)) x130000_1 false) = some (r1, r2) := by rw [if_neg (show ¬ (false = true) by decide)] at H; exact H
     clear H
     have H := H1
     clear H1
     have H' := qa.mk H
     clear H
     obtain ⟨HGz11, hgz11⟩ := HI129.out
     have hcz11_0 := cellS55_0 HGz11
     have hcz11_1 := cellS55_1 HGz11
     have hfz11_0 := qf HGz11 0
     have hfz11_1 := qf HGz11 1
     clear HGz11 hgz11
     obtain ⟨Ao12, co12, eo12⟩ := Kd.N_slice HO_5.out
     subst eo12
     go_wp2
     go_meet
     case rel => exact ⟨_, (decide ((x5_1.length : Int) ≤ 8)), zz6, H', ⟨zz12⟩, ⟨zz28⟩, ⟨zz89⟩, ⟨zz55⟩⟩
   case rest =>
    clear HC8
    try clear c1
    try clear p2
    try clear c5
    try clear c6
    try clear c9
    try clear hcz10_0
    try clear hcz10_1
    try clear hcz11_0
    try clear hcz11_1
    try clear hfz10_0
    try clear hfz10_1
    try clear hfz11_0
    try clear hfz11_1
    try clear p2
    obtain ⟨kq, x23_7, rfl, HA, HJ7, HO_5, HI129, HB⟩ := hcut
    cases kq with
    | zero => exact absurd HA.out (by simp [qcb.j1])
    | succ kj7 =>
     have H := HA.out
     clear HA
     simp only [qcb.j1] at H
     by_cases c13 : x23_7 = true
     ·subst c13
      have H1 : ((qgb.f x130000_1 x130001_1 (⟨#[62]⟩ : ByteArray)).bind fun bt143 => (if bt143.1 = true then ((qyb.f bt143.2.1 bt143.2.2).bind fun bt146 => (if x5_1.length < 2199023255552 then (qcb.l0 kj7 (x5_1 ++ [(⟨bt143.1, bt146.2.1, bt146.2.2.1, bt146.2.2.2.1, bt146.2.2.2.2.1⟩ : S41)]) bt146.2.2.2.2.2.1 bt146.2.2.2.2.2.2) else (none))) else ((qgb.f bt143.2.1 bt143.2.2 (⟨#[32]⟩ : ByteArray)).bind fun bt159 => (if bt159.1 = true then ((qyb.f bt159.2.1 bt159.2.2).bind fun bt162 => (if x5_1.length < 2199023255552 then (qcb.l0 kj7 (x5_1 ++ [(⟨bt143.1, bt162.2.1, bt162.2.2.1, bt162.2.2.2.1, bt162.2.2.2.2.1⟩ : S41)]) bt162.2.2.2.2.2.1 bt162.2.2.2.2.2.2) else (none))) else (if bt159.2.2 = true then (some (([] : List (S41)), 2)) else (if bt159.2.1.toList = ([] : List UInt8) then ((qp.f kj7 x5_1).bind fun t175 => (if t175 = 0 then (some (x5_1, 0)) else (some (([] : List (S41)), 2)))) else (some (([] : List (S41)), 2)))))))) = some (r1, r2) := by rw [if_pos rfl] at H; exact H
      clear H
      have H := H1
      clear H1
      replace H := Option.bind_eq_some_iff.mp H
      obtain ⟨⟨t143, t144, t145⟩, A140, H⟩ := H
      replace H : (if t143 = true then ((qyb.f t144 t145).bind fun bt146 => (if x5_1.length < 2199023255552 then (qcb.l0 kj7 (x5_1 ++ [(⟨t143, bt146.2.1, bt146.2.2.1, bt146.2.2.2.1, bt146.2.2.2.2.1⟩ : S41)]) bt146.2.2.2.2.2.1 bt146.2.2.2.2.2.2) else (none))) else ((qgb.f t144 t145 (⟨#[32]⟩ : ByteArray)).bind fun bt159 => (if bt159.1 = true then ((qyb.f bt159.2.1 bt159.2.2).bind fun bt162 => (if x5_1.length < 2199023255552 then (qcb.l0 kj7 (x5_1 ++ [(⟨t143, bt162.2.1, bt162.2.2.1, bt162.2.2.2.1, bt162.2.2.2.2.1⟩ : S41)]) bt162.2.2.2.2.2.1 bt162.2.2.2.2.2.2) else (none))) else (if bt159.2.2 = true then (some (([] : List (S41)), 2)) else (if bt159.2.1.toList = ([] : List UInt8) then ((qp.f kj7 x5_1).bind fun t175 => (if t175 = 0 then (some (x5_1, 0)) else (some (([] : List (S41)), 2)))) else (some (([] : List (S41)), 2))))))) = some (r1, r2) := H
      have A14 := qa.mk A140
      clear A140
      by_cases c15 : t143 = true
      ·subst c15
       have H1 : ((qyb.f t144 t145).bind fun bt146 => (if x5_1.length < 2199023255552 then (qcb.l0 kj7 (x5_1 ++ [(⟨true, bt146.2.1, bt146.2.2.1, bt146.2.2.2.1, bt146.2.2.2.2.1⟩ : S41)]) bt146.2.2.2.2.2.1 bt146.2.2.2.2.2.2) else (none))) = some (r1, r2) := by rw [if_pos rfl] at H; exact H
       clear H
       have H := H1
       clear H1
       replace H := Option.bind_eq_some_iff.mp H
       obtain ⟨⟨t146, t147, t148, t149, t150, t153, t154⟩, A160, H⟩ := H
       replace H : (if x5_1.length < 2199023255552 then (qcb.l0 kj7 (x5_1 ++ [(⟨true, t147, t148, t149, t150⟩ : S41)]) t153 t154) else (none)) = some (r1, r2) := H
       have A16 := qa.mk A160
       clear A160
       by_cases c17 : x5_1.length < 2199023255552
       ·rw [if_pos c17] at H
        have LMc17 := qa.mk c17
        clear c17
        obtain ⟨y156, hy156⟩ : ∃ y_ : List (S41), y_ = (x5_1 ++ [(⟨true, t147, t148, t149, t150⟩ : S41)]) := ⟨_, rfl⟩
        replace H : (qcb.l0 kj7 y156 t153 t154) = some (r1, r2) := by first | (rw [hy156]; with_reducible exact H) | (have H2_ := (Option.bind_some _ _).symm.trans H; rw [hy156]; with_reducible exact H2_) | (have H2_ := (Option.bind_some _ _).symm.trans H; with_reducible exact H2_) | with_reducible exact H | (rw [hy156]; exact H) | exact H
        have Ny156 := qa.mk hy156
        clear hy156
        have H' := qa.mk H
        clear H
        go_wp2_with (first | ((with_reducible refine qv (f := 18) rfl ?_); refine qob (some 25) rfl rfl Tryd.func18 (by kernel_rfl) rfl #[.pointer (some ⟨gb129, 0, none⟩), .string (⟨#[62]⟩ : ByteArray)] rfl zz56 ?_; (with_reducible refine (qgb.calls gb129 x130000_1 x130001_1 (⟨#[62]⟩ : ByteArray) true t144 t145 w _ ?side1 ?side2 A14.out).mono ?_); (case side1 => exact zz89); (case side2 => exact zz55); rintro e w18 ⟨rfl, hi, hb, hk⟩; refine ⟨_, rfl, ?_⟩; have n0_ := qa.mk (Kd.N_mono (Kd.N_keep (Kd.N_mono (ok := fun k_ => (((w.heap.size ≤ k_)) ∧ k_ ≠ gb129)) zz28 (fun k_ hk_ => (⟨hk_, hk_.2⟩ : _ ∧ k_ ≠ gb129))) hk (fun _ h => h.2)) (fun _ h => h.1)); have n1_ := qa.mk (hb); have n2_ := qa.mk (hi); clear HO_5; clear HB; clear HI129; have HO_5 := n0_; have HB := n1_; have HI129 := n2_; clear n0_ n1_ n2_; (try clear hb); (try clear hb2); (try clear hk); (try clear hi)) | ((with_reducible refine qv (f := 17) rfl ?_); refine qob (some 34) rfl rfl Tryd.func17 (by kernel_rfl) rfl #[.pointer (some ⟨gb129, 0, none⟩)] rfl zz56 ?_; (with_reducible refine (qyb.calls gb129 t144 t145 t146 t147 t148 t149 t150 t153 t154 w _ ?side1 ?side2 ?side3 A16.out).mono ?_); (case side1 => exact HG.out); (case side2 => exact zz89); (case side3 => exact zz55); rintro e w19 ⟨v151, rfl, ho0, hi, hb, hk⟩; refine ⟨_, rfl, ?_⟩; have n0_ := qa.mk (Kd.N_mono (Kd.N_told (Kd.N_oldK (Kd.N_mono (ok := fun k_ => (((w.heap.size ≤ k_)) ∧ k_ ≠ gb129)) zz28 (fun k_ hk_ => (⟨hk_, hk_.2⟩ : _ ∧ k_ ≠ gb129))) hk) (Kd.R_base ho0)) (fun _ h_ => h_.1)); have n1_ := qa.mk (Kd.R_lower (Kd.R_newM (M := fun k_ => (w.heap.size ≤ k_)) ho0 (ql zz55) (fun k_ h_ => h_)) (ql zz55)); have n2_ := qa.mk (hb); have n3_ := qa.mk (hi); clear HO_5; clear HB; clear HI129; have HO_5 := n0_; have HO152 := n1_; have HB := n2_; have HI129 := n3_; clear n0_ n1_ n2_ n3_; (try clear hb); (try clear hb2); (try clear hk); (try clear hi); (try clear ho0)) | ((with_reducible refine qeb (N := 7) rfl ?_); (try (refine gate_guard (by rfl) ?_; dsimp only)); refine qib ?hg (N := 7) ?hd (cs := #[.bool false, .bool false, .string (⟨#[]⟩ : ByteArray), .string (⟨#[]⟩ : ByteArray), .slice none 0 0]) (t := 41) ?hr ?_; (case hd => rfl); (case hg => rfl); (case hr => exact zz5); intro gb155 hg w20 hbox hb; have n0_ := qa.mk (Kd.N_below (Kd.N_elderB zz28 gb155 (Nat.le_of_eq hg.symm)) hb); have n1_ := qa.mk (Kd.R_below (by (with_reducible repeat (first | apply Kd.R_alloc | apply Kd.R_drewN | apply Kd.R_drew)); exact HO152.out) hb); have n2_ := qa.mk (IsS55.below zz89 hb); have n3_ := qa.mk (qm zz55 hb); have n4_ := qa.mk (hbox); have n5_ := qa.mk ((by rw [hg]; exact (ql zz55) : w.heap.size ≤ gb155)); have n6_ := qa.mk ((by rw [hg]; exact (ql zz55) : w.heap.size ≤ gb155)); have n7_ := qa.mk ((by rw [hg]; exact qkc (IsS55.lt (show IsS55 w _ gb129 t153 t154 from by repeat (first | (with_reducible first | exact HI129.out | apply IsS55.alloc | apply IsS55.drewN | apply IsS55.drew | apply IsS55.set_0 | apply IsS55.set_1) | exact HI129.out))) : gb129 ≠ gb155)); have n8_ := qa.mk ((by rw [hg]; exact Nat.ne_of_gt (IsS55.lt (show IsS55 w _ gb129 t153 t154 from by repeat (first | (with_reducible first | exact HI129.out | apply IsS55.alloc | apply IsS55.drewN | apply IsS55.drew | apply IsS55.set_0 | apply IsS55.set_1) | exact HI129.out))) : gb155 ≠ gb129)); clear HO_5; clear HO152; clear HI129; clear HB; have HO_5 := n0_; have HO152 := n1_; have HI129 := n2_; have HB := n3_; have BK155 := n4_; have GW155 := n5_; have GE155 := n6_; have NB129_155 := n7_; have NB155_129 := n8_; clear n0_ n1_ n2_ n3_ n4_ n5_ n6_ n7_ n8_; clear hb hbox hg; have hnb21 := NB155_129.out; have hnc21 := NB129_155.out; have hcz22_0 : w20.cell? ⟨gb155, 0, none⟩ = some (.bool false) := (qg BK155.out 0).trans rfl; have hcz22_1 : w20.cell? ⟨gb155, 1, none⟩ = some (.bool false) := (qg BK155.out 1).trans rfl; have hcz22_2 : w20.cell? ⟨gb155, 2, none⟩ = some (.string (⟨#[]⟩ : ByteArray)) := (qg BK155.out 2).trans rfl; have hcz22_3 : w20.cell? ⟨gb155, 3, none⟩ = some (.string (⟨#[]⟩ : ByteArray)) := (qg BK155.out 3).trans rfl; have hcz22_4 : w20.cell? ⟨gb155, 4, none⟩ = some (.slice none 0 0) := (qg BK155.out 4).trans rfl; have hfz22_0 := qf BK155.out 0; have hfz22_1 := qf BK155.out 1; have hfz22_2 := qf BK155.out 2; have hfz22_3 := qf BK155.out 3; have hfz22_4 := qf BK155.out 4; obtain ⟨Ao23, co23, eo23⟩ := Kd.R_slice HO152.out; subst eo23) | ((with_reducible refine gate_store (t := 41) (p := 7) rfl ?_); refine store_event (t := 41) (p := 7) (v := ?vo_w24) (w1 := (((((w20.setCell ⟨gb155, 0, none⟩ (.bool t146)).setCell ⟨gb155, 1, none⟩ (.bool t147)).setCell ⟨gb155, 2, none⟩ (.string t148)).setCell ⟨gb155, 3, none⟩ (.string t149)).setCell ⟨gb155, 4, none⟩ (.slice Ao23 t150.length co23))) ?hg ?ho ?hn ?hr ?_; (case ho => rfl); (case hg => rfl); (case hn => rfl); (case hr => exact zz5); intro w24 hw; have n0_ : qa (Kd.N k41 41 w24 w.heap.size (fun k_ => (w.heap.size ≤ k_) ∧ some k_ ≠ (.slice Ao23 t150.length co23 : Value).ownBlock ∧ k_ ≠ gb129 ∧ k_ ≠ gb155) u5 x5_1) := ⟨(by rw [hw]; exact (by (with_reducible repeat (first | apply Kd.N_alloc | apply Kd.N_drewN | apply Kd.N_drew)); exact Kd.N_mono (Kd.N_far (p := ⟨gb155, 4, none⟩) (Kd.N_far (p := ⟨gb155, 3, none⟩) (Kd.N_far (p := ⟨gb155, 2, none⟩) (Kd.N_far (p := ⟨gb155, 1, none⟩) (Kd.N_far (p := ⟨gb155, 0, none⟩) (Kd.N_mono HO_5.out (fun k_ hk => (⟨hk, hk.2⟩ : _ ∧ k_ ≠ gb155))) (fun _ hk => hk.2) (.bool t146)) (fun _ hk => hk.2) (.bool t147)) (fun _ hk => hk.2) (.string t148)) (fun _ hk => hk.2) (.string t149)) (fun _ hk => hk.2) (.slice Ao23 t150.length co23)) (fun _ hk => ⟨hk.1.1.1.1, ⟨hk.1.1.2, ⟨hk.1.1.1.2, hk.1.2⟩⟩⟩)))⟩; have n1_ : qa (Kd.R k33 33 w24 w.heap.size (fun k_ => (w.heap.size ≤ k_)) (.slice Ao23 t150.length co23) t150) := ⟨(by rw [hw]; exact (by (with_reducible repeat (first | apply Kd.R_alloc | apply Kd.R_drewN | apply Kd.R_drew)); exact Kd.R_mono (Kd.R_far (p := ⟨gb155, 4, none⟩) (Kd.R_far (p := ⟨gb155, 3, none⟩) (Kd.R_far (p := ⟨gb155, 2, none⟩) (Kd.R_far (p := ⟨gb155, 1, none⟩) (Kd.R_far (p := ⟨gb155, 0, none⟩) (Kd.R_types HO152.out BK155.out (by decide)) (fun _ hk => hk.2) (.bool t146)) (fun _ hk => hk.2) (.bool t147)) (fun _ hk => hk.2) (.string t148)) (fun _ hk => hk.2) (.string t149)) (fun _ hk => hk.2) (.slice Ao23 t150.length co23)) (fun _ hk => hk.1.1)))⟩; have n2_ : qa (w24.heap[gb155]? = some (.cells #[.bool t146, .bool t147, .string t148, .string t149, .slice Ao23 t150.length co23] 41 (0, 0))) := ⟨(by rw [hw]; exact (by (with_reducible repeat (first | refine qi ?_ _ | refine qk ?_ | refine qh ?_ _)); refine qq (cs := #[.bool t146, .bool t147, .string t148, .string t149, .slice none 0 0]) ?_ 4 _ rfl; (with_reducible repeat (first | refine qi ?_ _ | refine qk ?_ | refine qh ?_ _)); refine qq (cs := #[.bool t146, .bool t147, .string t148, .string (⟨#[]⟩ : ByteArray), .slice none 0 0]) ?_ 3 _ rfl; (with_reducible repeat (first | refine qi ?_ _ | refine qk ?_ | refine qh ?_ _)); refine qq (cs := #[.bool t146, .bool t147, .string (⟨#[]⟩ : ByteArray), .string (⟨#[]⟩ : ByteArray), .slice none 0 0]) ?_ 2 _ rfl; (with_reducible repeat (first | refine qi ?_ _ | refine qk ?_ | refine qh ?_ _)); refine qq (cs := #[.bool t146, .bool false, .string (⟨#[]⟩ : ByteArray), .string (⟨#[]⟩ : ByteArray), .slice none 0 0]) ?_ 1 _ rfl; (with_reducible repeat (first | refine qi ?_ _ | refine qk ?_ | refine qh ?_ _)); refine qq (cs := #[.bool false, .bool false, .string (⟨#[]⟩ : ByteArray), .string (⟨#[]⟩ : ByteArray), .slice none 0 0]) ?_ 0 _ rfl; (with_reducible repeat (first | refine qi ?_ _ | refine qk ?_ | refine qh ?_ _)); exact BK155.out))⟩; have n3_ : qa (IsS55 w w24 gb129 t153 t154) := ⟨(by rw [hw]; exact zz101)⟩; have n4_ : qa (Below w.heap.size w w24) := ⟨(by rw [hw]; exact zz75)⟩; clear hw; clear HO_5; clear HO152; clear BK155; clear HI129; clear HB; have HO_5 := n0_; have HO152 := n1_; have BK155 := n2_; have HI129 := n3_; have HB := n4_; clear n0_ n1_ n2_ n3_ n4_; have hcz25_0 : w24.cell? ⟨gb155, 0, none⟩ = some (.bool t146) := (qg BK155.out 0).trans rfl; have hcz25_1 : w24.cell? ⟨gb155, 1, none⟩ = some (.bool t147) := (qg BK155.out 1).trans rfl; have hcz25_2 : w24.cell? ⟨gb155, 2, none⟩ = some (.string t148) := (qg BK155.out 2).trans rfl; have hcz25_3 : w24.cell? ⟨gb155, 3, none⟩ = some (.string t149) := (qg BK155.out 3).trans rfl; have hcz25_4 : w24.cell? ⟨gb155, 4, none⟩ = some (.slice Ao23 t150.length co23) := (qg BK155.out 4).trans rfl; have hfz25_0 := qf BK155.out 0; have hfz25_1 := qf BK155.out 1; have hfz25_2 := qf BK155.out 2; have hfz25_3 := qf BK155.out 3; have hfz25_4 := qf BK155.out 4) | ((with_reducible refine gate_store (t := 4) (p := 36) rfl ?_); refine store_event (t := 4) (p := 36) (v := ?vo_w26) (w1 := (w24.setCell ⟨gb155, 0, none⟩ (.bool true))) ?hg ?ho ?hn ?hr ?_; (case ho => rfl); (case hg => rfl); (case hn => rfl); (case hr => exact zz5); intro w26 hw; have n0_ : qa (Kd.N k41 41 w26 w.heap.size (fun k_ => (w.heap.size ≤ k_) ∧ some k_ ≠ (.slice Ao23 t150.length co23 : Value).ownBlock ∧ k_ ≠ gb129 ∧ k_ ≠ gb155) u5 x5_1) := ⟨(by rw [hw]; exact (by (with_reducible repeat (first | apply Kd.N_alloc | apply Kd.N_drewN | apply Kd.N_drew)); exact Kd.N_mono (Kd.N_far (p := ⟨gb155, 0, none⟩) (Kd.N_mono HO_5.out (fun k_ hk => (⟨hk, hk.2.2.2⟩ : _ ∧ k_ ≠ gb155))) (fun _ hk => hk.2) (.bool true)) (fun _ hk => ⟨hk.1.1, ⟨hk.1.2.1, ⟨hk.1.2.2.1, hk.1.2.2.2⟩⟩⟩)))⟩; have n1_ : qa (Kd.R k33 33 w26 w.heap.size (fun k_ => (w.heap.size ≤ k_)) (.slice Ao23 t150.length co23) t150) := ⟨(by rw [hw]; exact (by (with_reducible repeat (first | apply Kd.R_alloc | apply Kd.R_drewN | apply Kd.R_drew)); exact Kd.R_mono (Kd.R_far (p := ⟨gb155, 0, none⟩) (Kd.R_types HO152.out BK155.out (by decide)) (fun _ hk => hk.2) (.bool true)) (fun _ hk => hk.1)))⟩; have n2_ : qa (w26.heap[gb155]? = some (.cells #[.bool true, .bool t147, .string t148, .string t149, .slice Ao23 t150.length co23] 41 (0, 0))) := ⟨(by rw [hw]; exact (by (with_reducible repeat (first | refine qi ?_ _ | refine qk ?_ | refine qh ?_ _)); refine qq (cs := #[.bool t146, .bool t147, .string t148, .string t149, .slice Ao23 t150.length co23]) ?_ 0 _ rfl; (with_reducible repeat (first | refine qi ?_ _ | refine qk ?_ | refine qh ?_ _)); exact BK155.out))⟩; have n3_ : qa (IsS55 w w26 gb129 t153 t154) := ⟨(by rw [hw]; exact zz101)⟩; have n4_ : qa (Below w.heap.size w w26) := ⟨(by rw [hw]; exact zz75)⟩; clear hw; clear HO_5; clear HO152; clear BK155; clear HI129; clear HB; have HO_5 := n0_; have HO152 := n1_; have BK155 := n2_; have HI129 := n3_; have HB := n4_; clear n0_ n1_ n2_ n3_ n4_; have hcz27_0 : w26.cell? ⟨gb155, 0, none⟩ = some (.bool true) := (qg BK155.out 0).trans rfl; have hcz27_1 : w26.cell? ⟨gb155, 1, none⟩ = some (.bool t147) := (qg BK155.out 1).trans rfl; have hcz27_2 : w26.cell? ⟨gb155, 2, none⟩ = some (.string t148) := (qg BK155.out 2).trans rfl; have hcz27_3 : w26.cell? ⟨gb155, 3, none⟩ = some (.string t149) := (qg BK155.out 3).trans rfl; have hcz27_4 : w26.cell? ⟨gb155, 4, none⟩ = some (.slice Ao23 t150.length co23) := (qg BK155.out 4).trans rfl; have hfz27_0 := qf BK155.out 0; have hfz27_1 := qf BK155.out 1; have hfz27_2 := qf BK155.out 2; have hfz27_3 := qf BK155.out 3; have hfz27_4 := qf BK155.out 4) | ((with_reducible refine gate_builtin (b := .append) (xs := #[.tmp 37, .tmp 39]) rfl ?_); (try (refine gate_guard (by rfl) ?_; dsimp only)); at_builtin; refine Kd.N_append k41 (w0 := w) w.heap.size rfl (.tmp 37) (.tmp 39) 23 41 (.agg #[(.bool false), (.bool false), (.string ⟨#[]⟩), (.string ⟨#[]⟩), (.slice none 0 0)]) 64 rfl Tryd.underlying23 info41 rfl (by decide) (by omega) u5 x5_1 (⟨true, t147, t148, t149, t150⟩ : S41) [.bool true, .bool t147, .string t148, .string t149, .slice Ao23 t150.length co23] (fun k_ => (w.heap.size ≤ k_) ∧ k_ ≠ gb155 ∧ k_ ≠ gb129) (fun k_ => ((fun k_ => (w.heap.size ≤ k_) ∧ k_ ≠ gb155 ∧ k_ ≠ gb129)) k_ ∧ some k_ ≠ (u5 : Value).ownBlock) rfl rfl ?aP (fun _ hk => hk) ?aF ?aO ?aB ?aS ?aL ?_; (case aP => exact (k41_mkF _ _ (⟨true, t147, t148, t149, t150⟩ : S41) (Kd.R_reads' (Kd.R_mono (ok' := (fun k_ => ((fun k_ => (w.heap.size ≤ k_) ∧ k_ ≠ gb155 ∧ k_ ≠ gb129)) k_ ∧ some k_ ≠ (u5 : Value).ownBlock)) (IsS55.apart HI129.out (Kd.R_types (Kd.R_apart' (HO152.out) (Kd.N_typed HO_5.out) (by decide)) BK155.out (by decide)) (by decide)) (fun k_ hk => ⟨⟨hk.1.1.1, ⟨hk.1.2, hk.2⟩⟩, hk.1.1.2⟩))).2.1 (Kd.R_F (Kd.R_mono (ok' := (fun k_ => ((fun k_ => (w.heap.size ≤ k_) ∧ k_ ≠ gb155 ∧ k_ ≠ gb129)) k_ ∧ some k_ ≠ (u5 : Value).ownBlock)) (IsS55.apart HI129.out (Kd.R_types (Kd.R_apart' (HO152.out) (Kd.N_typed HO_5.out) (by decide)) BK155.out (by decide)) (by decide)) (fun k_ hk => ⟨⟨hk.1.1.1, ⟨hk.1.2, hk.2⟩⟩, hk.1.1.2⟩))))); (case aB => exact zz75); (case aF => exact (fun k_ hk => ⟨(Nat.le_trans (ql zz75) hk), Kd.freshB (g := gb155) (o := .cells #[.bool true, .bool t147, .string t148, .string t149, .slice Ao23 t150.length co23] 41 (0, 0)) (by (with_reducible repeat (first | refine qi ?_ _ | refine qk ?_ | refine qh ?_ _)); exact BK155.out) k_ hk, IsS55.fresh zz101 k_ hk⟩)); (case aO => exact zz73); (case aS => exact (ql zz75)); (case aL => have := LMc17.out; omega); intro v157 w28 ho hb hg hat; rw [← Ny156.out] at ho; have n0_ := qa.mk (IsS55.grown zz101 hg (IsS55.own_neN HI129.out HO_5.out (by decide))); have n1_ := qa.mk (blk_grown (g := gb155) (o := .cells #[.bool true, .bool t147, .string t148, .string t149, .slice Ao23 t150.length co23] 41 (0, 0)) (by (with_reducible repeat (first | refine qi ?_ _ | refine qk ?_ | refine qh ?_ _)); exact BK155.out) hg (Kd.N_away HO_5.out (fun _ hk => hk.2.2.2))); have n2_ := qa.mk (hb); have n3_ := qa.mk (ho); clear HI129; clear BK155; clear HB; clear HO_5; clear HO152; have HI129 := n0_; have BK155 := n1_; have HB := n2_; have HO158 := n3_; clear n0_ n1_ n2_ n3_; clear ho hb hg hat))
        go_roundg kj7
        case measure => have := HK1.out; have := HJ7.out; omega
        case rel => exact ⟨(y156), (t153), (t154), H', ⟨by have := HK1.out; have := HJ7.out; omega⟩, ⟨by (with_reducible repeat (first | apply Kd.N_alloc | apply Kd.N_drewN | apply Kd.N_drew)); exact Kd.N_mono HO158.out (fun _ hk => ⟨hk.1, hk.2.2⟩)⟩, ⟨zz101⟩, ⟨zz75⟩⟩
       ·rw [if_neg c17] at H
        exact absurd H (by simp)
      ·replace c15 := Bool.eq_false_iff.mpr c15
       subst c15
       have H1 : ((qgb.f t144 t145 (⟨#[32]⟩ : ByteArray)).bind fun bt159 => (if bt159.1 = true then ((qyb.f bt159.2.1 bt159.2.2).bind fun bt162 => (if x5_1.length < 2199023255552 then (qcb.l0 kj7 (x5_1 ++ [(⟨false, bt162.2.1, bt162.2.2.1, bt162.2.2.2.1, bt162.2.2.2.2.1⟩ : S41)]) bt162.2.2.2.2.2.1 bt162.2.2.2.2.2.2) else (none))) else (if bt159.2.2 = true then (some (([] : List (S41)), 2)) else (if bt159.2.1.toList = ([] : List UInt8) then ((qp.f kj7 x5_1).bind fun t175 => (if t175 = 0 then (some (x5_1, 0)) else (some (([] : List (S41)), 2)))) else (some (([] : List (S41)), 2)))))) = some (r1, r2) := by rw [if_neg (show ¬ (false = true) by decide)] at H; exact H
       clear H
       have H := H1
       clear H1
       replace H := Option.bind_eq_some_iff.mp H
       obtain ⟨⟨t159, t160, t161⟩, A290, H⟩ := H
       replace H : (if t159 = true then ((qyb.f t160 t161).bind fun bt162 => (if x5_1.length < 2199023255552 then (qcb.l0 kj7 (x5_1 ++ [(⟨false, bt162.2.1, bt162.2.2.1, bt162.2.2.2.1, bt162.2.2.2.2.1⟩ : S41)]) bt162.2.2.2.2.2.1 bt162.2.2.2.2.2.2) else (none))) else (if t161 = true then (some (([] : List (S41)), 2)) else (if t160.toList = ([] : List UInt8) then ((qp.f kj7 x5_1).bind fun t175 => (if t175 = 0 then (some (x5_1, 0)) else (some (([] : List (S41)), 2)))) else (some (([] : List (S41)), 2))))) = some (r1, r2) := H
       have A29 := qa.mk A290
       clear A290
       by_cases c30 : t159 = true
       ·subst c30
        have H1 : ((qyb.f t160 t161).bind fun bt162 => (if x5_1.length < 2199023255552 then (qcb.l0 kj7 (x5_1 ++ [(⟨false, bt162.2.1, bt162.2.2.1, bt162.2.2.2.1, bt162.2.2.2.2.1⟩ : S41)]) bt162.2.2.2.2.2.1 bt162.2.2.2.2.2.2) else (none))) = some (r1, r2) := by rw [if_pos rfl] at H; exact H
        clear H
        have H := H1
        clear H1
        replace H := Option.bind_eq_some_iff.mp H
        obtain ⟨⟨t162, t163, t164, t165, t166, t169, t170⟩, A310, H⟩ := H
        replace H : (if x5_1.length < 2199023255552 then (qcb.l0 kj7 (x5_1 ++ [(⟨false, t163, t164, t165, t166⟩ : S41)]) t169 t170) else (none)) = some (r1, r2) := H
        have A31 := qa.mk A310
        clear A310
        by_cases c32 : x5_1.length < 2199023255552
        ·rw [if_pos c32] at H
         have LMc32 := qa.mk c32
         clear c32
         obtain ⟨y172, hy172⟩ : ∃ y_ : List (S41), y_ = (x5_1 ++ [(⟨false, t163, t164, t165, t166⟩ : S41)]) := ⟨_, rfl⟩
         replace H : (qcb.l0 kj7 y172 t169 t170) = some (r1, r2) := by first | (rw [hy172]; with_reducible exact H) | (have H2_ := (Option.bind_some _ _).symm.trans H; rw [hy172]; with_reducible exact H2_) | (have H2_ := (Option.bind_some _ _).symm.trans H; with_reducible exact H2_) | with_reducible exact H | (rw [hy172]; exact H) | exact H
         have Ny172 := qa.mk hy172
         clear hy172
         have H' := qa.mk H
         clear H
         go_wp2_with (first | ((with_reducible refine qv (f := 18) rfl ?_); refine qob (some 25) rfl rfl Tryd.func18 (by kernel_rfl) rfl #[.pointer (some ⟨gb129, 0, none⟩), .string (⟨#[62]⟩ : ByteArray)] rfl zz56 ?_; (with_reducible refine (qgb.calls gb129 x130000_1 x130001_1 (⟨#[62]⟩ : ByteArray) false t144 t145 w _ ?side1 ?side2 A14.out).mono ?_); (case side1 => exact zz89); (case side2 => exact zz55); rintro e w33 ⟨rfl, hi, hb, hk⟩; refine ⟨_, rfl, ?_⟩; have n0_ := qa.mk (Kd.N_mono (Kd.N_keep (Kd.N_mono (ok := fun k_ => (((w.heap.size ≤ k_)) ∧ k_ ≠ gb129)) zz28 (fun k_ hk_ => (⟨hk_, hk_.2⟩ : _ ∧ k_ ≠ gb129))) hk (fun _ h => h.2)) (fun _ h => h.1)); have n1_ := qa.mk (hb); have n2_ := qa.mk (hi); clear HO_5; clear HB; clear HI129; have HO_5 := n0_; have HB := n1_; have HI129 := n2_; clear n0_ n1_ n2_; (try clear hb); (try clear hb2); (try clear hk); (try clear hi)) | (go_at_call 18; (with_reducible refine (qgb.calls gb129 t144 t145 (⟨#[32]⟩ : ByteArray) true t160 t161 w _ ?side1 ?side2 A29.out).mono ?_); (case side1 => exact zz89); (case side2 => exact zz55); rintro e w34 ⟨rfl, hi, hb, hk⟩; have n0_ := qa.mk (Kd.N_mono (Kd.N_keep (Kd.N_mono (ok := fun k_ => (((w.heap.size ≤ k_)) ∧ k_ ≠ gb129)) zz28 (fun k_ hk_ => (⟨hk_, hk_.2⟩ : _ ∧ k_ ≠ gb129))) hk (fun _ h => h.2)) (fun _ h => h.1)); have n1_ := qa.mk (hb); have n2_ := qa.mk (hi); clear HO_5; clear HB; clear HI129; have HO_5 := n0_; have HB := n1_; have HI129 := n2_; clear n0_ n1_ n2_; (try clear hb); (try clear hb2); (try clear hk); (try clear hi)) | ((with_reducible refine qv (f := 17) rfl ?_); refine qob (some 34) rfl rfl Tryd.func17 (by kernel_rfl) rfl #[.pointer (some ⟨gb129, 0, none⟩)] rfl zz56 ?_; (with_reducible refine (qyb.calls gb129 t160 t161 t162 t163 t164 t165 t166 t169 t170 w _ ?side1 ?side2 ?side3 A31.out).mono ?_); (case side1 => exact HG.out); (case side2 => exact zz89); (case side3 => exact zz55); rintro e w35 ⟨v167, rfl, ho0, hi, hb, hk⟩; refine ⟨_, rfl, ?_⟩; have n0_ := qa.mk (Kd.N_mono (Kd.N_told (Kd.N_oldK (Kd.N_mono (ok := fun k_ => (((w.heap.size ≤ k_)) ∧ k_ ≠ gb129)) zz28 (fun k_ hk_ => (⟨hk_, hk_.2⟩ : _ ∧ k_ ≠ gb129))) hk) (Kd.R_base ho0)) (fun _ h_ => h_.1)); have n1_ := qa.mk (Kd.R_lower (Kd.R_newM (M := fun k_ => (w.heap.size ≤ k_)) ho0 (ql zz55) (fun k_ h_ => h_)) (ql zz55)); have n2_ := qa.mk (hb); have n3_ := qa.mk (hi); clear HO_5; clear HB; clear HI129; have HO_5 := n0_; have HO168 := n1_; have HB := n2_; have HI129 := n3_; clear n0_ n1_ n2_ n3_; (try clear hb); (try clear hb2); (try clear hk); (try clear hi); (try clear ho0)) | ((with_reducible refine qeb (N := 7) rfl ?_); (try (refine gate_guard (by rfl) ?_; dsimp only)); refine qib ?hg (N := 7) ?hd (cs := #[.bool false, .bool false, .string (⟨#[]⟩ : ByteArray), .string (⟨#[]⟩ : ByteArray), .slice none 0 0]) (t := 41) ?hr ?_; (case hd => rfl); (case hg => rfl); (case hr => exact zz5); intro gb171 hg w36 hbox hb; have n0_ := qa.mk (Kd.N_below (Kd.N_elderB zz28 gb171 (Nat.le_of_eq hg.symm)) hb); have n1_ := qa.mk (Kd.R_below (by (with_reducible repeat (first | apply Kd.R_alloc | apply Kd.R_drewN | apply Kd.R_drew)); exact HO168.out) hb); have n2_ := qa.mk (IsS55.below zz89 hb); have n3_ := qa.mk (qm zz55 hb); have n4_ := qa.mk (hbox); have n5_ := qa.mk ((by rw [hg]; exact (ql zz55) : w.heap.size ≤ gb171)); have n6_ := qa.mk ((by rw [hg]; exact (ql zz55) : w.heap.size ≤ gb171)); have n7_ := qa.mk ((by rw [hg]; exact qkc (IsS55.lt (show IsS55 w _ gb129 t169 t170 from by repeat (first | (with_reducible first | exact HI129.out | apply IsS55.alloc | apply IsS55.drewN | apply IsS55.drew | apply IsS55.set_0 | apply IsS55.set_1) | exact HI129.out))) : gb129 ≠ gb171)); have n8_ := qa.mk ((by rw [hg]; exact Nat.ne_of_gt (IsS55.lt (show IsS55 w _ gb129 t169 t170 from by repeat (first | (with_reducible first | exact HI129.out | apply IsS55.alloc | apply IsS55.drewN | apply IsS55.drew | apply IsS55.set_0 | apply IsS55.set_1) | exact HI129.out))) : gb171 ≠ gb129)); clear HO_5; clear HO168; clear HI129; clear HB; have HO_5 := n0_; have HO168 := n1_; have HI129 := n2_; have HB := n3_; have BK171 := n4_; have GW171 := n5_; have GE171 := n6_; have NB129_171 := n7_; have NB171_129 := n8_; clear n0_ n1_ n2_ n3_ n4_ n5_ n6_ n7_ n8_; clear hb hbox hg; have hnb37 := NB171_129.out; have hnc37 := NB129_171.out; have hcz38_0 : w36.cell? ⟨gb171, 0, none⟩ = some (.bool false) := (qg BK171.out 0).trans rfl; have hcz38_1 : w36.cell? ⟨gb171, 1, none⟩ = some (.bool false) := (qg BK171.out 1).trans rfl; have hcz38_2 : w36.cell? ⟨gb171, 2, none⟩ = some (.string (⟨#[]⟩ : ByteArray)) := (qg BK171.out 2).trans rfl; have hcz38_3 : w36.cell? ⟨gb171, 3, none⟩ = some (.string (⟨#[]⟩ : ByteArray)) := (qg BK171.out 3).trans rfl; have hcz38_4 : w36.cell? ⟨gb171, 4, none⟩ = some (.slice none 0 0) := (qg BK171.out 4).trans rfl; have hfz38_0 := qf BK171.out 0; have hfz38_1 := qf BK171.out 1; have hfz38_2 := qf BK171.out 2; have hfz38_3 := qf BK171.out 3; have hfz38_4 := qf BK171.out 4; obtain ⟨Ao39, co39, eo39⟩ := Kd.R_slice HO168.out; subst eo39) | ((with_reducible refine gate_store (t := 41) (p := 7) rfl ?_); refine store_event (t := 41) (p := 7) (v := ?vo_w40) (w1 := (((((w36.setCell ⟨gb171, 0, none⟩ (.bool t162)).setCell ⟨gb171, 1, none⟩ (.bool t163)).setCell ⟨gb171, 2, none⟩ (.string t164)).setCell ⟨gb171, 3, none⟩ (.string t165)).setCell ⟨gb171, 4, none⟩ (.slice Ao39 t166.length co39))) ?hg ?ho ?hn ?hr ?_; (case ho => rfl); (case hg => rfl); (case hn => rfl); (case hr => exact zz5); intro w40 hw; have n0_ : qa (Kd.N k41 41 w40 w.heap.size (fun k_ => (w.heap.size ≤ k_) ∧ some k_ ≠ (.slice Ao39 t166.length co39 : Value).ownBlock ∧ k_ ≠ gb129 ∧ k_ ≠ gb171) u5 x5_1) := ⟨(by rw [hw]; exact (by (with_reducible repeat (first | apply Kd.N_alloc | apply Kd.N_drewN | apply Kd.N_drew)); exact Kd.N_mono (Kd.N_far (p := ⟨gb171, 4, none⟩) (Kd.N_far (p := ⟨gb171, 3, none⟩) (Kd.N_far (p := ⟨gb171, 2, none⟩) (Kd.N_far (p := ⟨gb171, 1, none⟩) (Kd.N_far (p := ⟨gb171, 0, none⟩) (Kd.N_mono HO_5.out (fun k_ hk => (⟨hk, hk.2⟩ : _ ∧ k_ ≠ gb171))) (fun _ hk => hk.2) (.bool t162)) (fun _ hk => hk.2) (.bool t163)) (fun _ hk => hk.2) (.string t164)) (fun _ hk => hk.2) (.string t165)) (fun _ hk => hk.2) (.slice Ao39 t166.length co39)) (fun _ hk => ⟨hk.1.1.1.1, ⟨hk.1.1.2, ⟨hk.1.1.1.2, hk.1.2⟩⟩⟩)))⟩; have n1_ : qa (Kd.R k33 33 w40 w.heap.size (fun k_ => (w.heap.size ≤ k_)) (.slice Ao39 t166.length co39) t166) := ⟨(by rw [hw]; exact (by (with_reducible repeat (first | apply Kd.R_alloc | apply Kd.R_drewN | apply Kd.R_drew)); exact Kd.R_mono (Kd.R_far (p := ⟨gb171, 4, none⟩) (Kd.R_far (p := ⟨gb171, 3, none⟩) (Kd.R_far (p := ⟨gb171, 2, none⟩) (Kd.R_far (p := ⟨gb171, 1, none⟩) (Kd.R_far (p := ⟨gb171, 0, none⟩) (Kd.R_types HO168.out BK171.out (by decide)) (fun _ hk => hk.2) (.bool t162)) (fun _ hk => hk.2) (.bool t163)) (fun _ hk => hk.2) (.string t164)) (fun _ hk => hk.2) (.string t165)) (fun _ hk => hk.2) (.slice Ao39 t166.length co39)) (fun _ hk => hk.1.1)))⟩; have n2_ : qa (w40.heap[gb171]? = some (.cells #[.bool t162, .bool t163, .string t164, .string t165, .slice Ao39 t166.length co39] 41 (0, 0))) := ⟨(by rw [hw]; exact (by (with_reducible repeat (first | refine qi ?_ _ | refine qk ?_ | refine qh ?_ _)); refine qq (cs := #[.bool t162, .bool t163, .string t164, .string t165, .slice none 0 0]) ?_ 4 _ rfl; (with_reducible repeat (first | refine qi ?_ _ | refine qk ?_ | refine qh ?_ _)); refine qq (cs := #[.bool t162, .bool t163, .string t164, .string (⟨#[]⟩ : ByteArray), .slice none 0 0]) ?_ 3 _ rfl; (with_reducible repeat (first | refine qi ?_ _ | refine qk ?_ | refine qh ?_ _)); refine qq (cs := #[.bool t162, .bool t163, .string (⟨#[]⟩ : ByteArray), .string (⟨#[]⟩ : ByteArray), .slice none 0 0]) ?_ 2 _ rfl; (with_reducible repeat (first | refine qi ?_ _ | refine qk ?_ | refine qh ?_ _)); refine qq (cs := #[.bool t162, .bool false, .string (⟨#[]⟩ : ByteArray), .string (⟨#[]⟩ : ByteArray), .slice none 0 0]) ?_ 1 _ rfl; (with_reducible repeat (first | refine qi ?_ _ | refine qk ?_ | refine qh ?_ _)); refine qq (cs := #[.bool false, .bool false, .string (⟨#[]⟩ : ByteArray), .string (⟨#[]⟩ : ByteArray), .slice none 0 0]) ?_ 0 _ rfl; (with_reducible repeat (first | refine qi ?_ _ | refine qk ?_ | refine qh ?_ _)); exact BK171.out))⟩; have n3_ : qa (IsS55 w w40 gb129 t169 t170) := ⟨(by rw [hw]; exact zz102)⟩; have n4_ : qa (Below w.heap.size w w40) := ⟨(by rw [hw]; exact zz76)⟩; clear hw; clear HO_5; clear HO168; clear BK171; clear HI129; clear HB; have HO_5 := n0_; have HO168 := n1_; have BK171 := n2_; have HI129 := n3_; have HB := n4_; clear n0_ n1_ n2_ n3_ n4_; have hcz41_0 : w40.cell? ⟨gb171, 0, none⟩ = some (.bool t162) := (qg BK171.out 0).trans rfl; have hcz41_1 : w40.cell? ⟨gb171, 1, none⟩ = some (.bool t163) := (qg BK171.out 1).trans rfl; have hcz41_2 : w40.cell? ⟨gb171, 2, none⟩ = some (.string t164) := (qg BK171.out 2).trans rfl; have hcz41_3 : w40.cell? ⟨gb171, 3, none⟩ = some (.string t165) := (qg BK171.out 3).trans rfl; have hcz41_4 : w40.cell? ⟨gb171, 4, none⟩ = some (.slice Ao39 t166.length co39) := (qg BK171.out 4).trans rfl; have hfz41_0 := qf BK171.out 0; have hfz41_1 := qf BK171.out 1; have hfz41_2 := qf BK171.out 2; have hfz41_3 := qf BK171.out 3; have hfz41_4 := qf BK171.out 4) | ((with_reducible refine gate_store (t := 4) (p := 36) rfl ?_); refine store_event (t := 4) (p := 36) (v := ?vo_w42) (w1 := (w40.setCell ⟨gb171, 0, none⟩ (.bool false))) ?hg ?ho ?hn ?hr ?_; (case ho => rfl); (case hg => rfl); (case hn => rfl); (case hr => exact zz5); intro w42 hw; have n0_ : qa (Kd.N k41 41 w42 w.heap.size (fun k_ => (w.heap.size ≤ k_) ∧ some k_ ≠ (.slice Ao39 t166.length co39 : Value).ownBlock ∧ k_ ≠ gb129 ∧ k_ ≠ gb171) u5 x5_1) := ⟨(by rw [hw]; exact (by (with_reducible repeat (first | apply Kd.N_alloc | apply Kd.N_drewN | apply Kd.N_drew)); exact Kd.N_mono (Kd.N_far (p := ⟨gb171, 0, none⟩) (Kd.N_mono HO_5.out (fun k_ hk => (⟨hk, hk.2.2.2⟩ : _ ∧ k_ ≠ gb171))) (fun _ hk => hk.2) (.bool false)) (fun _ hk => ⟨hk.1.1, ⟨hk.1.2.1, ⟨hk.1.2.2.1, hk.1.2.2.2⟩⟩⟩)))⟩; have n1_ : qa (Kd.R k33 33 w42 w.heap.size (fun k_ => (w.heap.size ≤ k_)) (.slice Ao39 t166.length co39) t166) := ⟨(by rw [hw]; exact (by (with_reducible repeat (first | apply Kd.R_alloc | apply Kd.R_drewN | apply Kd.R_drew)); exact Kd.R_mono (Kd.R_far (p := ⟨gb171, 0, none⟩) (Kd.R_types HO168.out BK171.out (by decide)) (fun _ hk => hk.2) (.bool false)) (fun _ hk => hk.1)))⟩; have n2_ : qa (w42.heap[gb171]? = some (.cells #[.bool false, .bool t163, .string t164, .string t165, .slice Ao39 t166.length co39] 41 (0, 0))) := ⟨(by rw [hw]; exact (by (with_reducible repeat (first | refine qi ?_ _ | refine qk ?_ | refine qh ?_ _)); refine qq (cs := #[.bool t162, .bool t163, .string t164, .string t165, .slice Ao39 t166.length co39]) ?_ 0 _ rfl; (with_reducible repeat (first | refine qi ?_ _ | refine qk ?_ | refine qh ?_ _)); exact BK171.out))⟩; have n3_ : qa (IsS55 w w42 gb129 t169 t170) := ⟨(by rw [hw]; exact zz102)⟩; have n4_ : qa (Below w.heap.size w w42) := ⟨(by rw [hw]; exact zz76)⟩; clear hw; clear HO_5; clear HO168; clear BK171; clear HI129; clear HB; have HO_5 := n0_; have HO168 := n1_; have BK171 := n2_; have HI129 := n3_; have HB := n4_; clear n0_ n1_ n2_ n3_ n4_; have hcz43_0 : w42.cell? ⟨gb171, 0, none⟩ = some (.bool false) := (qg BK171.out 0).trans rfl; have hcz43_1 : w42.cell? ⟨gb171, 1, none⟩ = some (.bool t163) := (qg BK171.out 1).trans rfl; have hcz43_2 : w42.cell? ⟨gb171, 2, none⟩ = some (.string t164) := (qg BK171.out 2).trans rfl; have hcz43_3 : w42.cell? ⟨gb171, 3, none⟩ = some (.string t165) := (qg BK171.out 3).trans rfl; have hcz43_4 : w42.cell? ⟨gb171, 4, none⟩ = some (.slice Ao39 t166.length co39) := (qg BK171.out 4).trans rfl; have hfz43_0 := qf BK171.out 0; have hfz43_1 := qf BK171.out 1; have hfz43_2 := qf BK171.out 2; have hfz43_3 := qf BK171.out 3; have hfz43_4 := qf BK171.out 4) | ((with_reducible refine gate_builtin (b := .append) (xs := #[.tmp 37, .tmp 39]) rfl ?_); (try (refine gate_guard (by rfl) ?_; dsimp only)); at_builtin; refine Kd.N_append k41 (w0 := w) w.heap.size rfl (.tmp 37) (.tmp 39) 23 41 (.agg #[(.bool false), (.bool false), (.string ⟨#[]⟩), (.string ⟨#[]⟩), (.slice none 0 0)]) 64 rfl Tryd.underlying23 info41 rfl (by decide) (by omega) u5 x5_1 (⟨false, t163, t164, t165, t166⟩ : S41) [.bool false, .bool t163, .string t164, .string t165, .slice Ao39 t166.length co39] (fun k_ => (w.heap.size ≤ k_) ∧ k_ ≠ gb171 ∧ k_ ≠ gb129) (fun k_ => ((fun k_ => (w.heap.size ≤ k_) ∧ k_ ≠ gb171 ∧ k_ ≠ gb129)) k_ ∧ some k_ ≠ (u5 : Value).ownBlock) rfl rfl ?aP (fun _ hk => hk) ?aF ?aO ?aB ?aS ?aL ?_; (case aP => exact (k41_mkF _ _ (⟨false, t163, t164, t165, t166⟩ : S41) (Kd.R_reads' (Kd.R_mono (ok' := (fun k_ => ((fun k_ => (w.heap.size ≤ k_) ∧ k_ ≠ gb171 ∧ k_ ≠ gb129)) k_ ∧ some k_ ≠ (u5 : Value).ownBlock)) (IsS55.apart HI129.out (Kd.R_types (Kd.R_apart' (HO168.out) (Kd.N_typed HO_5.out) (by decide)) BK171.out (by decide)) (by decide)) (fun k_ hk => ⟨⟨hk.1.1.1, ⟨hk.1.2, hk.2⟩⟩, hk.1.1.2⟩))).2.1 (Kd.R_F (Kd.R_mono (ok' := (fun k_ => ((fun k_ => (w.heap.size ≤ k_) ∧ k_ ≠ gb171 ∧ k_ ≠ gb129)) k_ ∧ some k_ ≠ (u5 : Value).ownBlock)) (IsS55.apart HI129.out (Kd.R_types (Kd.R_apart' (HO168.out) (Kd.N_typed HO_5.out) (by decide)) BK171.out (by decide)) (by decide)) (fun k_ hk => ⟨⟨hk.1.1.1, ⟨hk.1.2, hk.2⟩⟩, hk.1.1.2⟩))))); (case aB => exact zz76); (case aF => exact (fun k_ hk => ⟨(Nat.le_trans (ql zz76) hk), Kd.freshB (g := gb171) (o := .cells #[.bool false, .bool t163, .string t164, .string t165, .slice Ao39 t166.length co39] 41 (0, 0)) (by (with_reducible repeat (first | refine qi ?_ _ | refine qk ?_ | refine qh ?_ _)); exact BK171.out) k_ hk, IsS55.fresh zz102 k_ hk⟩)); (case aO => exact zz73); (case aS => exact (ql zz76)); (case aL => have := LMc32.out; omega); intro v173 w44 ho hb hg hat; rw [← Ny172.out] at ho; have n0_ := qa.mk (IsS55.grown zz102 hg (IsS55.own_neN HI129.out HO_5.out (by decide))); have n1_ := qa.mk (blk_grown (g := gb171) (o := .cells #[.bool false, .bool t163, .string t164, .string t165, .slice Ao39 t166.length co39] 41 (0, 0)) (by (with_reducible repeat (first | refine qi ?_ _ | refine qk ?_ | refine qh ?_ _)); exact BK171.out) hg (Kd.N_away HO_5.out (fun _ hk => hk.2.2.2))); have n2_ := qa.mk (hb); have n3_ := qa.mk (ho); clear HI129; clear BK171; clear HB; clear HO_5; clear HO168; have HI129 := n0_; have BK171 := n1_; have HB := n2_; have HO174 := n3_; clear n0_ n1_ n2_ n3_; clear ho hb hg hat))
         go_roundg kj7
         case measure => have := HK1.out; have := HJ7.out; omega
         case rel => exact ⟨(y172), (t169), (t170), H', ⟨by have := HK1.out; have := HJ7.out; omega⟩, ⟨by (with_reducible repeat (first | apply Kd.N_alloc | apply Kd.N_drewN | apply Kd.N_drew)); exact Kd.N_mono HO174.out (fun _ hk => ⟨hk.1, hk.2.2⟩)⟩, ⟨zz102⟩, ⟨zz76⟩⟩
        ·rw [if_neg c32] at H
         exact absurd H (by simp)
       ·replace c30 := Bool.eq_false_iff.mpr c30
        subst c30
        have H1 : (if t161 = true then (some (([] : List (S41)), 2)) else (if t160.toList = ([] : List UInt8) then ((qp.f kj7 x5_1).bind fun t175 => (if t175 = 0 then (some (x5_1, 0)) else (some (([] : List (S41)), 2)))) else (some (([] : List (S41)), 2)))) = some (r1, r2) := by rw [if_neg (show ¬ (false = true) by decide)] at H; exact H
        clear H
        have H := H1
        clear H1
        by_cases c45 : t161 = true
        ·subst c45
         have H1 : (some (([] : List (S41)), 2)) = some (r1, r2) := by rw [if_pos rfl] at H; exact H
         clear H
         have H := H1
         clear H1
         simp only [Option.some.injEq, Prod.mk.injEq] at H
         obtain ⟨rfl, rfl⟩ := H
         go_wp2_with (first | ((with_reducible refine qv (f := 18) rfl ?_); refine qob (some 25) rfl rfl Tryd.func18 (by kernel_rfl) rfl #[.pointer (some ⟨gb129, 0, none⟩), .string (⟨#[62]⟩ : ByteArray)] rfl zz56 ?_; (with_reducible refine (qgb.calls gb129 x130000_1 x130001_1 (⟨#[62]⟩ : ByteArray) false t144 t145 w _ ?side1 ?side2 A14.out).mono ?_); (case side1 => exact zz89); (case side2 => exact zz55); rintro e w46 ⟨rfl, hi, hb, hk⟩; refine ⟨_, rfl, ?_⟩; have n0_ := qa.mk (Kd.N_mono (Kd.N_keep (Kd.N_mono (ok := fun k_ => (((w.heap.size ≤ k_)) ∧ k_ ≠ gb129)) zz28 (fun k_ hk_ => (⟨hk_, hk_.2⟩ : _ ∧ k_ ≠ gb129))) hk (fun _ h => h.2)) (fun _ h => h.1)); have n1_ := qa.mk (hb); have n2_ := qa.mk (hi); clear HO_5; clear HB; clear HI129; have HO_5 := n0_; have HB := n1_; have HI129 := n2_; clear n0_ n1_ n2_; (try clear hb); (try clear hb2); (try clear hk); (try clear hi)) | (go_at_call 18; (with_reducible refine (qgb.calls gb129 t144 t145 (⟨#[32]⟩ : ByteArray) false t160 true w _ ?side1 ?side2 A29.out).mono ?_); (case side1 => exact zz89); (case side2 => exact zz55); rintro e w47 ⟨rfl, hi, hb, hk⟩; have n0_ := qa.mk (Kd.N_mono (Kd.N_keep (Kd.N_mono (ok := fun k_ => (((w.heap.size ≤ k_)) ∧ k_ ≠ gb129)) zz28 (fun k_ hk_ => (⟨hk_, hk_.2⟩ : _ ∧ k_ ≠ gb129))) hk (fun _ h => h.2)) (fun _ h => h.1)); have n1_ := qa.mk (hb); have n2_ := qa.mk (hi); clear HO_5; clear HB; clear HI129; have HO_5 := n0_; have HB := n1_; have HI129 := n2_; clear n0_ n1_ n2_; (try clear hb); (try clear hb2); (try clear hk); (try clear hi); obtain ⟨HGz48, hgz48⟩ := HI129.out; have hcz48_0 := cellS55_0 HGz48; have hcz48_1 := cellS55_1 HGz48; have hfz48_0 := qf HGz48 0; have hfz48_1 := qf HGz48 1; clear HGz48 hgz48))
         go_ret2
         exact ⟨_, zz65, zz58, zz55⟩
        ·replace c45 := Bool.eq_false_iff.mpr c45
         subst c45
         have H1 : (if t160.toList = ([] : List UInt8) then ((qp.f kj7 x5_1).bind fun t175 => (if t175 = 0 then (some (x5_1, 0)) else (some (([] : List (S41)), 2)))) else (some (([] : List (S41)), 2))) = some (r1, r2) := by rw [if_neg (show ¬ (false = true) by decide)] at H; exact H
         clear H
         have H := H1
         clear H1
         by_cases c49 : t160.toList = ([] : List UInt8)
         ·rw [if_pos c49] at H
          have c49b0 : (t160.toList == ([] : List UInt8)) = true := beq_iff_eq.mpr c49
          have c49b1 : (t160.toList != ([] : List UInt8)) = false := bne_eq_false_iff_eq.mpr c49
          (try (have c49b2 : List.isEmpty (t160.toList) = true := by simpa using c49))
          clear c49
          replace H := Option.bind_eq_some_iff.mp H
          obtain ⟨t175, A500, H⟩ := H
          replace H : (if t175 = 0 then (some (x5_1, 0)) else (some (([] : List (S41)), 2))) = some (r1, r2) := H
          have A50 := qa.mk A500
          clear A500
          by_cases c51 : t175 = 0
          ·rw [if_pos c51] at H
           have c51b0 : (t175 == 0) = true := beq_iff_eq.mpr c51
           have c51b1 : (t175 != 0) = false := bne_eq_false_iff_eq.mpr c51
           clear c51
           simp only [Option.some.injEq, Prod.mk.injEq] at H
           obtain ⟨rfl, rfl⟩ := H
           go_wp2_with (first | ((with_reducible refine qv (f := 18) rfl ?_); refine qob (some 25) rfl rfl Tryd.func18 (by kernel_rfl) rfl #[.pointer (some ⟨gb129, 0, none⟩), .string (⟨#[62]⟩ : ByteArray)] rfl zz56 ?_; (with_reducible refine (qgb.calls gb129 x130000_1 x130001_1 (⟨#[62]⟩ : ByteArray) false t144 t145 w _ ?side1 ?side2 A14.out).mono ?_); (case side1 => exact zz89); (case side2 => exact zz55); rintro e w52 ⟨rfl, hi, hb, hk⟩; refine ⟨_, rfl, ?_⟩; have n0_ := qa.mk (Kd.N_mono (Kd.N_keep (Kd.N_mono (ok := fun k_ => (((w.heap.size ≤ k_)) ∧ k_ ≠ gb129)) zz28 (fun k_ hk_ => (⟨hk_, hk_.2⟩ : _ ∧ k_ ≠ gb129))) hk (fun _ h => h.2)) (fun _ h => h.1)); have n1_ := qa.mk (hb); have n2_ := qa.mk (hi); clear HO_5; clear HB; clear HI129; have HO_5 := n0_; have HB := n1_; have HI129 := n2_; clear n0_ n1_ n2_; (try clear hb); (try clear hb2); (try clear hk); (try clear hi)) | (go_at_call 18; (with_reducible refine (qgb.calls gb129 t144 t145 (⟨#[32]⟩ : ByteArray) false t160 false w _ ?side1 ?side2 A29.out).mono ?_); (case side1 => exact zz89); (case side2 => exact zz55); rintro e w53 ⟨rfl, hi, hb, hk⟩; have n0_ := qa.mk (Kd.N_mono (Kd.N_keep (Kd.N_mono (ok := fun k_ => (((w.heap.size ≤ k_)) ∧ k_ ≠ gb129)) zz28 (fun k_ hk_ => (⟨hk_, hk_.2⟩ : _ ∧ k_ ≠ gb129))) hk (fun _ h => h.2)) (fun _ h => h.1)); have n1_ := qa.mk (hb); have n2_ := qa.mk (hi); clear HO_5; clear HB; clear HI129; have HO_5 := n0_; have HB := n1_; have HI129 := n2_; clear n0_ n1_ n2_; (try clear hb); (try clear hb2); (try clear hk); (try clear hi); obtain ⟨HGz54, hgz54⟩ := HI129.out; have hcz54_0 := cellS55_0 HGz54; have hcz54_1 := cellS55_1 HGz54; have hfz54_0 := qf HGz54 0; have hfz54_1 := qf HGz54 1; clear HGz54 hgz54; obtain ⟨Ao55, co55, eo55⟩ := Kd.N_slice HO_5.out; subst eo55) | (go_at_call 19; (with_reducible refine (qp.calls kj7 _ _ x5_1 t175 _ ?side1 ?side2 A50.out).mono ?_); (case side1 => exact zz82); (case side2 => exact (Kd.N_reads' HO_5.out).2.1); rintro e w56 ⟨rfl, hb⟩; have n0_ := qa.mk (Kd.N_below zz28 hb); have n1_ := qa.mk (IsS55.below zz89 hb); have n2_ := qa.mk (qm zz55 hb); clear HO_5; clear HI129; clear HB; have HO_5 := n0_; have HI129 := n1_; have HB := n2_; clear n0_ n1_ n2_; (try clear hb); (try clear hb2); (try clear hk); (try clear hi)))
           go_ret2
           exact ⟨_, zz65, zz53, zz55⟩
          ·rw [if_neg c51] at H
           have c51b0 : (t175 == 0) = false := beq_eq_false_iff_ne.mpr c51
           have c51b1 : (t175 != 0) = true := bne_iff_ne.mpr c51
           simp only [Option.some.injEq, Prod.mk.injEq] at H
           obtain ⟨rfl, rfl⟩ := H
           go_wp2_with (first | ((with_reducible refine qv (f := 18) rfl ?_); refine qob (some 25) rfl rfl Tryd.func18 (by kernel_rfl) rfl #[.pointer (some ⟨gb129, 0, none⟩), .string (⟨#[62]⟩ : ByteArray)] rfl zz56 ?_; (with_reducible refine (qgb.calls gb129 x130000_1 x130001_1 (⟨#[62]⟩ : ByteArray) false t144 t145 w _ ?side1 ?side2 A14.out).mono ?_); (case side1 => exact zz89); (case side2 => exact zz55); rintro e w57 ⟨rfl, hi, hb, hk⟩; refine ⟨_, rfl, ?_⟩; have n0_ := qa.mk (Kd.N_mono (Kd.N_keep (Kd.N_mono (ok := fun k_ => (((w.heap.size ≤ k_)) ∧ k_ ≠ gb129)) zz28 (fun k_ hk_ => (⟨hk_, hk_.2⟩ : _ ∧ k_ ≠ gb129))) hk (fun _ h => h.2)) (fun _ h => h.1)); have n1_ := qa.mk (hb); have n2_ := qa.mk (hi); clear HO_5; clear HB; clear HI129; have HO_5 := n0_; have HB := n1_; have HI129 := n2_; clear n0_ n1_ n2_; (try clear hb); (try clear hb2); (try clear hk); (try clear hi)) | (go_at_call 18; (with_reducible refine (qgb.calls gb129 t144 t145 (⟨#[32]⟩ : ByteArray) false t160 false w _ ?side1 ?side2 A29.out).mono ?_); (case side1 => exact zz89); (case side2 => exact zz55); rintro e w58 ⟨rfl, hi, hb, hk⟩; have n0_ := qa.mk (Kd.N_mono (Kd.N_keep (Kd.N_mono (ok := fun k_ => (((w.heap.size ≤ k_)) ∧ k_ ≠ gb129)) zz28 (fun k_ hk_ => (⟨hk_, hk_.2⟩ : _ ∧ k_ ≠ gb129))) hk (fun _ h => h.2)) (fun _ h => h.1)); have n1_ := qa.mk (hb); have n2_ := qa.mk (hi); clear HO_5; clear HB; clear HI129; have HO_5 := n0_; have HB := n1_; have HI129 := n2_; clear n0_ n1_ n2_; (try clear hb); (try clear hb2); (try clear hk); (try clear hi); obtain ⟨HGz59, hgz59⟩ := HI129.out; have hcz59_0 := cellS55_0 HGz59; have hcz59_1 := cellS55_1 HGz59; have hfz59_0 := qf HGz59 0; have hfz59_1 := qf HGz59 1; clear HGz59 hgz59; obtain ⟨Ao60, co60, eo60⟩ := Kd.N_slice HO_5.out; subst eo60) | (go_at_call 19; (with_reducible refine (qp.calls kj7 _ _ x5_1 t175 _ ?side1 ?side2 A50.out).mono ?_); (case side1 => exact zz82); (case side2 => exact (Kd.N_reads' HO_5.out).2.1); rintro e w61 ⟨rfl, hb⟩; have n0_ := qa.mk (Kd.N_below zz28 hb); have n1_ := qa.mk (IsS55.below zz89 hb); have n2_ := qa.mk (qm zz55 hb); clear HO_5; clear HI129; clear HB; have HO_5 := n0_; have HI129 := n1_; have HB := n2_; clear n0_ n1_ n2_; (try clear hb); (try clear hb2); (try clear hk); (try clear hi)))
           go_ret2
           exact ⟨_, zz65, zz58, zz55⟩
         ·rw [if_neg c49] at H
          have c49b0 : (t160.toList == ([] : List UInt8)) = false := beq_eq_false_iff_ne.mpr c49
          have c49b1 : (t160.toList != ([] : List UInt8)) = true := bne_iff_ne.mpr c49
          (try (have c49b2 : List.isEmpty (t160.toList) = false := by simpa using c49))
          simp only [Option.some.injEq, Prod.mk.injEq] at H
          obtain ⟨rfl, rfl⟩ := H
          go_wp2_with (first | ((with_reducible refine qv (f := 18) rfl ?_); refine qob (some 25) rfl rfl Tryd.func18 (by kernel_rfl) rfl #[.pointer (some ⟨gb129, 0, none⟩), .string (⟨#[62]⟩ : ByteArray)] rfl zz56 ?_; (with_reducible refine (qgb.calls gb129 x130000_1 x130001_1 (⟨#[62]⟩ : ByteArray) false t144 t145 w _ ?side1 ?side2 A14.out).mono ?_); (case side1 => exact zz89); (case side2 => exact zz55); rintro e w62 ⟨rfl, hi, hb, hk⟩; refine ⟨_, rfl, ?_⟩; have n0_ := qa.mk (Kd.N_mono (Kd.N_keep (Kd.N_mono (ok := fun k_ => (((w.heap.size ≤ k_)) ∧ k_ ≠ gb129)) zz28 (fun k_ hk_ => (⟨hk_, hk_.2⟩ : _ ∧ k_ ≠ gb129))) hk (fun _ h => h.2)) (fun _ h => h.1)); have n1_ := qa.mk (hb); have n2_ := qa.mk (hi); clear HO_5; clear HB; clear HI129; have HO_5 := n0_; have HB := n1_; have HI129 := n2_; clear n0_ n1_ n2_; (try clear hb); (try clear hb2); (try clear hk); (try clear hi)) | (go_at_call 18; (with_reducible refine (qgb.calls gb129 t144 t145 (⟨#[32]⟩ : ByteArray) false t160 false w _ ?side1 ?side2 A29.out).mono ?_); (case side1 => exact zz89); (case side2 => exact zz55); rintro e w63 ⟨rfl, hi, hb, hk⟩; have n0_ := qa.mk (Kd.N_mono (Kd.N_keep (Kd.N_mono (ok := fun k_ => (((w.heap.size ≤ k_)) ∧ k_ ≠ gb129)) zz28 (fun k_ hk_ => (⟨hk_, hk_.2⟩ : _ ∧ k_ ≠ gb129))) hk (fun _ h => h.2)) (fun _ h => h.1)); have n1_ := qa.mk (hb); have n2_ := qa.mk (hi); clear HO_5; clear HB; clear HI129; have HO_5 := n0_; have HB := n1_; have HI129 := n2_; clear n0_ n1_ n2_; (try clear hb); (try clear hb2); (try clear hk); (try clear hi); obtain ⟨HGz64, hgz64⟩ := HI129.out; have hcz64_0 := cellS55_0 HGz64; have hcz64_1 := cellS55_1 HGz64; have hfz64_0 := qf HGz64 0; have hfz64_1 := qf HGz64 1; clear HGz64 hgz64))
          go_ret2
          exact ⟨_, zz65, zz58, zz55⟩
     ·replace c13 := Bool.eq_false_iff.mpr c13
      subst c13
      have H1 : (if x130001_1 = true then (some (([] : List (S41)), 2)) else (if x130000_1.toList = ([] : List UInt8) then ((qp.f kj7 x5_1).bind fun t142 => (if t142 = 0 then (some (x5_1, 0)) else (some (([] : List (S41)), 2)))) else (some (([] : List (S41)), 2)))) = some (r1, r2) := by rw [if_neg (show ¬ (false = true) by decide)] at H; exact H
      clear H
      have H := H1
      clear H1
      by_cases c65 : x130001_1 = true
      ·subst c65
       have H1 : (some (([] : List (S41)), 2)) = some (r1, r2) := by rw [if_pos rfl] at H; exact H
       clear H
       have H := H1
       clear H1
       simp only [Option.some.injEq, Prod.mk.injEq] at H
       obtain ⟨rfl, rfl⟩ := H
       obtain ⟨HGz66, hgz66⟩ := HI129.out
       have hcz66_0 := cellS55_0 HGz66
       have hcz66_1 := cellS55_1 HGz66
       have hfz66_0 := qf HGz66 0
       have hfz66_1 := qf HGz66 1
       clear HGz66 hgz66
       go_wp2
       go_ret2
       exact ⟨_, zz65, zz58, zz55⟩
      ·replace c65 := Bool.eq_false_iff.mpr c65
       subst c65
       have H1 : (if x130000_1.toList = ([] : List UInt8) then ((qp.f kj7 x5_1).bind fun t142 => (if t142 = 0 then (some (x5_1, 0)) else (some (([] : List (S41)), 2)))) else (some (([] : List (S41)), 2))) = some (r1, r2) := by rw [if_neg (show ¬ (false = true) by decide)] at H; exact H
       clear H
       have H := H1
       clear H1
       by_cases c67 : x130000_1.toList = ([] : List UInt8)
       ·rw [if_pos c67] at H
        have c67b0 : (x130000_1.toList == ([] : List UInt8)) = true := beq_iff_eq.mpr c67
        have c67b1 : (x130000_1.toList != ([] : List UInt8)) = false := bne_eq_false_iff_eq.mpr c67
        (try (have c67b2 : List.isEmpty (x130000_1.toList) = true := by simpa using c67))
        clear c67
        replace H := Option.bind_eq_some_iff.mp H
        obtain ⟨t142, A680, H⟩ := H
        replace H : (if t142 = 0 then (some (x5_1, 0)) else (some (([] : List (S41)), 2))) = some (r1, r2) := H
        have A68 := qa.mk A680
        clear A680
        by_cases c69 : t142 = 0
        ·rw [if_pos c69] at H
         have c69b0 : (t142 == 0) = true := beq_iff_eq.mpr c69
         have c69b1 : (t142 != 0) = false := bne_eq_false_iff_eq.mpr c69
         clear c69
         simp only [Option.some.injEq, Prod.mk.injEq] at H
         obtain ⟨rfl, rfl⟩ := H
         obtain ⟨HGz70, hgz70⟩ := HI129.out
         have hcz70_0 := cellS55_0 HGz70
         have hcz70_1 := cellS55_1 HGz70
         have hfz70_0 := qf HGz70 0
         have hfz70_1 := qf HGz70 1
         clear HGz70 hgz70
         obtain ⟨Ao71, co71, eo71⟩ := Kd.N_slice HO_5.out
         subst eo71
         go_wp2_with (first | (go_at_call 19; (with_reducible refine (qp.calls kj7 _ _ x5_1 t142 _ ?side1 ?side2 A68.out).mono ?_); (case side1 => exact zz82); (case side2 => exact (Kd.N_reads' HO_5.out).2.1); rintro e w72 ⟨rfl, hb⟩; have n0_ := qa.mk (Kd.N_below zz28 hb); have n1_ := qa.mk (IsS55.below zz89 hb); have n2_ := qa.mk (qm zz55 hb); clear HO_5; clear HI129; clear HB; have HO_5 := n0_; have HI129 := n1_; have HB := n2_; clear n0_ n1_ n2_; (try clear hb); (try clear hb2); (try clear hk); (try clear hi)))
         go_ret2
         exact ⟨_, zz65, zz53, zz55⟩
        ·rw [if_neg c69] at H
         have c69b0 : (t142 == 0) = false := beq_eq_false_iff_ne.mpr c69
         have c69b1 : (t142 != 0) = true := bne_iff_ne.mpr c69
         simp only [Option.some.injEq, Prod.mk.injEq] at H
         obtain ⟨rfl, rfl⟩ := H
         obtain ⟨HGz73, hgz73⟩ := HI129.out
         have hcz73_0 := cellS55_0 HGz73
         have hcz73_1 := cellS55_1 HGz73
         have hfz73_0 := qf HGz73 0
         have hfz73_1 := qf HGz73 1
         clear HGz73 hgz73
         obtain ⟨Ao74, co74, eo74⟩ := Kd.N_slice HO_5.out
         subst eo74
         go_wp2_with (first | (go_at_call 19; (with_reducible refine (qp.calls kj7 _ _ x5_1 t142 _ ?side1 ?side2 A68.out).mono ?_); (case side1 => exact zz82); (case side2 => exact (Kd.N_reads' HO_5.out).2.1); rintro e w75 ⟨rfl, hb⟩; have n0_ := qa.mk (Kd.N_below zz28 hb); have n1_ := qa.mk (IsS55.below zz89 hb); have n2_ := qa.mk (qm zz55 hb); clear HO_5; clear HI129; clear HB; have HO_5 := n0_; have HI129 := n1_; have HB := n2_; clear n0_ n1_ n2_; (try clear hb); (try clear hb2); (try clear hk); (try clear hi)))
         go_ret2
         exact ⟨_, zz65, zz58, zz55⟩
       ·rw [if_neg c67] at H
        have c67b0 : (x130000_1.toList == ([] : List UInt8)) = false := beq_eq_false_iff_ne.mpr c67
        have c67b1 : (x130000_1.toList != ([] : List UInt8)) = true := bne_iff_ne.mpr c67
        (try (have c67b2 : List.isEmpty (x130000_1.toList) = false := by simpa using c67))
        simp only [Option.some.injEq, Prod.mk.injEq] at H
        obtain ⟨rfl, rfl⟩ := H
        obtain ⟨HGz76, hgz76⟩ := HI129.out
        have hcz76_0 := cellS55_0 HGz76
        have hcz76_1 := cellS55_1 HGz76
        have hfz76_0 := qf HGz76 0
        have hfz76_1 := qf HGz76 1
        clear HGz76 hgz76
        go_wp2
        go_ret2
        exact ⟨_, zz65, zz58, zz55⟩
def putL (c : UInt8) : List UInt8 := if formL c.toNat = [] then [c] else formL c.toNat
def escL (l : List UInt8) : List UInt8 := l.flatMap putL
def escape_Escape.f (a0 : ByteArray) : Option ByteArray := if a0.size ≤ 16777216000000 then some ⟨(escL a0.data.toList).toArray⟩ else none
theorem putL_len (c : UInt8) : (putL c).length ≤ 6 ∧ 1 ≤ (putL c).length := by
 have : ∀ c : Fin 256, (putL (UInt8.ofNat c.val)).length ≤ 6 ∧ 1 ≤ (putL (UInt8.ofNat c.val)).length := by decide +kernel
 have h := this ⟨c.toNat, c.toNat_lt⟩
 simpa using h
theorem escL_len (l : List UInt8) : (escL l).length ≤ 6 * l.length := by
 induction l with
 | nil => simp [escL]
 | cons c l ih =>
  have h1 := putL_len c
  simp only [escL, List.flatMap_cons, List.length_append, List.length_cons] at ih ⊢
  omega
theorem escL_take (s : ByteArray) (k : Nat) (h : k < s.size) : escL (s.data.toList.take (k + 1)) = escL (s.data.toList.take k) ++ putL s[k] := by
 rw [List.take_succ_eq_append_getElem (by simpa using h)]
 simp [escL]
 rfl
theorem bt_nat (s : ByteArray) (k : Nat) (h : k < s.size) : bt s (k : Int) = (s[k].toNat : Int) := by
 have := bt_at s (k : Int) (by simpa using h)
 simpa using this.symm
set_option maxHeartbeats 8000000 in
set_option maxRecDepth 100000 in
theorem escape_Escape.calls (a0 : ByteArray) (r : ByteArray) (w : World) (hG : Glob w) (h : escape_Escape.f a0 = some r) :
  Calls Tryd.prog 26 #[.string a0] w fun e w' => e = .returned (.string r) ∧ Below w.heap.size w w' := by
 unfold escape_Escape.f at h
 by_cases hl : a0.size ≤ 16777216000000
 rotate_left
 ·rw [if_neg hl] at h
  cases h
 rw [if_pos hl] at h
 obtain rfl := Option.some.inj h
 have HG := qa.mk hG
 clear hG h
 go_enter Tryd.func26, Tryd.ntmps26
 go_wp2
 go_loopg [8] (a0.size + 1) (fun kq v8 w' => ∃ (j : Nat), v8 = .int .i64 (j : Int) ∧ qa (j ≤ a0.size ∧ kq = a0.size + 1 - j) ∧ qa (Bld w.heap.size (escL (a0.data.toList.take j)) w') ∧ qa (Below w.heap.size w w'))
 case atStart => exact ⟨0, rfl, ⟨Nat.zero_le _, rfl⟩, ⟨by simpa [escL] using Bld.fresh w⟩, ⟨qc (Below.refl _ _) _⟩⟩
 case round =>
  obtain ⟨j, rfl, HJ, HI, HB⟩ := hrel
  obtain ⟨hj, hk⟩ := HJ.out
  clear HJ
  subst hk
  have hsz : w.heap.size ≤ wr.heap.size := HB.out.size
  have hacc := escL_len (a0.data.toList.take j)
  have hta : (a0.data.toList.take j).length ≤ j := List.length_take_le _ _
  by_cases hlt : j < a0.size
  ·have HT := qa.mk (escL_take a0 j hlt)
   have hpl := putL_len a0[j]
   have HP := qa.mk (show putL a0[j] = if formL (a0[j].toNat : Int) = [] then [a0[j]] else formL (a0[j].toNat : Int) from rfl)
   have hb255 : (a0[j].toNat : Int) ≤ 255 := by have := a0[j].toNat_lt; omega
   have HF := qa.mk (show escape_form.f (a0[j].toNat : Int) = some ⟨(formL (a0[j].toNat : Int)).toArray⟩ from if_pos ⟨by omega, hb255⟩)
   clear HT HP
   have HN := qa.mk (escL_take a0 j hlt)
   by_cases hf : formL (a0[j].toNat : Int) = []
   ·have HE := qa.mk hf
    have HN2 := qa.mk (show putL a0[j] = [a0[j]] from if_pos hf)
    clear hf
    go_wp2_with (first | (go_at_call 39; refine (escape_form.calls _ _ _ (Glob.below HG.out HB.out) HF.out).mono ?_; rintro e w2 ⟨rfl, hb⟩; have HB2 := qa.mk (qm HB.out hb); have HI2 := qa.mk (HI.out.below hb); have hs2 := HB2.out.size; clear hb; rw [HE.out]) | (go_at_call 24; refine (Bld.byte w.heap.size _ (a0[j].toNat : Int) _ HI2.out (by omega) hb255 (by omega) hs2).mono ?_; rintro e w3 ⟨rfl, h3, hb3, _⟩; have HB3 := qa.mk (HB2.out.trans hb3); have HI3 := qa.mk h3; clear h3 hb3))
    go_roundg (a0.size + 1 - (j + 1))
    case measure => omega
    case rel =>
     refine ⟨j + 1, by go_num, ⟨by omega, rfl⟩, ⟨?_⟩, HB3⟩
     rw [HN.out, HN2.out]
     simpa using HI3.out
   ·have HE := qa.mk hf
    have HN2 := qa.mk (show putL a0[j] = formL (a0[j].toNat : Int) from if_neg hf)
    have hz : (formL (a0[j].toNat : Int)).length ≤ 6 := by have := hpl.1; rw [HN2.out] at this; exact this
    have c1 : (formL (a0[j].toNat : Int)).isEmpty = false := by simpa using hf
    have HS := qa.mk (show (escL (a0.data.toList.take j)).length + (⟨(formL (a0[j].toNat : Int)).toArray⟩ : ByteArray).size ≤ 140737488355328 from by
     have e : (⟨(formL (a0[j].toNat : Int)).toArray⟩ : ByteArray).size = (formL (a0[j].toNat : Int)).length := by show (formL (a0[j].toNat : Int)).toArray.size = _; rw [List.size_toArray]
     omega)
    clear hf
    go_wp2_with (first | (go_at_call 39; refine (escape_form.calls _ _ _ (Glob.below HG.out HB.out) HF.out).mono ?_; rintro e w2 ⟨rfl, hb⟩; have HB2 := qa.mk (qm HB.out hb); have HI2 := qa.mk (HI.out.below hb); have hs2 := HB2.out.size; clear hb) | (go_at_call 25; refine (Bld.str w.heap.size _ _ _ HI2.out HS.out hs2).mono ?_; rintro e w3 ⟨rfl, h3, hb3, _⟩; have HB3 := qa.mk (HB2.out.trans hb3); have HI3 := qa.mk h3; clear h3 hb3))
    go_roundg (a0.size + 1 - (j + 1))
    case measure => omega
    case rel =>
     refine ⟨j + 1, by go_num, ⟨by omega, rfl⟩, ⟨?_⟩, HB3⟩
     rw [HN.out, HN2.out]
     simpa using HI3.out
  ·have HN := qa.mk (show a0.data.toList.take j = a0.data.toList from List.take_of_length_le (by simp; exact Nat.le_of_not_lt hlt))
   go_wp2_with (go_at_call 27; refine (Bld.out w.heap.size _ _ HI.out hsz).mono ?_; rintro e w2 ⟨rfl, hb⟩; have HB2 := qa.mk (HB.out.trans hb); clear hb)
   go_ret
   exact ⟨by rw [HN.out]; rfl, HB2.out⟩
def condL (c : S33) : List UInt8 := [91] ++ c.f0.data.toList ++ (if c.f2 = true then [61, 34] ++ escL c.f1.data.toList ++ [34] else []) ++ [93]
def headL (first : Bool) (p : S41) : List UInt8 := if p.f0 = true then [62] else if first = true then [] else [32]
def tagL (p : S41) : List UInt8 := (if p.f2.toList = [] then [42] else []) ++ p.f2.data.toList
def keyL (p : S41) : List UInt8 := if p.f1 = true then [35, 34] ++ escL p.f3.data.toList ++ [34] else []
def partL (first : Bool) (p : S41) : List UInt8 := headL first p ++ tagL p ++ keyL p ++ p.f4.flatMap condL
def selL : List S41 → List UInt8
 | [] => []
 | p :: r => partL true p ++ r.flatMap (partL false)
def query_Print.f (l0 : List S41) : Option (ByteArray × Int) :=
 (qp.f 64 l0).bind fun e => if e = 0 then (if (selL l0).length ≤ 1000000000000 then some (⟨(selL l0).toArray⟩, 0) else none) else some ((⟨#[]⟩ : ByteArray), e)
theorem selL_take (l : List S41) (j : Nat) (h : j < l.length) : selL (l.take (j + 1)) = selL (l.take j) ++ partL (decide (j = 0)) l[j] := by
 cases j with
 | zero =>
  cases l with
  | nil => simp at h
  | cons p r => simp [selL]
 | succ j =>
  cases l with
  | nil => simp at h
  | cons p r =>
   have h2 : j < r.length := by simpa using h
   simp only [selL, List.take_succ_cons, List.getElem_cons_succ]
   rw [List.take_succ_eq_append_getElem h2, List.flatMap_append]
   simp
theorem selL_split (l : List S41) (j : Nat) (h : j < l.length) : ∃ z, selL l = selL (l.take (j + 1)) ++ z := by
 cases l with
 | nil => simp at h
 | cons p r => exact ⟨(r.drop j).flatMap (partL false), by simp only [List.take_succ_cons, selL, List.append_assoc]; rw [← List.flatMap_append, List.take_append_drop]⟩
theorem rd48 (l : List S41) (j : Nat) (h : j < l.length) : l[j] = qab l (j : Int) := by
 unfold qab
 rw [Int.toNat_natCast, List.getD_eq_getElem?_getD, List.getElem?_eq_getElem h]
 rfl
theorem rd50 (l : List S33) (j : Nat) (h : j < l.length) : l[j] = rd_T33 l (j : Int) := by
 unfold rd_T33
 rw [Int.toNat_natCast, List.getD_eq_getElem?_getD, List.getElem?_eq_getElem h]
 rfl
def PBox (g : Nat) (p0 p1 : Bool) (p2 p3 : ByteArray) (n : Nat) (A : Option Addr) (c : Nat) (W : World) : Prop := W.heap[g]? = some (.cells #[.bool p0, .bool p1, .string p2, .string p3, .slice A n c] 41 (0, 0))
theorem PBox.others {g B : Nat} {p0 p1 : Bool} {p2 p3 : ByteArray} {n : Nat} {A : Option Addr} {c : Nat} {W W1 : World} (h : PBox g p0 p1 p2 p3 n A c W) (ho : Lib.OthersKept 5 (some B) W W1) (hne : g ≠ B) : PBox g p0 p1 p2 p3 n A c W1 :=
 ho _ _ h (fun e => hne (Option.some.inj e)) (fun _ _ e => by injection e with _ e; cases e)
theorem PBox.below {g : Nat} {p0 p1 : Bool} {p2 p3 : ByteArray} {n : Nat} {A : Option Addr} {c : Nat} {W W1 : World} (h : PBox g p0 p1 p2 p3 n A c W) (hb : Below W.heap.size W W1) : PBox g p0 p1 p2 p3 n A c W1 := (hb.block g (Array.getElem?_eq_some_iff.1 h).1).trans h
theorem PBox.cells {g : Nat} {p0 p1 : Bool} {p2 p3 : ByteArray} {n : Nat} {A : Option Addr} {c : Nat} {W : World} (h : PBox g p0 p1 p2 p3 n A c W) : W.cell? ⟨g, 0, none⟩ = some (.bool p0) ∧ W.cell? ⟨g, 1, none⟩ = some (.bool p1) ∧ W.cell? ⟨g, 2, none⟩ = some (.string p2) ∧ W.cell? ⟨g, 3, none⟩ = some (.string p3) ∧ W.cell? ⟨g, 4, none⟩ = some (.slice A n c) :=
 ⟨(qg h 0).trans rfl, (qg h 1).trans rfl, (qg h 2).trans rfl, (qg h 3).trans rfl, (qg h 4).trans rfl⟩
def CBox (g : Nat) (q0 q1 : ByteArray) (q2 : Bool) (W : World) : Prop := W.heap[g]? = some (.cells #[.string q0, .string q1, .bool q2] 33 (0, 0))
theorem CBox.others {g B : Nat} {q0 q1 : ByteArray} {q2 : Bool} {W W1 : World} (h : CBox g q0 q1 q2 W) (ho : Lib.OthersKept 5 (some B) W W1) (hne : g ≠ B) : CBox g q0 q1 q2 W1 :=
 ho _ _ h (fun e => hne (Option.some.inj e)) (fun _ _ e => by injection e with _ e; cases e)
theorem CBox.below {g : Nat} {q0 q1 : ByteArray} {q2 : Bool} {W W1 : World} (h : CBox g q0 q1 q2 W) (hb : Below W.heap.size W W1) : CBox g q0 q1 q2 W1 := (hb.block g (Array.getElem?_eq_some_iff.1 h).1).trans h
theorem CBox.cells {g : Nat} {q0 q1 : ByteArray} {q2 : Bool} {W : World} (h : CBox g q0 q1 q2 W) : W.cell? ⟨g, 0, none⟩ = some (.string q0) ∧ W.cell? ⟨g, 1, none⟩ = some (.string q1) ∧ W.cell? ⟨g, 2, none⟩ = some (.bool q2) :=
 ⟨(qg h 0).trans rfl, (qg h 1).trans rfl, (qg h 2).trans rfl⟩
theorem CBox.lt {g : Nat} {q0 q1 : ByteArray} {q2 : Bool} {W : World} (h : CBox g q0 q1 q2 W) : g < W.heap.size := (Array.getElem?_eq_some_iff.1 h).1
theorem PBox.lt {g : Nat} {p0 p1 : Bool} {p2 p3 : ByteArray} {n : Nat} {A : Option Addr} {c : Nat} {W : World} (h : PBox g p0 p1 p2 p3 n A c W) : g < W.heap.size := (Array.getElem?_eq_some_iff.1 h).1
theorem cond_take (l : List S33) (i : Nat) (h : i < l.length) : (l.take (i + 1)).flatMap condL = (l.take i).flatMap condL ++ condL (rd_T33 l (i : Int)) := by
 rw [List.take_succ_eq_append_getElem h, List.flatMap_append, ← rd50 l i h]
 simp
theorem cond_le (l : List S33) (i : Nat) (h : i < l.length) : ((l.take i).flatMap condL).length + (condL (rd_T33 l (i : Int))).length ≤ (l.flatMap condL).length := by
 have h1 : l.flatMap condL = (l.take (i + 1)).flatMap condL ++ (l.drop (i + 1)).flatMap condL := by rw [← List.flatMap_append, List.take_append_drop]
 rw [h1, cond_take l i h]
 simp only [List.length_append]
 omega
theorem escL_ge (l : List UInt8) : l.length ≤ (escL l).length := by
 induction l with
 | nil => simp [escL]
 | cons c l ih =>
  have h1 := putL_len c
  simp only [escL, List.flatMap_cons, List.length_append, List.length_cons] at ih ⊢
  omega
theorem cat3_size (a b c : List UInt8) : ((⟨a.toArray⟩ : ByteArray) ++ ⟨b.toArray⟩ ++ ⟨c.toArray⟩).size = a.length + b.length + c.length := by
 rw [ByteArray.size_append, ByteArray.size_append]
 rfl
theorem cat3_list (a b c : List UInt8) : ((⟨a.toArray⟩ : ByteArray) ++ ⟨b.toArray⟩ ++ ⟨c.toArray⟩).data.toList = a ++ b ++ c := by
 rw [ByteArray.data_append, ByteArray.data_append]
 simp
set_option maxHeartbeats 8000000 in
set_option maxRecDepth 100000 in
theorem query_Print.calls (A0 : Option Addr) (c0 : Nat) (l0 : List S41) (r1 : ByteArray) (r2 : Int) (w : World) (hG : Glob w) (hr0 : Kd.C k41 w A0 l0.length l0) (hc0 : l0.length ≤ c0) (h : query_Print.f l0 = some (r1, r2)) :
  Calls Tryd.prog 14 #[.slice A0 l0.length c0] w fun e w' => e = .returned (.tuple #[.string r1, .int .i64 r2]) ∧ Below w.heap.size w w' := by
 obtain ⟨ec, hec, h⟩ := Option.bind_eq_some_iff.1 h
 have HE := qa.mk hec
 have HG := qa.mk hG
 have HR := qa.mk hr0
 have HC := qa.mk hc0
 have hm := hr0.2.1
 clear hG hr0 hc0 hec
 have hu1 := Tryd.underlying41
 have hu2 := Tryd.underlying33
 by_cases he : ec = 0
 rotate_left
 ·rw [if_neg he] at h
  simp only [Option.some.injEq, Prod.mk.injEq] at h
  obtain ⟨rfl, rfl⟩ := h
  have he1 : (ec == 0) = false := by simpa using he
  have he2 : (ec != 0) = true := by simpa using he
  clear he
  go_enter Tryd.func14, Tryd.ntmps14
  go_wp2_with (go_at_call 19; refine (qp.calls 64 _ _ _ _ _ HR.out HC.out HE.out).mono ?_; rintro e w2 ⟨rfl, hb⟩; have HB := qa.mk hb; clear hb)
  go_ret2
  exact ⟨rfl, HB.out⟩
 subst he
 rw [if_pos rfl] at h
 by_cases hlen : (selL l0).length ≤ 1000000000000
 rotate_left
 ·rw [if_neg hlen] at h
  cases h
 rw [if_pos hlen] at h
 simp only [Option.some.injEq, Prod.mk.injEq] at h
 obtain ⟨rfl, rfl⟩ := h
 have HL := qa.mk hlen
 clear hlen
 go_enter Tryd.func14, Tryd.ntmps14
 go_wp2_with (go_at_call 19; refine (qp.calls 64 _ _ _ _ _ HR.out HC.out HE.out).mono ?_; rintro e w2 ⟨rfl, hb⟩; have HB := qa.mk hb; have hs := hb.size; clear hb)
 go_loopg [17] (l0.length + 1) (fun kq v17 w' => ∃ (j : Nat), v17 = .int .i64 (j : Int) ∧ qa (j ≤ l0.length ∧ kq = l0.length + 1 - j) ∧ qa (Bld w2.heap.size (selL (l0.take j)) w') ∧ qa (Below w.heap.size w w') ∧ qa (w2.heap.size ≤ w'.heap.size))
 case atStart => exact ⟨0, rfl, ⟨Nat.zero_le _, rfl⟩, ⟨Bld.fresh w2⟩, ⟨qc HB.out _⟩, ⟨by simp⟩⟩
 case round =>
  obtain ⟨j, rfl, HJ, HI, HB, HS⟩ := hrel
  obtain ⟨hj, hk⟩ := HJ.out
  clear HJ
  subst hk
  have hs2 := HS.out
  by_cases hlt : j < l0.length
  ·obtain ⟨ad, A4, c4, e, hx0, hx1, hx2, hx3, hx4, hl4, hr4⟩ := at_T41 HR.out (j : Int) (by omega) (by omega)
   cases e
   replace hx0 := (HB.out.cell (qic w _ hx0)).trans hx0
   replace hx1 := (HB.out.cell (qic w _ hx1)).trans hx1
   replace hx2 := (HB.out.cell (qic w _ hx2)).trans hx2
   replace hx3 := (HB.out.cell (qic w _ hx3)).trans hx3
   replace hx4 := (HB.out.cell (qic w _ hx4)).trans hx4
   rw [Int.toNat_natCast] at hx0 hx1 hx2 hx3 hx4
   have HT := qa.mk (selL_take l0 j hlt)
   rw [rd48 l0 j hlt] at HT
   have HR4 := qa.mk hr4
   have HL4 := qa.mk hl4
   clear hr4 hl4
   generalize qab l0 (j : Int) = p at *
   have HPL := qa.mk (show (selL (l0.take j)).length + (partL (decide (j = 0)) p).length ≤ 1000000000000 from by
    obtain ⟨z, hz⟩ := selL_split l0 j hlt
    have h := HL.out
    rw [hz, HT.out] at h
    simp only [List.length_append] at h
    omega)
   obtain ⟨p0, p1, p2, p3, p4⟩ := p
   dsimp only at *
   have hl1 : (selL (l0.take j)).length + (headL (decide (j = 0)) ⟨p0, p1, p2, p3, p4⟩).length + (tagL ⟨p0, p1, p2, p3, p4⟩).length + (keyL ⟨p0, p1, p2, p3, p4⟩).length + (p4.flatMap condL).length ≤ 1000000000000 := by
    have := HPL.out
    unfold partL at this
    simp only [List.length_append] at this
    omega
   clear HPL h
   have hne : wr.heap.size ≠ w2.heap.size := by
    rcases HI.out with ⟨_, v, hv, _⟩ | ⟨_, v, hv, _⟩ <;> (have := (Array.getElem?_eq_some_iff.1 hv).1; omega)
   have hgt : w2.heap.size < wr.heap.size := by omega
   go_upto_block 2 with fail
   go_cut [] (fun wc => qa (Bld w2.heap.size (selL (l0.take j) ++ headL (decide (j = 0)) ⟨p0, p1, p2, p3, p4⟩) wc) ∧ qa (PBox wr.heap.size p0 p1 p2 p3 p4.length A4 c4 wc) ∧ qa (Below w.heap.size w wc))
   case first =>
    have hx : (wr.alloc (.cells #[.bool p0, .bool p1, .string p2, .string p3, .slice A4 p4.length c4] 41)).cell? ⟨wr.heap.size, 0, none⟩ = some (.bool p0) := by simp
    have HI2 := qa.mk (HI.out.below (qc (Below.refl _ _) (.cells #[.bool p0, .bool p1, .string p2, .string p3, .slice A4 p4.length c4] 41)))
    have HP2 := qa.mk (show PBox wr.heap.size p0 p1 p2 p3 p4.length A4 c4 (wr.alloc (.cells #[.bool p0, .bool p1, .string p2, .string p3, .slice A4 p4.length c4] 41)) from heap_alloc_new wr _)
    have HB2 := qa.mk (qc HB.out (.cells #[.bool p0, .bool p1, .string p2, .string p3, .slice A4 p4.length c4] 41))
    clear hx0 hx1 hx2 hx3 hx4 HI HB HT
    cases p0
    ·by_cases hj0 : j = 0
     ·have HN := qa.mk (show headL (decide (j = 0)) ⟨false, p1, p2, p3, p4⟩ = [] from by simp [headL, hj0])
      have hj1 : decide (0 < j) = false := by simp [hj0]
      clear hj0
      go_wp2_with fail
      go_meet
      exact ⟨⟨by rw [HN.out, List.append_nil]; exact HI2.out⟩, HP2, HB2⟩
     ·have HN := qa.mk (show headL (decide (j = 0)) ⟨false, p1, p2, p3, p4⟩ = [32] from by simp [headL, hj0])
      have hj1 : decide (0 < j) = true := by simp; omega
      clear hj0
      go_wp2_with (go_at_call 24; go_loud (refine (Bld.byte w2.heap.size _ 32 _ HI2.out (by omega) (by omega) (by omega) (by simp; omega)).mono ?_); rintro e w3 ⟨rfl, h3, hb3, ho3⟩; have HI3 := qa.mk h3; have HP3 := qa.mk (HP2.out.others ho3 (by omega)); have HB3 := qa.mk (HB2.out.trans (hb3.mono hs)); have hs3 := HP3.out; clear h3 hb3 ho3)
      go_meet
      exact ⟨⟨by rw [HN.out]; exact HI3.out⟩, HP3, HB3⟩
    ·have HN := qa.mk (show headL (decide (j = 0)) ⟨true, p1, p2, p3, p4⟩ = [62] from by simp [headL])
     go_wp2_with (go_at_call 24; refine (Bld.byte w2.heap.size _ 62 _ HI2.out (by omega) (by omega) (by omega) (by simp; omega)).mono ?_; rintro e w3 ⟨rfl, h3, hb3, ho3⟩; have HI3 := qa.mk h3; have HP3 := qa.mk (HP2.out.others ho3 (by omega)); have HB3 := qa.mk (HB2.out.trans (hb3.mono hs)); have hs3 := HP3.out; clear h3 hb3 ho3)
     go_meet
     exact ⟨⟨by rw [HN.out]; exact HI3.out⟩, HP3, HB3⟩
   case rest =>
    clear hx0 hx1 hx2 hx3 hx4 HI HB
    obtain ⟨HI, HP, HB⟩ := hcut
    obtain ⟨hy0, hy1, hy2, hy3, hy4⟩ := HP.out.cells
    generalize hacc : selL (l0.take j) ++ headL (decide (j = 0)) ⟨p0, p1, p2, p3, p4⟩ = acc at *
    have hla : acc.length + (tagL ⟨p0, p1, p2, p3, p4⟩).length + (keyL ⟨p0, p1, p2, p3, p4⟩).length + (p4.flatMap condL).length ≤ 1000000000000 := by
     rw [← hacc, List.length_append]
     omega
    have HACC := qa.mk hacc
    clear hl1 hacc
    go_upto_if 32 with fail
    go_cut [] (fun wd => qa (Bld w2.heap.size (acc ++ (if p2.toList = [] then [42] else [])) wd) ∧ qa (PBox wr.heap.size p0 p1 p2 p3 p4.length A4 c4 wd) ∧ qa (Below w.heap.size w wd))
    case first =>
     by_cases ct : p2.toList = []
     ·have ct0 : (p2.toList == ([] : List UInt8)) = true := beq_iff_eq.mpr ct
      have ct1 : p2.toList.isEmpty = true := by rw [ct]; rfl
      have HN := qa.mk (show (if p2.toList = [] then [42] else []) = ([42] : List UInt8) from if_pos ct)
      have HLN := qa.mk (show acc.length + 1 ≤ 140737488355328 from by omega)
      clear ct hla ct0
      rw [ct1]
      clear ct1
      go_wp2_with (go_at_call 24; refine (Bld.byte w2.heap.size _ 42 _ HI.out (by omega) (by omega) HLN.out (Nat.le_of_lt (Nat.lt_trans hgt HP.out.lt))).mono ?_; rintro e w3 ⟨rfl, h3, hb3, ho3⟩; have HI3 := qa.mk h3; have HP3 := qa.mk (HP.out.others ho3 hne); have HB3 := qa.mk (HB.out.trans (hb3.mono hs)); clear h3 hb3 ho3)
      go_meet
      exact ⟨⟨by rw [HN.out]; exact HI3.out⟩, HP3, HB3⟩
     ·have ct0 : (p2.toList == ([] : List UInt8)) = false := beq_eq_false_iff_ne.mpr ct
      have ct1 : p2.toList.isEmpty = false := by cases hq : p2.toList with | nil => exact absurd hq ct | cons a b => rfl
      have HN := qa.mk (show (if p2.toList = [] then [42] else []) = ([] : List UInt8) from if_neg ct)
      clear ct hla ct0
      rw [ct1]
      clear ct1
      go_wp2_with fail
      go_meet
      exact ⟨⟨by rw [HN.out, List.append_nil]; exact HI.out⟩, HP, HB⟩
    case rest =>
     clear hy0 hy1 hy2 hy3 hy4 HI HP HB
     obtain ⟨HI, HP, HB⟩ := hcut
     obtain ⟨hy0, hy1, hy2, hy3, hy4⟩ := HP.out.cells
     generalize hac2 : acc ++ (if p2.toList = [] then [42] else []) = ac2 at *
     have hla2 : ac2.length + p2.size + (keyL ⟨p0, p1, p2, p3, p4⟩).length + (p4.flatMap condL).length ≤ 1000000000000 := by
      rw [← hac2, List.length_append]
      simp only [tagL, List.length_append] at hla
      have hsz : p2.data.toList.length = p2.size := rfl
      omega
     have HACC2 := qa.mk hac2
     clear hla hac2
     have HLN := qa.mk (show ac2.length + p2.size ≤ 140737488355328 from by omega)
     go_upto_if 38 with (go_at_call 25; refine (Bld.str w2.heap.size _ p2 _ HI.out HLN.out (Nat.le_of_lt (Nat.lt_trans hgt HP.out.lt))).mono ?_; rintro e w3 ⟨rfl, h3, hb3, ho3⟩; have HI3 := qa.mk h3; have HP3 := qa.mk (HP.out.others ho3 hne); have HB3 := qa.mk (HB.out.trans (hb3.mono hs)); have hs5 := HB3.out.size; obtain ⟨hz0, hz1, hz2, hz3, hz4⟩ := HP3.out.cells; have hs3 := HP3.out.lt; clear h3 hb3 ho3)
     clear HI HP HB HLN hy0 hy1 hy2 hy3 hy4
     have hla3 : (ac2 ++ p2.data.toList).length + (keyL ⟨p0, p1, p2, p3, p4⟩).length + (p4.flatMap condL).length ≤ 1000000000000 := by
      rw [List.length_append]
      have hsz : p2.data.toList.length = p2.size := rfl
      omega
     generalize hac3 : ac2 ++ p2.data.toList = ac3 at *
     have HACC3 := qa.mk hac3
     clear hla2 hac3
     go_cut [] (fun wd => qa (Bld w2.heap.size (ac3 ++ keyL ⟨p0, p1, p2, p3, p4⟩) wd) ∧ qa (PBox wr.heap.size p0 p1 p2 p3 p4.length A4 c4 wd) ∧ qa (Below w.heap.size w wd))
     case first =>
      cases p1
      ·have HN := qa.mk (show keyL ⟨p0, false, p2, p3, p4⟩ = ([] : List UInt8) from rfl)
       clear hla3
       go_wp2_with fail
       go_meet
       exact ⟨⟨by rw [HN.out, List.append_nil]; exact HI3.out⟩, HP3, HB3⟩
      ·have HN := qa.mk (show keyL ⟨p0, true, p2, p3, p4⟩ = [35, 34] ++ escL p3.data.toList ++ [34] from rfl)
       have hel : ac3.length + (escL p3.data.toList).length + 3 ≤ 1000000000000 := by
        have := HN.out
        rw [this] at hla3
        simp only [List.length_append, List.length_cons, List.length_nil] at hla3
        omega
       have HEL := qa.mk hel
       clear hla3 hel
       have HE2 := qa.mk (show escape_Escape.f p3 = some ⟨(escL p3.data.toList).toArray⟩ from by
        unfold escape_Escape.f
        refine if_pos ?_
        have h1 := escL_ge p3.data.toList
        have h2 := HEL.out
        have hsz : p3.data.toList.length = p3.size := rfl
        omega)
       have hes : (⟨(escL p3.data.toList).toArray⟩ : ByteArray).size = (escL p3.data.toList).length := by simp [ByteArray.size]
       have hel := HEL.out
       have hl3 := HEL.out
       go_wp2_with (first | (go_at_call 26; refine (escape_Escape.calls p3 _ _ (HG.out.below HB3.out) HE2.out).mono ?_; rintro e w4 ⟨rfl, hb4⟩; have HI4 := qa.mk (HI3.out.below hb4); have HP4 := qa.mk (HP3.out.below hb4); have HB4 := qa.mk (HB3.out.trans (hb4.mono hs5)); have hs4 := HP4.out.lt; clear hb4) | (go_at_call 25; go_loud (refine (Bld.str w2.heap.size _ _ _ HI4.out (by have := cat3_size [35, 34] (escL p3.data.toList) [34]; simp only [List.length_cons, List.length_nil] at this; omega) (Nat.le_of_lt (Nat.lt_trans hgt hs4))).mono ?_); rintro e w5 ⟨rfl, h5, hb5, ho5⟩; have HI5 := qa.mk h5; have HP5 := qa.mk (HP4.out.others ho5 hne); have HB5 := qa.mk (HB4.out.trans (hb5.mono hs)); clear h5 hb5 ho5))
       go_meet
       exact ⟨⟨by rw [HN.out]; have := HI5.out; rw [cat3_list] at this; exact this⟩, HP5, HB5⟩
     case rest =>
      clear hz0 hz1 hz2 hz3 hz4 hs3 hs5 HI3 HP3 HB3
      obtain ⟨HI, HP, HB⟩ := hcut
      obtain ⟨hy0, hy1, hy2, hy3, hy4⟩ := HP.out.cells
      have hs3 := HP.out.lt
      have hla4 : (ac3 ++ keyL ⟨p0, p1, p2, p3, p4⟩).length + (p4.flatMap condL).length ≤ 1000000000000 := by
       rw [List.length_append]
       exact hla3
      generalize hac4 : ac3 ++ keyL ⟨p0, p1, p2, p3, p4⟩ = ac4 at *
      have HACC4 := qa.mk hac4
      have HL5 := qa.mk hla4
      clear hla3 hla4 hac4
      have HM4 := qa.mk HR4.out.2.1
      go_wp2_with fail
      go_loopg [48] (p4.length + 1) (fun kq v48 w' => ∃ (i : Nat), v48 = .int .i64 (i : Int) ∧ qa (i ≤ p4.length ∧ kq = p4.length + 1 - i) ∧ qa (Bld w2.heap.size (ac4 ++ (p4.take i).flatMap condL) w') ∧ qa (Below w.heap.size w w') ∧ qa (w2.heap.size < w'.heap.size))
      case atStart => exact ⟨0, rfl, ⟨Nat.zero_le _, rfl⟩, ⟨by simpa using HI.out⟩, HB, ⟨Nat.lt_trans hgt hs3⟩⟩
      case round =>
       clear hy0 hy1 hy2 hy3 hy4 HI HB HP hs3 hgt hne HS hs2
       obtain ⟨i, rfl, HJ2, HI, HB, HS⟩ := hrel
       obtain ⟨hi, hk2⟩ := HJ2.out
       clear HJ2
       subst hk2
       have hm4 := HM4.out
       by_cases hlt2 : i < p4.length
       ·obtain ⟨bd, e, hx0, hx1, hx2⟩ := at_T33 HR4.out (i : Int) (by omega) (by omega)
        cases e
        replace hx0 := (HB.out.cell (qic w _ hx0)).trans hx0
        replace hx1 := (HB.out.cell (qic w _ hx1)).trans hx1
        replace hx2 := (HB.out.cell (qic w _ hx2)).trans hx2
        rw [Int.toNat_natCast] at hx0 hx1 hx2
        have HT2 := qa.mk (cond_take p4 i hlt2)
        have hq := cond_le p4 i hlt2
        generalize rd_T33 p4 (i : Int) = q at *
        obtain ⟨q0, q1, q2⟩ := q
        dsimp only at *
        have hl6 : (ac4 ++ (p4.take i).flatMap condL).length + (condL ⟨q0, q1, q2⟩).length ≤ 1000000000000 := by
         have := HL5.out
         rw [List.length_append]
         omega
        clear hq
        generalize hbc : ac4 ++ (p4.take i).flatMap condL = bc at *
        have HBC := qa.mk hbc
        clear hbc
        have hgt := HS.out
        have hne : wr.heap.size ≠ w2.heap.size := by omega
        have HI2 := qa.mk (HI.out.below (qc (Below.refl _ _) (.cells #[.string q0, .string q1, .bool q2] 33)))
        have HP2 := qa.mk (show CBox wr.heap.size q0 q1 q2 (wr.alloc (.cells #[.string q0, .string q1, .bool q2] 33)) from heap_alloc_new wr _)
        have HB2 := qa.mk (qc HB.out (.cells #[.string q0, .string q1, .bool q2] 33))
        obtain ⟨hy0, hy1, hy2⟩ := HP2.out.cells
        have hgt2 := Nat.lt_trans hgt HP2.out.lt
        have HL6 := qa.mk hl6
        clear hl6
        have HLN := qa.mk (show bc.length + ((⟨#[91]⟩ : ByteArray) ++ q0).size ≤ 140737488355328 from by
         have h := HL6.out
         simp only [condL, List.length_append] at h
         have hsz : q0.data.toList.length = q0.size := rfl
         rw [ByteArray.size_append]
         have h1 : (⟨#[91]⟩ : ByteArray).size = 1 := rfl
         omega)
        have hq0 : q0.size ≤ 1000000000000 := by
         have h := HL6.out
         simp only [condL, List.length_append] at h
         have hsz : q0.data.toList.length = q0.size := rfl
         omega
        clear HI HB HS
        go_upto_if 57 with (go_at_call 25; refine (Bld.str w2.heap.size _ _ _ HI2.out HLN.out (Nat.le_of_lt hgt2)).mono ?_; rintro e w3 ⟨rfl, h3, hb3, ho3⟩; have HI3 := qa.mk h3; have HP3 := qa.mk (HP2.out.others ho3 hne); have HB3 := qa.mk (HB2.out.trans (hb3.mono hs)); have hs5 := HB3.out.size; obtain ⟨hz0, hz1, hz2⟩ := HP3.out.cells; have hs3 := HP3.out.lt; clear h3 hb3 ho3)
        clear hx0 hx1 hx2 hy0 hy1 hy2 hgt2 HP2 HI2 HB2 HLN
        go_cut [] (fun wd => qa (Bld w2.heap.size (bc ++ ((⟨#[91]⟩ : ByteArray) ++ q0).data.toList ++ (if q2 = true then [61, 34] ++ escL q1.data.toList ++ [34] else [])) wd) ∧ qa (w2.heap.size < wd.heap.size) ∧ qa (Below w.heap.size w wd))
        case first =>
         cases q2
         ·go_wp2_with fail
          go_meet
          exact ⟨⟨by simpa using HI3.out⟩, ⟨Nat.lt_trans hgt hs3⟩, HB3⟩
         ·have hel : bc.length + ((⟨#[91]⟩ : ByteArray) ++ q0).data.toList.length + (escL q1.data.toList).length + 3 ≤ 1000000000000 := by
           have := HL6.out
           simp only [condL, if_true, List.length_append, List.length_cons, List.length_nil, ByteArray.data_append, Array.toList_append] at this ⊢
           omega
          have HEL := qa.mk hel
          have HE2 := qa.mk (show escape_Escape.f q1 = some ⟨(escL q1.data.toList).toArray⟩ from by
           unfold escape_Escape.f
           refine if_pos ?_
           have h1 := escL_ge q1.data.toList
           have h2 := HEL.out
           have hsz : q1.data.toList.length = q1.size := rfl
           omega)
          have hes : (⟨(escL q1.data.toList).toArray⟩ : ByteArray).size = (escL q1.data.toList).length := by simp [ByteArray.size]
          have hl3 : (escL q1.data.toList).length ≤ 1000000000000 := by omega
          clear hel
          go_wp2_with (first | (go_at_call 26; refine (escape_Escape.calls q1 _ _ (HG.out.below HB3.out) HE2.out).mono ?_; rintro e w4 ⟨rfl, hb4⟩; have HI4 := qa.mk (HI3.out.below hb4); have HP4 := qa.mk (HP3.out.below hb4); have HB4 := qa.mk (HB3.out.trans (hb4.mono hs5)); have hs4 := HP4.out.lt; clear hb4) | (go_at_call 25; refine (Bld.str w2.heap.size _ _ _ HI4.out (by have := cat3_size [61, 34] (escL q1.data.toList) [34]; have h2 := HEL.out; simp only [List.length_cons, List.length_nil, List.length_append] at this h2 ⊢; omega) (Nat.le_of_lt (Nat.lt_trans hgt hs4))).mono ?_; rintro e w5 ⟨rfl, h5, hb5, ho5⟩; have HI5 := qa.mk h5; have HP5 := qa.mk (HP4.out.others ho5 hne); have HB5 := qa.mk (HB4.out.trans (hb5.mono hs)); clear h5 hb5 ho5))
          go_meet
          exact ⟨⟨by have := HI5.out; rw [cat3_list] at this; exact this⟩, ⟨Nat.lt_trans hgt HP5.out.lt⟩, HB5⟩
        case rest =>
         obtain ⟨HI4, HS4, HB4⟩ := hcut
         have HLX := qa.mk (show (bc ++ ((⟨#[91]⟩ : ByteArray) ++ q0).data.toList ++ (if q2 = true then [61, 34] ++ escL q1.data.toList ++ [34] else [])).length + 1 ≤ 140737488355328 from by
          have := HL6.out
          simp only [condL, List.length_append, List.length_cons, List.length_nil, ByteArray.data_append, Array.toList_append] at this ⊢
          omega)
         have HEX := qa.mk (show bc ++ ((⟨#[91]⟩ : ByteArray) ++ q0).data.toList ++ (if q2 = true then [61, 34] ++ escL q1.data.toList ++ [34] else []) ++ [93] = bc ++ condL ⟨q0, q1, q2⟩ from by
          simp only [condL, ByteArray.data_append, Array.toList_append, List.append_assoc])
         clear HI3 HP3 HB3 hz0 hz1 hz2 hs3 hs5
         go_wp2_with (go_at_call 24; refine (Bld.byte w2.heap.size _ 93 _ HI4.out (by omega) (by omega) HLX.out (Nat.le_of_lt HS4.out)).mono ?_; rintro e w6 ⟨rfl, h6, hb6, ho6⟩; have HI6 := qa.mk h6; have HS6 := qa.mk (qjc HS4.out hb6.size); have HB6 := qa.mk (HB4.out.trans (hb6.mono hs)); clear h6 hb6 ho6)
         go_roundg (p4.length + 1 - (i + 1))
         case measure => omega
         case rel => exact ⟨i + 1, by simp, ⟨by omega, rfl⟩, ⟨by have := HI6.out; rw [show ([(93 : Int).toNat.toUInt8] : List UInt8) = [93] from rfl, HEX.out, ← HBC.out, List.append_assoc, ← HT2.out] at this; exact this⟩, HB6, HS6⟩
       ·have hi2 : i = p4.length := by omega
        subst hi2
        clear hlt2
        have HIX := qa.mk (show Bld w2.heap.size (selL (l0.take (j + 1))) wr from by
         have h1 := HI.out
         rw [List.take_length, ← HACC4.out, ← HACC3.out, ← HACC2.out, ← HACC.out] at h1
         rw [HT.out]
         unfold partL
         unfold tagL
         simpa only [List.append_assoc] using h1)
        have HSZ := qa.mk (Nat.le_of_lt HS.out)
        go_wp2_with fail
        go_roundg (l0.length + 1 - (j + 1))
        case measure => omega
        case rel => exact ⟨j + 1, by simp, ⟨by omega, rfl⟩, HIX, HB, HSZ⟩
  ·have hj2 : j = l0.length := by omega
   subst hj2
   go_wp2_with (go_at_call 27; refine (Bld.out w2.heap.size _ _ HI.out HS.out).mono ?_; rintro e w6 ⟨rfl, hb6⟩; have HB6 := qa.mk (HB.out.trans (hb6.mono hs)); clear hb6)
   go_ret2
   exact ⟨rfl, HB6.out⟩
def qfb.l0 : Nat → List Int → List Int → Int → Int → Option (Bool)
 | 0, _, _, _, _ => none
 | k + 1, x0, x1, x12, x13 => if x13 < x12 then (if 0 ≤ x13 then (if x13 < (x0.length : Int) then (if x13 < (x1.length : Int) then (if (rd x0 x13) = (rd x1 x13) then (qfb.l0 k x0 x1 x12 (wrap64 (x13 + 1))) else (some false)) else (none)) else (none)) else (none)) else (some true)
def qfb.f (k : Nat) (l0 : List Int) (l1 : List Int) : Option (Bool) := if (l0.length : Int) = (l1.length : Int) then (qfb.l0 k l0 l1 (l0.length : Int) 0) else (some false)
theorem qfb.mono_l : ∀ k, (∀ y0 y1 y2 y3, LeO (qfb.l0 k y0 y1 y2 y3) (qfb.l0 (k + 1) y0 y1 y2 y3))
 | 0 => fun _ _ _ _ r h => by simp [qfb.l0] at h
 | k + 1 => by
  have ih0 := qfb.mono_l k
  ·intro y0 y1 y2 y3
   unfold qfb.l0
   repeat' first
   | (with_reducible exact ih0 _ _ _ _)
   | (with_reducible exact LeO.refl _)
   | (with_reducible exact LeO.none _)
   | (with_reducible refine LeO.ite ?_ ?_)
   | (with_reducible refine LeO.bind ?_ (fun _ => ?_))
   | exact ih0 _ _ _ _
   | exact LeO.none _
   | refine LeO.ite ?_ ?_
   | refine LeO.bind ?_ (fun _ => ?_)
theorem qfb.mono : ∀ a0 a1 k, LeO (qfb.f k a0 a1) (qfb.f (k + 1) a0 a1) := by
 intro a0 a1 k
 have ih0 := qfb.mono_l k
 unfold qfb.f
 repeat' first
   | (with_reducible exact ih0 _ _ _ _)
   | (with_reducible exact LeO.refl _)
   | (with_reducible exact LeO.none _)
   | (with_reducible refine LeO.ite ?_ ?_)
   | (with_reducible refine LeO.bind ?_ (fun _ => ?_))
   | exact ih0 _ _ _ _
   | exact LeO.none _
   | refine LeO.ite ?_ ?_
   | refine LeO.bind ?_ (fun _ => ?_)
set_option maxHeartbeats 8000000 in
set_option maxRecDepth 100000 in
theorem qfb.calls (k : Nat) (A0 : Option Addr) (c0 : Nat) (l0 : List Int) (A1 : Option Addr) (c1 : Nat) (l1 : List Int) (r : Bool) (w : World) (hr0 : Kd.C (Kd.int .i64) w A0 l0.length l0) (hc0 : l0.length ≤ c0) (hr1 : Kd.C (Kd.int .i64) w A1 l1.length l1) (hc1 : l1.length ≤ c1) (h : qfb.f k l0 l1 = some r) :
  Calls Tryd.prog 15 #[.slice A0 l0.length c0, .slice A1 l1.length c1] w fun e w' => e = .returned (.bool r) ∧ Drawn0 w w' := by
 have HR0 := qa.mk hr0
 have HC0 := qa.mk hc0
 clear hr0 hc0
 have HR1 := qa.mk hr1
 have HC1 := qa.mk hc1
 clear hr1 hc1
 have H : (if (l0.length : Int) = (l1.length : Int) then (qfb.l0 k l0 l1 (l0.length : Int) 0) else (some false)) = some r := h
 clear h
 by_cases c3 : (l0.length : Int) = (l1.length : Int)
 ·rw [if_pos c3] at H
  have c3b0 : ((l0.length : Int) == (l1.length : Int)) = true := beq_iff_eq.mpr c3
  have c3b1 : ((l0.length : Int) != (l1.length : Int)) = false := bne_eq_false_iff_eq.mpr c3
  have c3b2 : (l0.length == l1.length) = true := by first | simpa using c3 | (simp at c3 ⊢; omega)
  clear c3
  have H' := qa.mk H
  clear H
  go_enter Tryd.func15, Tryd.ntmps15
  go_wp2
  repeat (go_quiet (fail); try go_wp2)
  go_loopg [13] k (fun kq v13 w' => ∃ (x13_1 : Int), v13 = .int .i64 x13_1 ∧ qa (qfb.l0 kq l0 l1 (l0.length : Int) x13_1 = some r) ∧ qa (kq ≤ k) ∧ Drawn0 w w')
  case atStart => exact ⟨(0), zz6, H', ⟨Nat.le_refl _⟩, zz13⟩
  case round =>
   clear H'
   try clear c1
   try clear p2
   try clear c3
   try clear c3b0
   try clear c3b1
   try clear c3b2
   obtain ⟨x13_1, rfl, HA, HK1, ⟨m1, rfl⟩⟩ := hrel
   cases gk with
   | zero => exact absurd HA.out (by simp [qfb.l0])
   | succ k1 =>
    have H := HA.out
    clear HA
    simp only [qfb.l0] at H
    by_cases c4 : x13_1 < (l0.length : Int)
    ·rw [if_pos c4] at H
     have c4b0 : decide (x13_1 < (l0.length : Int)) = true := decide_eq_true c4
     clear c4
     by_cases c5 : 0 ≤ x13_1
     ·rw [if_pos c5] at H
      have c5b0 : decide (0 ≤ x13_1) = true := decide_eq_true c5
      clear c5
      by_cases c6 : x13_1 < (l0.length : Int)
      ·rw [if_pos c6] at H
       have c6b0 : decide (x13_1 < (l0.length : Int)) = true := decide_eq_true c6
       clear c6
       by_cases c7 : x13_1 < (l1.length : Int)
       ·rw [if_pos c7] at H
        have c7b0 : decide (x13_1 < (l1.length : Int)) = true := decide_eq_true c7
        clear c7
        by_cases c8 : (rd l0 x13_1) = (rd l1 x13_1)
        ·rw [if_pos c8] at H
         have c8b0 : ((rd l0 x13_1) == (rd l1 x13_1)) = true := beq_iff_eq.mpr c8
         have c8b1 : ((rd l0 x13_1) != (rd l1 x13_1)) = false := bne_eq_false_iff_eq.mpr c8
         clear c8
         have H' := qa.mk H
         clear H
         have p289 : 0 ≤ (x13_1 : Int) := of_decide_eq_true zz7
         have q289 : x13_1 < (l0.length : Int) := of_decide_eq_true zz7
         obtain ⟨ad289, e289, hx289_0⟩ := Kd.at_int HR0.out x13_1 p289 q289
         cases e289
         replace p289 := eq_true p289
         replace q289 := eq_true q289
         have p290 : 0 ≤ (x13_1 : Int) := of_decide_eq_true zz7
         have q290 : x13_1 < (l1.length : Int) := of_decide_eq_true zz7
         obtain ⟨ad290, e290, hx290_0⟩ := Kd.at_int HR1.out x13_1 p290 q290
         cases e290
         replace p290 := eq_true p290
         replace q290 := eq_true q290
         go_wp2
         repeat (go_quiet (fail); try go_wp2)
         go_roundg k1
         case measure => have := HK1.out; omega
         case rel => exact ⟨(wrap64 (x13_1 + 1)), zz6, H', ⟨zz1⟩, zz13⟩
        ·rw [if_neg c8] at H
         have c8b0 : ((rd l0 x13_1) == (rd l1 x13_1)) = false := beq_eq_false_iff_ne.mpr c8
         have c8b1 : ((rd l0 x13_1) != (rd l1 x13_1)) = true := bne_iff_ne.mpr c8
         obtain rfl := Option.some.inj H
         have p289 : 0 ≤ (x13_1 : Int) := of_decide_eq_true zz7
         have q289 : x13_1 < (l0.length : Int) := of_decide_eq_true zz7
         obtain ⟨ad289, e289, hx289_0⟩ := Kd.at_int HR0.out x13_1 p289 q289
         cases e289
         replace p289 := eq_true p289
         replace q289 := eq_true q289
         have p290 : 0 ≤ (x13_1 : Int) := of_decide_eq_true zz7
         have q290 : x13_1 < (l1.length : Int) := of_decide_eq_true zz7
         obtain ⟨ad290, e290, hx290_0⟩ := Kd.at_int HR1.out x13_1 p290 q290
         cases e290
         replace p290 := eq_true p290
         replace q290 := eq_true q290
         go_wp2
         repeat (go_quiet (fail); try go_wp2)
         go_ret
         exact ⟨zz6, zz13⟩
       ·rw [if_neg c7] at H
        exact absurd H (by simp)
      ·rw [if_neg c6] at H
       exact absurd H (by simp)
     ·rw [if_neg c5] at H
      exact absurd H (by simp)
    ·rw [if_neg c4] at H
     have c4b0 : decide (x13_1 < (l0.length : Int)) = false := decide_eq_false c4
     clear c4
     obtain rfl := Option.some.inj H
     go_wp2
     repeat (go_quiet (fail); try go_wp2)
     go_ret
     exact ⟨zz6, zz13⟩
 ·rw [if_neg c3] at H
  have c3b0 : ((l0.length : Int) == (l1.length : Int)) = false := beq_eq_false_iff_ne.mpr c3
  have c3b1 : ((l0.length : Int) != (l1.length : Int)) = true := bne_iff_ne.mpr c3
  have c3b2 : (l0.length == l1.length) = false := by first | simpa using c3 | (simp at c3 ⊢; omega)
  obtain rfl := Option.some.inj H
  go_enter Tryd.func15, Tryd.ntmps15
  go_wp2
  repeat (go_quiet (fail); try go_wp2)
  go_ret
  exact ⟨zz6, zz13⟩
mutual
def qt.j0 : Nat → List (S41) → List (S46) → Int → Bool → Option (Int)
 | 0, _, _, _, _ => none
 | k + 1, x0, x1, x2, x25 => if x25 = true then (some 0) else ((qtb.f x0 x1).bind fun t293 => (qt.l0 k x0 x1 x2 t293))
def qt.l0 : Nat → List (S41) → List (S46) → Int → List (List Bool) → Option (Int)
 | 0, _, _, _, _ => none
 | k + 1, x0, x1, x2, x7 => if x2 > 0 then (if 0 ≤ x2 then (if x2 < (x7.length : Int) then (if 0 ≤ (wrap64 ((x0.length : Int) - 1)) then (if (wrap64 ((x0.length : Int) - 1)) < ((rd_L12 x7 x2).length : Int) then (if rdOf false (rd_L12 x7 x2) (wrap64 ((x0.length : Int) - 1)) = true then (some x2) else (if 0 ≤ (wrap64 (x2 - 1)) then (if (wrap64 (x2 - 1)) < (x1.length : Int) then (qt.l0 k x0 x1 ((qe x1 (wrap64 (x2 - 1))).f1) x7) else (none)) else (none))) else (none)) else (none)) else (none)) else (none)) else (some 0)
end
def qt.f (k : Nat) (l0 : List (S41)) (l1 : List (S46)) (a2 : Int) : Option (Int) := (qp.f k l0).bind fun t291 => (if t291 = 0 then ((qmb.f k l1).bind fun t292 => (if t292 = 0 then (if a2 < 1 then (qt.j0 k l0 l1 a2 true) else (qt.j0 k l0 l1 a2 (decide (a2 > (l1.length : Int))))) else (qt.j0 k l0 l1 a2 true))) else (qt.j0 k l0 l1 a2 true))
theorem qt.mono_l : ∀ k, (∀ y0 y1 y2 y3, LeO (qt.j0 k y0 y1 y2 y3) (qt.j0 (k + 1) y0 y1 y2 y3)) ∧ (∀ y0 y1 y2 y3, LeO (qt.l0 k y0 y1 y2 y3) (qt.l0 (k + 1) y0 y1 y2 y3))
 | 0 => ⟨fun _ _ _ _ r h => by simp [qt.j0] at h, fun _ _ _ _ r h => by simp [qt.l0] at h⟩
 | k + 1 => by
  obtain ⟨ih0, ih1⟩ := qt.mono_l k
  refine ⟨?_, ?_⟩
  ·intro y0 y1 y2 y3
   unfold qt.j0
   repeat' first
   | (with_reducible exact ih0 _ _ _ _)
   | (with_reducible exact ih1 _ _ _ _)
   | (with_reducible exact qmb.mono _ _)
   | (with_reducible exact qp.mono _ _)
   | (with_reducible exact LeO.refl _)
   | (with_reducible exact LeO.none _)
   | (with_reducible refine LeO.ite ?_ ?_)
   | (with_reducible refine LeO.bind ?_ (fun _ => ?_))
   | exact ih0 _ _ _ _
   | exact ih1 _ _ _ _
   | exact qmb.mono _ _
   | exact qp.mono _ _
   | exact LeO.none _
   | refine LeO.ite ?_ ?_
   | refine LeO.bind ?_ (fun _ => ?_)
  ·intro y0 y1 y2 y3
   unfold qt.l0
   repeat' first
   | (with_reducible exact ih0 _ _ _ _)
   | (with_reducible exact ih1 _ _ _ _)
   | (with_reducible exact qmb.mono _ _)
   | (with_reducible exact qp.mono _ _)
   | (with_reducible exact LeO.refl _)
   | (with_reducible exact LeO.none _)
   | (with_reducible refine LeO.ite ?_ ?_)
   | (with_reducible refine LeO.bind ?_ (fun _ => ?_))
   | exact ih0 _ _ _ _
   | exact ih1 _ _ _ _
   | exact qmb.mono _ _
   | exact qp.mono _ _
   | exact LeO.none _
   | refine LeO.ite ?_ ?_
   | refine LeO.bind ?_ (fun _ => ?_)
theorem qt.mono : ∀ a0 a1 a2 k, LeO (qt.f k a0 a1 a2) (qt.f (k + 1) a0 a1 a2) := by
 intro a0 a1 a2 k
 obtain ⟨ih0, ih1⟩ := qt.mono_l k
 unfold qt.f
 repeat' first
   | (with_reducible exact ih0 _ _ _ _)
   | (with_reducible exact ih1 _ _ _ _)
   | (with_reducible exact qmb.mono _ _)
   | (with_reducible exact qp.mono _ _)
   | (with_reducible exact LeO.refl _)
   | (with_reducible exact LeO.none _)
   | (with_reducible refine LeO.ite ?_ ?_)
   | (with_reducible refine LeO.bind ?_ (fun _ => ?_))
   | exact ih0 _ _ _ _
   | exact ih1 _ _ _ _
   | exact qmb.mono _ _
   | exact qp.mono _ _
   | exact LeO.none _
   | refine LeO.ite ?_ ?_
   | refine LeO.bind ?_ (fun _ => ?_)
set_option maxHeartbeats 8000000 in
set_option maxRecDepth 100000 in
theorem qt.calls (k : Nat) (A0 : Option Addr) (c0 : Nat) (l0 : List (S41)) (A1 : Option Addr) (c1 : Nat) (l1 : List (S46)) (a2 : Int) (r : Int) (w : World) (hr0 : Kd.C k41 w A0 l0.length l0) (hc0 : l0.length ≤ c0) (hr1 : Kd.C k46 w A1 l1.length l1) (hc1 : l1.length ≤ c1) (h : qt.f k l0 l1 a2 = some r) :
  Calls Tryd.prog 16 #[.slice A0 l0.length c0, .slice A1 l1.length c1, .int .i64 a2] w fun e w' => e = .returned (.int .i64 r) ∧ Below w.heap.size w w' := by
 have HR0 := qa.mk hr0
 have HC0 := qa.mk hc0
 clear hr0 hc0
 have HR1 := qa.mk hr1
 have HC1 := qa.mk hc1
 clear hr1 hc1
 have HB := qa.mk (Below.refl w.heap.size w)
 have H : ((qp.f k l0).bind fun t291 => (if t291 = 0 then ((qmb.f k l1).bind fun t292 => (if t292 = 0 then (if a2 < 1 then (qt.j0 k l0 l1 a2 true) else (qt.j0 k l0 l1 a2 (decide (a2 > (l1.length : Int))))) else (qt.j0 k l0 l1 a2 true))) else (qt.j0 k l0 l1 a2 true))) = some r := h
 clear h
 have HC4 := qa.mk H
 clear H
 go_enter Tryd.func16, Tryd.ntmps16
 go_upto_region 1 with (fail)
 go_cut [25] (fun v25 wc => ∃ (kq : Nat) (x25_3 : Bool), v25 = .bool x25_3 ∧ qa (qt.j0 kq l0 l1 a2 x25_3 = some r) ∧ qa (kq ≤ k) ∧ qa (Below w.heap.size w wc))
 case first =>
  have H := HC4.out
  clear HC4
  replace H := Option.bind_eq_some_iff.mp H
  obtain ⟨t291, A50, H⟩ := H
  replace H : (if t291 = 0 then ((qmb.f k l1).bind fun t292 => (if t292 = 0 then (if a2 < 1 then (qt.j0 k l0 l1 a2 true) else (qt.j0 k l0 l1 a2 (decide (a2 > (l1.length : Int))))) else (qt.j0 k l0 l1 a2 true))) else (qt.j0 k l0 l1 a2 true)) = some r := H
  have A5 := qa.mk A50
  clear A50
  by_cases c6 : t291 = 0
  ·rw [if_pos c6] at H
   have c6b0 : (t291 == 0) = true := beq_iff_eq.mpr c6
   have c6b1 : (t291 != 0) = false := bne_eq_false_iff_eq.mpr c6
   clear c6
   (first | rw [c6b0] | (simp only [i64_w, i32_w]; rw [c6b0]) | rw [c6b2] | skip)
   replace H := Option.bind_eq_some_iff.mp H
   obtain ⟨t292, A70, H⟩ := H
   replace H : (if t292 = 0 then (if a2 < 1 then (qt.j0 k l0 l1 a2 true) else (qt.j0 k l0 l1 a2 (decide (a2 > (l1.length : Int))))) else (qt.j0 k l0 l1 a2 true)) = some r := H
   have A7 := qa.mk A70
   clear A70
   by_cases c8 : t292 = 0
   ·rw [if_pos c8] at H
    have c8b0 : (t292 == 0) = true := beq_iff_eq.mpr c8
    have c8b1 : (t292 != 0) = false := bne_eq_false_iff_eq.mpr c8
    clear c8
    by_cases c9 : a2 < 1
    ·rw [if_pos c9] at H
     have c9b0 : decide (a2 < 1) = true := decide_eq_true c9
     clear c9
     have H' := qa.mk H
     clear H
     go_wp2_with (first | ((with_reducible refine qv (f := 19) rfl ?_); refine qob (some 9) rfl rfl Tryd.func19 (by kernel_rfl) rfl #[.slice A0 l0.length c0] rfl zz56 ?_; (with_reducible refine (qp.calls k _ _ l0 t291 _ ?side1 ?side2 A5.out).mono ?_); (case side1 => exact zz83); (case side2 => exact HC0.out); rintro e w10 ⟨rfl, hb⟩; refine ⟨_, rfl, ?_⟩; have n0_ := qa.mk (qm zz24 hb); clear HB; have HB := n0_; clear n0_; (try clear hb); (try clear hb2); (try clear hk); (try clear hi)) | (go_at_call 22; (with_reducible refine (qmb.calls k _ _ l1 t292 _ ?side1 ?side2 A7.out).mono ?_); (case side1 => exact zz84); (case side2 => exact HC1.out); rintro e w11 ⟨rfl, hb⟩; have n0_ := qa.mk (qm zz24 hb); clear HB; have HB := n0_; clear n0_; (try clear hb); (try clear hb2); (try clear hk); (try clear hi)))
     go_meet
     case rel => exact ⟨_, (true), zz6, H', ⟨zz2⟩, ⟨zz24⟩⟩
    ·rw [if_neg c9] at H
     have c9b0 : decide (a2 < 1) = false := decide_eq_false c9
     clear c9
     have H' := qa.mk H
     clear H
     go_wp2_with (first | ((with_reducible refine qv (f := 19) rfl ?_); refine qob (some 9) rfl rfl Tryd.func19 (by kernel_rfl) rfl #[.slice A0 l0.length c0] rfl zz56 ?_; (with_reducible refine (qp.calls k _ _ l0 t291 _ ?side1 ?side2 A5.out).mono ?_); (case side1 => exact zz83); (case side2 => exact HC0.out); rintro e w12 ⟨rfl, hb⟩; refine ⟨_, rfl, ?_⟩; have n0_ := qa.mk (qm zz24 hb); clear HB; have HB := n0_; clear n0_; (try clear hb); (try clear hb2); (try clear hk); (try clear hi)) | (go_at_call 22; (with_reducible refine (qmb.calls k _ _ l1 t292 _ ?side1 ?side2 A7.out).mono ?_); (case side1 => exact zz84); (case side2 => exact HC1.out); rintro e w13 ⟨rfl, hb⟩; have n0_ := qa.mk (qm zz24 hb); clear HB; have HB := n0_; clear n0_; (try clear hb); (try clear hb2); (try clear hk); (try clear hi)))
     go_meet
     case rel => exact ⟨_, (decide (a2 > (l1.length : Int))), zz6, H', ⟨zz2⟩, ⟨zz24⟩⟩
   ·rw [if_neg c8] at H
    have c8b0 : (t292 == 0) = false := beq_eq_false_iff_ne.mpr c8
    have c8b1 : (t292 != 0) = true := bne_iff_ne.mpr c8
    have H' := qa.mk H
    clear H
    go_wp2_with (first | ((with_reducible refine qv (f := 19) rfl ?_); refine qob (some 9) rfl rfl Tryd.func19 (by kernel_rfl) rfl #[.slice A0 l0.length c0] rfl zz56 ?_; (with_reducible refine (qp.calls k _ _ l0 t291 _ ?side1 ?side2 A5.out).mono ?_); (case side1 => exact zz83); (case side2 => exact HC0.out); rintro e w14 ⟨rfl, hb⟩; refine ⟨_, rfl, ?_⟩; have n0_ := qa.mk (qm zz24 hb); clear HB; have HB := n0_; clear n0_; (try clear hb); (try clear hb2); (try clear hk); (try clear hi)) | (go_at_call 22; (with_reducible refine (qmb.calls k _ _ l1 t292 _ ?side1 ?side2 A7.out).mono ?_); (case side1 => exact zz84); (case side2 => exact HC1.out); rintro e w15 ⟨rfl, hb⟩; have n0_ := qa.mk (qm zz24 hb); clear HB; have HB := n0_; clear n0_; (try clear hb); (try clear hb2); (try clear hk); (try clear hi)))
    go_meet
    case rel => exact ⟨_, (true), zz6, H', ⟨zz2⟩, ⟨zz24⟩⟩
  ·rw [if_neg c6] at H
   have c6b0 : (t291 == 0) = false := beq_eq_false_iff_ne.mpr c6
   have c6b1 : (t291 != 0) = true := bne_iff_ne.mpr c6
   (first | rw [c6b0] | (simp only [i64_w, i32_w]; rw [c6b0]) | rw [c6b2] | skip)
   have H' := qa.mk H
   clear H
   go_wp2_with (first | ((with_reducible refine qv (f := 19) rfl ?_); refine qob (some 9) rfl rfl Tryd.func19 (by kernel_rfl) rfl #[.slice A0 l0.length c0] rfl zz56 ?_; (with_reducible refine (qp.calls k _ _ l0 t291 _ ?side1 ?side2 A5.out).mono ?_); (case side1 => exact zz83); (case side2 => exact HC0.out); rintro e w16 ⟨rfl, hb⟩; refine ⟨_, rfl, ?_⟩; have n0_ := qa.mk (qm zz24 hb); clear HB; have HB := n0_; clear n0_; (try clear hb); (try clear hb2); (try clear hk); (try clear hi)))
   go_meet
   case rel => exact ⟨_, (true), zz6, H', ⟨zz2⟩, ⟨zz24⟩⟩
 case rest =>
  clear HC4
  try clear c1
  try clear p2
  try clear c6
  try clear c6b0
  try clear c6b1
  try clear c6b2
  try clear c8
  try clear c8b0
  try clear c8b1
  try clear c9
  try clear c9b0
  try clear c16
  obtain ⟨kq, x25_3, rfl, HA, HJ3, HB⟩ := hcut
  cases kq with
  | zero => exact absurd HA.out (by simp [qt.j0])
  | succ kj3 =>
   have H := HA.out
   clear HA
   simp only [qt.j0] at H
   by_cases c17 : x25_3 = true
   ·subst c17
    have H1 : (some 0) = some r := by rw [if_pos rfl] at H; exact H
    clear H
    have H := H1
    clear H1
    obtain rfl := Option.some.inj H
    go_wp2
    go_ret
    exact ⟨zz65, zz24⟩
   ·replace c17 := Bool.eq_false_iff.mpr c17
    subst c17
    have H1 : ((qtb.f l0 l1).bind fun t293 => (qt.l0 kj3 l0 l1 a2 t293)) = some r := by rw [if_neg (show ¬ (false = true) by decide)] at H; exact H
    clear H
    have H := H1
    clear H1
    replace H := Option.bind_eq_some_iff.mp H
    obtain ⟨t293, A180, H⟩ := H
    replace H : (qt.l0 kj3 l0 l1 a2 t293) = some r := H
    have A18 := qa.mk A180
    clear A180
    have H' := qa.mk H
    clear H
    go_wp2_with (first | ((with_reducible refine qv (f := 23) rfl ?_); refine qob (some 28) rfl rfl Tryd.func23 (by kernel_rfl) rfl #[.slice A0 l0.length c0, .slice A1 l1.length c1] rfl zz56 ?_; (with_reducible refine (qtb.calls _ _ l0 _ _ l1 t293 _ ?side1 ?side2 ?side3 ?side4 A18.out).mono ?_); (case side1 => exact zz83); (case side2 => exact HC0.out); (case side3 => exact zz84); (case side4 => exact HC1.out); rintro e w19 ⟨v294, rfl, ho0, hb⟩; refine ⟨_, rfl, ?_⟩; have n0_ := qa.mk (Kd.S_lower ho0 (ql zz24)); have n1_ := qa.mk (qm zz24 hb); clear HB; have HO295 := n0_; have HB := n1_; clear n0_ n1_; (try clear hb); (try clear hb2); (try clear hk); (try clear hi); (try clear ho0)))
    go_loopg [2] kj3 (fun kq v2 w' => ∃ (x2_2 : Int), v2 = .int .i64 x2_2 ∧ qa (qt.l0 kq l0 l1 x2_2 t293 = some r) ∧ qa (kq ≤ kj3) ∧ qa (Kd.S (Kd.slice 4 Kd.bool) 67 w' w.heap.size (fun _ => True) v294 t293) ∧ qa (Below w.heap.size w w'))
    case atStart => exact ⟨(a2), zz6, H', ⟨Nat.le_refl _⟩, ⟨by (with_reducible repeat (first | apply Kd.S_alloc | apply Kd.S_drewN | apply Kd.S_drew)); exact HO295.out⟩, ⟨zz24⟩⟩
    case round =>
     clear H'
     try clear c1
     try clear c2
     try clear p2
     try clear c6
     try clear c6b0
     try clear c6b1
     try clear c6b2
     try clear c8
     try clear c8b0
     try clear c8b1
     try clear c9
     try clear c9b0
     try clear c16
     try clear c17
     try clear c19
     try clear p2
     obtain ⟨x2_2, rfl, HA, HK2, HO_7, HB⟩ := hrel
     cases gk with
     | zero => exact absurd HA.out (by simp [qt.l0])
     | succ k2 =>
      have H := HA.out
      clear HA
      simp only [qt.l0] at H
      by_cases c20 : x2_2 > 0
      ·rw [if_pos c20] at H
       have c20b0 : decide (0 < x2_2) = true := decide_eq_true c20
       clear c20
       by_cases c21 : 0 ≤ x2_2
       ·rw [if_pos c21] at H
        have c21b0 : decide (0 ≤ x2_2) = true := decide_eq_true c21
        clear c21
        by_cases c22 : x2_2 < (t293.length : Int)
        ·rw [if_pos c22] at H
         have c22b0 : decide (x2_2 < (t293.length : Int)) = true := decide_eq_true c22
         clear c22
         obtain ⟨ji23, hji23⟩ : ∃ j_ : Int, (wrap64 ((l0.length : Int) - 1)) = j_ := ⟨_, rfl⟩
         replace H : (if 0 ≤ (ji23) then (if (ji23) < ((rd_L12 t293 x2_2).length : Int) then (if rdOf false (rd_L12 t293 x2_2) (ji23) = true then (some x2_2) else (if 0 ≤ (wrap64 (x2_2 - 1)) then (if (wrap64 (x2_2 - 1)) < (l1.length : Int) then (qt.l0 k2 l0 l1 ((qe l1 (wrap64 (x2_2 - 1))).f1) t293) else (none)) else (none))) else (none)) else (none)) = some r := by first | (rw [hji23] at H; exact H) | (simp only [hji23] at H ⊢; exact H)
         have hji23w : (IntKind.i64.wrap ((l0.length : Int) - 1)) = ji23 := (i64_w _).trans hji23
         by_cases c24 : 0 ≤ (ji23)
         ·rw [if_pos c24] at H
          have c24b0 : decide (0 ≤ (ji23)) = true := decide_eq_true c24
          clear c24
          by_cases c25 : (ji23) < ((rd_L12 t293 x2_2).length : Int)
          ·rw [if_pos c25] at H
           have c25b0 : decide ((ji23) < ((rd_L12 t293 x2_2).length : Int)) = true := decide_eq_true c25
           clear c25
           obtain ⟨bq26, hbq26⟩ : ∃ b_ : Bool, b_ = (rdOf false (rd_L12 t293 x2_2) (ji23)) := ⟨_, rfl⟩
           replace H : (if bq26 = true then (some x2_2) else (if 0 ≤ (wrap64 (x2_2 - 1)) then (if (wrap64 (x2_2 - 1)) < (l1.length : Int) then (qt.l0 k2 l0 l1 ((qe l1 (wrap64 (x2_2 - 1))).f1) t293) else (none)) else (none))) = some r := by rw [← hbq26] at H; exact H
           have Nbq26 := qa.mk hbq26
           clear hbq26
           (try rw [← Nbq26.out])
           by_cases c27 : bq26 = true
           ·subst c27
            have H1 : (some x2_2) = some r := by rw [if_pos rfl] at H; exact H
            clear H
            have H := H1
            clear H1
            obtain rfl := Option.some.inj H
            obtain ⟨Ao28, co28, eo28⟩ := Kd.S_slice HO_7.out
            subst eo28
            have p296 : 0 ≤ (x2_2 : Int) := of_decide_eq_true zz7
            have q296 : x2_2 < (t293.length : Int) := of_decide_eq_true zz7
            obtain ⟨ad296, A296_0, c296_0, e296, hx296_0, hl296_0, hi296_0⟩ := at_L12 (Kd.S_reads' HO_7.out).2.2 x2_2 p296 q296
            cases e296
            obtain ⟨ce296, hce296, hMe296, hcc296⟩ := Kd.S_get HO_7.out [] x2_2 p296 zz59
            obtain ⟨ve296_0, rfl, ge296_0⟩ := hMe296
            have hv296_0 := hcc296 0 _ rfl
            rw [Nat.add_zero, show ((Kd.slice 4 Kd.bool)).sz = 1 from rfl, Nat.mul_one] at hv296_0
            replace hv296_0 := Option.some.inj (hv296_0.symm.trans hx296_0)
            rw [hv296_0] at ge296_0
            have HL296_0 := qa.mk (show Kd.R Kd.bool 4 _ _ _ _ (rd_L12 t293 x2_2) from ge296_0)
            clear hv296_0 ge296_0
            clear hcc296 hce296
            have HR296_0 := qa.mk hi296_0
            have HC296_0 := qa.mk hl296_0
            clear hi296_0 hl296_0
            replace p296 := eq_true p296
            replace q296 := eq_true q296
            have p297 : 0 ≤ ((ji23) : Int) := of_decide_eq_true zz7
            have q297 : (ji23) < ((rd_L12 t293 x2_2).length : Int) := of_decide_eq_true zz7
            obtain ⟨ad297, e297, hx297_0⟩ := Kd.at_bool zz97 (ji23) p297 q297
            (try rw [← Nbq26.out] at hx297_0)
            cases e297
            replace p297 := eq_true p297
            replace q297 := eq_true q297
            go_wp2
            go_ret
            exact ⟨by first | rfl | (simp [qn, qo] <;> rfl) | (simp only [← hji23]; first | rfl | (simp [qn, qo] <;> rfl)) | (simp [*, qn, qo] <;> rfl) | (congr 2; simp only [bne]; generalize ByteArray.toList _ = z_; cases z_ <;> rfl), zz24⟩
           ·replace c27 := Bool.eq_false_iff.mpr c27
            subst c27
            have H1 : (if 0 ≤ (wrap64 (x2_2 - 1)) then (if (wrap64 (x2_2 - 1)) < (l1.length : Int) then (qt.l0 k2 l0 l1 ((qe l1 (wrap64 (x2_2 - 1))).f1) t293) else (none)) else (none)) = some r := by rw [if_neg (show ¬ (false = true) by decide)] at H; exact H
            clear H
            have H := H1
            clear H1
            obtain ⟨ji29, hji29⟩ : ∃ j_ : Int, (wrap64 (x2_2 - 1)) = j_ := ⟨_, rfl⟩
            replace H : (if 0 ≤ (ji29) then (if (ji29) < (l1.length : Int) then (qt.l0 k2 l0 l1 ((qe l1 (ji29)).f1) t293) else (none)) else (none)) = some r := by first | (rw [hji29] at H; exact H) | (simp only [hji29] at H ⊢; exact H)
            have hji29w : (IntKind.i64.wrap (x2_2 - 1)) = ji29 := (i64_w _).trans hji29
            by_cases c30 : 0 ≤ (ji29)
            ·rw [if_pos c30] at H
             have c30b0 : decide (0 ≤ (ji29)) = true := decide_eq_true c30
             clear c30
             by_cases c31 : (ji29) < (l1.length : Int)
             ·rw [if_pos c31] at H
              have c31b0 : decide ((ji29) < (l1.length : Int)) = true := decide_eq_true c31
              clear c31
              have H' := qa.mk H
              clear H
              obtain ⟨Ao32, co32, eo32⟩ := Kd.S_slice HO_7.out
              subst eo32
              have p296 : 0 ≤ (x2_2 : Int) := of_decide_eq_true zz7
              have q296 : x2_2 < (t293.length : Int) := of_decide_eq_true zz7
              obtain ⟨ad296, A296_0, c296_0, e296, hx296_0, hl296_0, hi296_0⟩ := at_L12 (Kd.S_reads' HO_7.out).2.2 x2_2 p296 q296
              cases e296
              obtain ⟨ce296, hce296, hMe296, hcc296⟩ := Kd.S_get HO_7.out [] x2_2 p296 zz59
              obtain ⟨ve296_0, rfl, ge296_0⟩ := hMe296
              have hv296_0 := hcc296 0 _ rfl
              rw [Nat.add_zero, show ((Kd.slice 4 Kd.bool)).sz = 1 from rfl, Nat.mul_one] at hv296_0
              replace hv296_0 := Option.some.inj (hv296_0.symm.trans hx296_0)
              rw [hv296_0] at ge296_0
              have HL296_0 := qa.mk (show Kd.R Kd.bool 4 _ _ _ _ (rd_L12 t293 x2_2) from ge296_0)
              clear hv296_0 ge296_0
              clear hcc296 hce296
              have HR296_0 := qa.mk hi296_0
              have HC296_0 := qa.mk hl296_0
              clear hi296_0 hl296_0
              replace p296 := eq_true p296
              replace q296 := eq_true q296
              have p297 : 0 ≤ ((ji23) : Int) := of_decide_eq_true zz7
              have q297 : (ji23) < ((rd_L12 t293 x2_2).length : Int) := of_decide_eq_true zz7
              obtain ⟨ad297, e297, hx297_0⟩ := Kd.at_bool zz97 (ji23) p297 q297
              (try rw [← Nbq26.out] at hx297_0)
              cases e297
              replace p297 := eq_true p297
              replace q297 := eq_true q297
              have p298 : 0 ≤ ((ji29) : Int) := of_decide_eq_true zz7
              have q298 : (ji29) < (l1.length : Int) := of_decide_eq_true zz7
              obtain ⟨ad298, A298_5, c298_5, e298, hx298_0, hx298_1, hx298_2, hx298_3, hx298_4, hx298_5, hl298_5, hi298_5⟩ := at_T46 HR1.out (ji29) p298 q298
              cases e298
              replace hx298_0 := (HB.out.cell (qic w _ hx298_0)).trans hx298_0
              replace hx298_1 := (HB.out.cell (qic w _ hx298_1)).trans hx298_1
              replace hx298_2 := (HB.out.cell (qic w _ hx298_2)).trans hx298_2
              replace hx298_3 := (HB.out.cell (qic w _ hx298_3)).trans hx298_3
              replace hx298_4 := (HB.out.cell (qic w _ hx298_4)).trans hx298_4
              replace hx298_5 := (HB.out.cell (qic w _ hx298_5)).trans hx298_5
              have HR298_5 := qa.mk hi298_5
              have HC298_5 := qa.mk hl298_5
              clear hi298_5 hl298_5
              replace p298 := eq_true p298
              replace q298 := eq_true q298
              go_wp2
              go_roundg k2
              case measure => have := HJ3.out; have := HK2.out; omega
              case rel => (try rw [← Nbq26.out]); exact ⟨((qe l1 (ji29)).f1), (by first | rfl | (simp; done) | (simp only [← hji29] <;> (first | rfl | simp)) | (simp [*]; done)), H', ⟨by have := HJ3.out; have := HK2.out; omega⟩, ⟨by (with_reducible repeat (first | apply Kd.S_alloc | apply Kd.S_drewN | apply Kd.S_drew)); exact HO_7.out⟩, ⟨zz24⟩⟩
             ·rw [if_neg c31] at H
              exact absurd H (by simp)
            ·rw [if_neg c30] at H
             exact absurd H (by simp)
          ·rw [if_neg c25] at H
           exact absurd H (by simp)
         ·rw [if_neg c24] at H
          exact absurd H (by simp)
        ·rw [if_neg c22] at H
         exact absurd H (by simp)
       ·rw [if_neg c21] at H
        exact absurd H (by simp)
      ·rw [if_neg c20] at H
       have c20b0 : decide (0 < x2_2) = false := decide_eq_false c20
       clear c20
       obtain rfl := Option.some.inj H
       go_wp2
       go_ret
       exact ⟨zz65, zz24⟩
def qcc.f (k : Nat)  : Option (Bool) := (qcb.f k (⟨#[117, 108, 62, 108, 105, 91, 97, 61, 34, 49, 34, 93, 32, 98]⟩ : ByteArray)).bind fun bt299 => ((some (([(⟨0, 0, (⟨#[117, 108]⟩ : ByteArray), (⟨#[]⟩ : ByteArray), (⟨#[]⟩ : ByteArray), ([] : List (S48))⟩ : S46), (⟨0, 1, (⟨#[108, 105]⟩ : ByteArray), (⟨#[]⟩ : ByteArray), (⟨#[]⟩ : ByteArray), (([(⟨(⟨#[97]⟩ : ByteArray), (⟨#[49]⟩ : ByteArray)⟩ : S48)] : List (S48)))⟩ : S46), (⟨0, 2, (⟨#[112]⟩ : ByteArray), (⟨#[]⟩ : ByteArray), (⟨#[]⟩ : ByteArray), ([] : List (S48))⟩ : S46), (⟨0, 3, (⟨#[98]⟩ : ByteArray), (⟨#[]⟩ : ByteArray), (⟨#[]⟩ : ByteArray), ([] : List (S48))⟩ : S46), (⟨0, 1, (⟨#[98]⟩ : ByteArray), (⟨#[]⟩ : ByteArray), (⟨#[]⟩ : ByteArray), ([] : List (S48))⟩ : S46)] : List (S46)) : List (S46))).bind fun y306 => ((query_Print.f bt299.1).bind fun bt309 => (if bt299.2 = 0 then (if bt309.2 = 0 then (if bt309.1.toList = ([117, 108, 62, 108, 105, 91, 97, 61, 34, 49, 34, 93, 32, 98] : List UInt8) then ((qu.f k bt299.1 y306).bind fun t311 => ((qfb.f k t311 (([4] : List Int))).bind fun t317 => (if t317 = true then (if 2 ≤ (bt299.1.length : Int) then ((qt.f k (bt299.1.take 2) y306 4).bind fun t323 => (some (t323 == 2))) else (none)) else (some false)))) else (some false)) else (some false)) else (some false))))
theorem qcc.mono : ∀ k, LeO (qcc.f k ) (qcc.f (k + 1) ) := by
 intro  k
 unfold qcc.f
 repeat' first
   | (with_reducible exact qu.mono _ _ _)
   | (with_reducible exact qt.mono _ _ _ _)
   | (with_reducible exact qcb.mono _ _)
   | (with_reducible exact qfb.mono _ _ _)
   | (with_reducible exact LeO.refl _)
   | (with_reducible exact LeO.none _)
   | (with_reducible refine LeO.ite ?_ ?_)
   | (with_reducible refine LeO.bind ?_ (fun _ => ?_))
   | exact qu.mono _ _ _
   | exact qt.mono _ _ _ _
   | exact qcb.mono _ _
   | exact qfb.mono _ _ _
   | exact LeO.none _
   | refine LeO.ite ?_ ?_
   | refine LeO.bind ?_ (fun _ => ?_)
set_option maxHeartbeats 8000000 in
set_option maxRecDepth 100000 in
theorem qcc.calls (k : Nat)  (r : Bool) (w : World) (hG : Glob w) (h : qcc.f k  = some r) :
  Calls Tryd.prog 5 #[] w fun e w' => e = .returned (.bool r) ∧ Below w.heap.size w w' := by
 have hu46 := Tryd.underlying46
 have hu48 := Tryd.underlying48
 have HG := qa.mk hG
 clear hG
 have HB := qa.mk (Below.refl w.heap.size w)
 have H : ((qcb.f k (⟨#[117, 108, 62, 108, 105, 91, 97, 61, 34, 49, 34, 93, 32, 98]⟩ : ByteArray)).bind fun bt299 => ((some (([(⟨0, 0, (⟨#[117, 108]⟩ : ByteArray), (⟨#[]⟩ : ByteArray), (⟨#[]⟩ : ByteArray), ([] : List (S48))⟩ : S46), (⟨0, 1, (⟨#[108, 105]⟩ : ByteArray), (⟨#[]⟩ : ByteArray), (⟨#[]⟩ : ByteArray), (([(⟨(⟨#[97]⟩ : ByteArray), (⟨#[49]⟩ : ByteArray)⟩ : S48)] : List (S48)))⟩ : S46), (⟨0, 2, (⟨#[112]⟩ : ByteArray), (⟨#[]⟩ : ByteArray), (⟨#[]⟩ : ByteArray), ([] : List (S48))⟩ : S46), (⟨0, 3, (⟨#[98]⟩ : ByteArray), (⟨#[]⟩ : ByteArray), (⟨#[]⟩ : ByteArray), ([] : List (S48))⟩ : S46), (⟨0, 1, (⟨#[98]⟩ : ByteArray), (⟨#[]⟩ : ByteArray), (⟨#[]⟩ : ByteArray), ([] : List (S48))⟩ : S46)] : List (S46)) : List (S46))).bind fun y306 => ((query_Print.f bt299.1).bind fun bt309 => (if bt299.2 = 0 then (if bt309.2 = 0 then (if bt309.1.toList = ([117, 108, 62, 108, 105, 91, 97, 61, 34, 49, 34, 93, 32, 98] : List UInt8) then ((qu.f k bt299.1 y306).bind fun t311 => ((qfb.f k t311 (([4] : List Int))).bind fun t317 => (if t317 = true then (if 2 ≤ (bt299.1.length : Int) then ((qt.f k (bt299.1.take 2) y306 4).bind fun t323 => (some (t323 == 2))) else (none)) else (some false)))) else (some false)) else (some false)) else (some false))))) = some r := h
 clear h
 replace H := Option.bind_eq_some_iff.mp H
 obtain ⟨⟨t299, t302⟩, A10, H⟩ := H
 replace H : ((some (([(⟨0, 0, (⟨#[117, 108]⟩ : ByteArray), (⟨#[]⟩ : ByteArray), (⟨#[]⟩ : ByteArray), ([] : List (S48))⟩ : S46), (⟨0, 1, (⟨#[108, 105]⟩ : ByteArray), (⟨#[]⟩ : ByteArray), (⟨#[]⟩ : ByteArray), (([(⟨(⟨#[97]⟩ : ByteArray), (⟨#[49]⟩ : ByteArray)⟩ : S48)] : List (S48)))⟩ : S46), (⟨0, 2, (⟨#[112]⟩ : ByteArray), (⟨#[]⟩ : ByteArray), (⟨#[]⟩ : ByteArray), ([] : List (S48))⟩ : S46), (⟨0, 3, (⟨#[98]⟩ : ByteArray), (⟨#[]⟩ : ByteArray), (⟨#[]⟩ : ByteArray), ([] : List (S48))⟩ : S46), (⟨0, 1, (⟨#[98]⟩ : ByteArray), (⟨#[]⟩ : ByteArray), (⟨#[]⟩ : ByteArray), ([] : List (S48))⟩ : S46)] : List (S46)) : List (S46))).bind fun y306 => ((query_Print.f t299).bind fun bt309 => (if t302 = 0 then (if bt309.2 = 0 then (if bt309.1.toList = ([117, 108, 62, 108, 105, 91, 97, 61, 34, 49, 34, 93, 32, 98] : List UInt8) then ((qu.f k t299 y306).bind fun t311 => ((qfb.f k t311 (([4] : List Int))).bind fun t317 => (if t317 = true then (if 2 ≤ (t299.length : Int) then ((qt.f k (t299.take 2) y306 4).bind fun t323 => (some (t323 == 2))) else (none)) else (some false)))) else (some false)) else (some false)) else (some false)))) = some r := H
 have A1 := qa.mk A10
 clear A10
 obtain ⟨y303, hy303⟩ : ∃ y_ : List (S48), y_ = (([(⟨(⟨#[97]⟩ : ByteArray), (⟨#[49]⟩ : ByteArray)⟩ : S48)] : List (S48))) := ⟨_, rfl⟩
 replace H : ((some (([(⟨0, 0, (⟨#[117, 108]⟩ : ByteArray), (⟨#[]⟩ : ByteArray), (⟨#[]⟩ : ByteArray), ([] : List (S48))⟩ : S46), (⟨0, 1, (⟨#[108, 105]⟩ : ByteArray), (⟨#[]⟩ : ByteArray), (⟨#[]⟩ : ByteArray), y303⟩ : S46), (⟨0, 2, (⟨#[112]⟩ : ByteArray), (⟨#[]⟩ : ByteArray), (⟨#[]⟩ : ByteArray), ([] : List (S48))⟩ : S46), (⟨0, 3, (⟨#[98]⟩ : ByteArray), (⟨#[]⟩ : ByteArray), (⟨#[]⟩ : ByteArray), ([] : List (S48))⟩ : S46), (⟨0, 1, (⟨#[98]⟩ : ByteArray), (⟨#[]⟩ : ByteArray), (⟨#[]⟩ : ByteArray), ([] : List (S48))⟩ : S46)] : List (S46)) : List (S46))).bind fun y306 => ((query_Print.f t299).bind fun bt309 => (if t302 = 0 then (if bt309.2 = 0 then (if bt309.1.toList = ([117, 108, 62, 108, 105, 91, 97, 61, 34, 49, 34, 93, 32, 98] : List UInt8) then ((qu.f k t299 y306).bind fun t311 => ((qfb.f k t311 (([4] : List Int))).bind fun t317 => (if t317 = true then (if 2 ≤ (t299.length : Int) then ((qt.f k (t299.take 2) y306 4).bind fun t323 => (some (t323 == 2))) else (none)) else (some false)))) else (some false)) else (some false)) else (some false)))) = some r := by first | (rw [hy303]; with_reducible exact H) | (have H2_ := (Option.bind_some _ _).symm.trans H; rw [hy303]; with_reducible exact H2_) | (have H2_ := (Option.bind_some _ _).symm.trans H; with_reducible exact H2_) | with_reducible exact H | (rw [hy303]; exact H) | exact H
 have Ny303 := qa.mk hy303
 clear hy303
 obtain ⟨y306, hy306⟩ : ∃ y_ : List (S46), y_ = (([(⟨0, 0, (⟨#[117, 108]⟩ : ByteArray), (⟨#[]⟩ : ByteArray), (⟨#[]⟩ : ByteArray), ([] : List (S48))⟩ : S46), (⟨0, 1, (⟨#[108, 105]⟩ : ByteArray), (⟨#[]⟩ : ByteArray), (⟨#[]⟩ : ByteArray), y303⟩ : S46), (⟨0, 2, (⟨#[112]⟩ : ByteArray), (⟨#[]⟩ : ByteArray), (⟨#[]⟩ : ByteArray), ([] : List (S48))⟩ : S46), (⟨0, 3, (⟨#[98]⟩ : ByteArray), (⟨#[]⟩ : ByteArray), (⟨#[]⟩ : ByteArray), ([] : List (S48))⟩ : S46), (⟨0, 1, (⟨#[98]⟩ : ByteArray), (⟨#[]⟩ : ByteArray), (⟨#[]⟩ : ByteArray), ([] : List (S48))⟩ : S46)] : List (S46))) := ⟨_, rfl⟩
 replace H : ((query_Print.f t299).bind fun bt309 => (if t302 = 0 then (if bt309.2 = 0 then (if bt309.1.toList = ([117, 108, 62, 108, 105, 91, 97, 61, 34, 49, 34, 93, 32, 98] : List UInt8) then ((qu.f k t299 y306).bind fun t311 => ((qfb.f k t311 (([4] : List Int))).bind fun t317 => (if t317 = true then (if 2 ≤ (t299.length : Int) then ((qt.f k (t299.take 2) y306 4).bind fun t323 => (some (t323 == 2))) else (none)) else (some false)))) else (some false)) else (some false)) else (some false))) = some r := by first | (rw [hy306]; with_reducible exact H) | (have H2_ := (Option.bind_some _ _).symm.trans H; rw [hy306]; with_reducible exact H2_) | (have H2_ := (Option.bind_some _ _).symm.trans H; with_reducible exact H2_) | with_reducible exact H | (rw [hy306]; exact H) | exact H
 have Ny306 := qa.mk hy306
 clear hy306
 replace H := Option.bind_eq_some_iff.mp H
 obtain ⟨⟨t309, t310⟩, A20, H⟩ := H
 replace H : (if t302 = 0 then (if t310 = 0 then (if t309.toList = ([117, 108, 62, 108, 105, 91, 97, 61, 34, 49, 34, 93, 32, 98] : List UInt8) then ((qu.f k t299 y306).bind fun t311 => ((qfb.f k t311 (([4] : List Int))).bind fun t317 => (if t317 = true then (if 2 ≤ (t299.length : Int) then ((qt.f k (t299.take 2) y306 4).bind fun t323 => (some (t323 == 2))) else (none)) else (some false)))) else (some false)) else (some false)) else (some false)) = some r := H
 have A2 := qa.mk A20
 clear A20
 by_cases c3 : t302 = 0
 ·rw [if_pos c3] at H
  have c3b0 : (t302 == 0) = true := beq_iff_eq.mpr c3
  have c3b1 : (t302 != 0) = false := bne_eq_false_iff_eq.mpr c3
  clear c3
  by_cases c4 : t310 = 0
  ·rw [if_pos c4] at H
   have c4b0 : (t310 == 0) = true := beq_iff_eq.mpr c4
   have c4b1 : (t310 != 0) = false := bne_eq_false_iff_eq.mpr c4
   clear c4
   by_cases c5 : t309.toList = ([117, 108, 62, 108, 105, 91, 97, 61, 34, 49, 34, 93, 32, 98] : List UInt8)
   ·rw [if_pos c5] at H
    have c5b0 : (t309.toList == ([117, 108, 62, 108, 105, 91, 97, 61, 34, 49, 34, 93, 32, 98] : List UInt8)) = true := beq_iff_eq.mpr c5
    have c5b1 : (t309.toList != ([117, 108, 62, 108, 105, 91, 97, 61, 34, 49, 34, 93, 32, 98] : List UInt8)) = false := bne_eq_false_iff_eq.mpr c5
    clear c5
    replace H := Option.bind_eq_some_iff.mp H
    obtain ⟨t311, A60, H⟩ := H
    replace H : ((qfb.f k t311 (([4] : List Int))).bind fun t317 => (if t317 = true then (if 2 ≤ (t299.length : Int) then ((qt.f k (t299.take 2) y306 4).bind fun t323 => (some (t323 == 2))) else (none)) else (some false))) = some r := H
    have A6 := qa.mk A60
    clear A60
    obtain ⟨y314, hy314⟩ : ∃ y_ : List Int, y_ = (([4] : List Int)) := ⟨_, rfl⟩
    replace H : ((qfb.f k t311 y314).bind fun t317 => (if t317 = true then (if 2 ≤ (t299.length : Int) then ((qt.f k (t299.take 2) y306 4).bind fun t323 => (some (t323 == 2))) else (none)) else (some false))) = some r := by first | (rw [hy314]; with_reducible exact H) | (have H2_ := (Option.bind_some _ _).symm.trans H; rw [hy314]; with_reducible exact H2_) | (have H2_ := (Option.bind_some _ _).symm.trans H; with_reducible exact H2_) | with_reducible exact H | (rw [hy314]; exact H) | exact H
    have Ny314 := qa.mk hy314
    clear hy314
    replace H := Option.bind_eq_some_iff.mp H
    obtain ⟨t317, A70, H⟩ := H
    replace H : (if t317 = true then (if 2 ≤ (t299.length : Int) then ((qt.f k (t299.take 2) y306 4).bind fun t323 => (some (t323 == 2))) else (none)) else (some false)) = some r := H
    have A7 := qa.mk A70
    clear A70
    by_cases c8 : t317 = true
    ·subst c8
     have H1 : (if 2 ≤ (t299.length : Int) then ((qt.f k (t299.take 2) y306 4).bind fun t323 => (some (t323 == 2))) else (none)) = some r := by rw [if_pos rfl] at H; exact H
     clear H
     have H := H1
     clear H1
     by_cases c9 : 2 ≤ (t299.length : Int)
     ·rw [if_pos c9] at H
      have c9b0 := eq_true c9
      have c9b1 : decide (2 ≤ (t299.length : Int)) = true := decide_eq_true c9
      clear c9
      obtain ⟨y318, hy318⟩ : ∃ y_ : List (S41), y_ = (t299.take 2) := ⟨_, rfl⟩
      replace H : ((qt.f k y318 y306 4).bind fun t323 => (some (t323 == 2))) = some r := by first | (rw [hy318]; with_reducible exact H) | (have H2_ := (Option.bind_some _ _).symm.trans H; rw [hy318]; with_reducible exact H2_) | (have H2_ := (Option.bind_some _ _).symm.trans H; with_reducible exact H2_) | with_reducible exact H | (rw [hy318]; exact H) | exact H
      have Ny318 := qa.mk hy318
      clear hy318
      replace H := Option.bind_eq_some_iff.mp H
      obtain ⟨t323, A100, H⟩ := H
      replace H : (some (t323 == 2)) = some r := H
      have A10 := qa.mk A100
      clear A100
      obtain rfl := Option.some.inj H
      go_enter Tryd.func5, Tryd.ntmps5
      go_wp2_with (first | ((with_reducible refine qv (f := 6) rfl ?_); refine qob (some 7) rfl rfl Tryd.func6 (by kernel_rfl) rfl #[.string (⟨#[117, 108, 62, 108, 105, 91, 97, 61, 34, 49, 34, 93, 32, 98]⟩ : ByteArray)] rfl zz56 ?_; (with_reducible refine (qcb.calls k (⟨#[117, 108, 62, 108, 105, 91, 97, 61, 34, 49, 34, 93, 32, 98]⟩ : ByteArray) t299 t302 _ ?side1 A1.out).mono ?_); (case side1 => exact zz52); rintro e w11 ⟨v300, rfl, ho0, hb⟩; refine ⟨_, rfl, ?_⟩; have n0_ := qa.mk (Kd.N_lower (Kd.N_mono (ok' := fun k_ => True) ho0 (fun k_ hk_ => trivial)) (ql zz24)); have n1_ := qa.mk (qm zz24 hb); clear HB; have HO301 := n0_; have HB := n1_; clear n0_ n1_; (try clear hb); (try clear hb2); (try clear hk); (try clear hi); (try clear ho0)) | ((with_reducible refine qeb (N := 12) rfl ?_); (try (refine gate_guard (by rfl) ?_; dsimp only)); refine Kd.R_lit k48 _ 48 ?hg (N := 12) ?hd (xs := ([(⟨(⟨#[97]⟩ : ByteArray), (⟨#[49]⟩ : ByteArray)⟩ : S48)] : List (S48))) (inner := [.string (⟨#[97]⟩ : ByteArray), .string (⟨#[49]⟩ : ByteArray)]) (ok := fun _ => True) (okp := fun _ => True) ?hr ?hp (fun _ hk => hk) trivial (Below.refl _ _) (Nat.le_refl _) (by simp) ?_; (case hd => rfl); (case hg => rfl); (case hr => exact zz5); (case hp => exact zz106); intro v304 w12 ho13 hb hg_ hnew_; clear hg_ hnew_; (first | rw [← Ny303.out] at ho13 | (simp only [Int.reduceToNat] at ho13; rw [← Ny303.out] at ho13)); have n0_ := qa.mk (Kd.N_elder' zz31 (Kd.R_base ho13) hb); have n1_ := qa.mk (Kd.R_lower ho13 (ql zz24)); have n2_ := qa.mk (qm zz24 hb); clear HO301; clear HB; have HO301 := n0_; have HO305 := n1_; have HB := n2_; clear n0_ n1_ n2_; clear hb ho13; obtain ⟨Ao14, co14, eo14⟩ := Kd.R_slice HO305.out; subst eo14) | ((with_reducible refine qeb (N := 17) rfl ?_); (try (refine gate_guard (by rfl) ?_; dsimp only)); refine Kd.N_lit k46 _ 46 ?hg (N' := 17) ?hd (xs := ([(⟨0, 0, (⟨#[117, 108]⟩ : ByteArray), (⟨#[]⟩ : ByteArray), (⟨#[]⟩ : ByteArray), ([] : List (S48))⟩ : S46), (⟨0, 1, (⟨#[108, 105]⟩ : ByteArray), (⟨#[]⟩ : ByteArray), (⟨#[]⟩ : ByteArray), y303⟩ : S46), (⟨0, 2, (⟨#[112]⟩ : ByteArray), (⟨#[]⟩ : ByteArray), (⟨#[]⟩ : ByteArray), ([] : List (S48))⟩ : S46), (⟨0, 3, (⟨#[98]⟩ : ByteArray), (⟨#[]⟩ : ByteArray), (⟨#[]⟩ : ByteArray), ([] : List (S48))⟩ : S46), (⟨0, 1, (⟨#[98]⟩ : ByteArray), (⟨#[]⟩ : ByteArray), (⟨#[]⟩ : ByteArray), ([] : List (S48))⟩ : S46)] : List (S46))) (inner := [.int .i64 0, .int .i64 0, .string (⟨#[117, 108]⟩ : ByteArray), .string (⟨#[]⟩ : ByteArray), .string (⟨#[]⟩ : ByteArray), .slice none 0 0, .int .i64 0, .int .i64 1, .string (⟨#[108, 105]⟩ : ByteArray), .string (⟨#[]⟩ : ByteArray), .string (⟨#[]⟩ : ByteArray), .slice Ao14 y303.length co14, .int .i64 0, .int .i64 2, .string (⟨#[112]⟩ : ByteArray), .string (⟨#[]⟩ : ByteArray), .string (⟨#[]⟩ : ByteArray), .slice none 0 0, .int .i64 0, .int .i64 3, .string (⟨#[98]⟩ : ByteArray), .string (⟨#[]⟩ : ByteArray), .string (⟨#[]⟩ : ByteArray), .slice none 0 0, .int .i64 0, .int .i64 1, .string (⟨#[98]⟩ : ByteArray), .string (⟨#[]⟩ : ByteArray), .string (⟨#[]⟩ : ByteArray), .slice none 0 0]) (ok := (fun k_ => some k_ ≠ (v300 : Value).ownBlock)) (okp := (fun k_ => some k_ ≠ (v300 : Value).ownBlock)) ?hr ?hp (fun _ hk => hk) ((show ∀ k_, w12.heap.size ≤ k_ → (fun k_ => some k_ ≠ (v300 : Value).ownBlock) k_ from fun k_ hk => Kd.fresh' (Kd.N_lt zz31) k_ hk) _ (Nat.le_refl _)) (Below.refl _ _) (Nat.le_refl _) (by simp) ?_; (case hd => rfl); (case hg => rfl); (case hr => exact zz5); (case hp => exact (Reps.c6 (show Kd.FK k46 _ _ (⟨0, 0, (⟨#[117, 108]⟩ : ByteArray), (⟨#[]⟩ : ByteArray), (⟨#[]⟩ : ByteArray), ([] : List (S48))⟩ : S46) [.int .i64 0, .int .i64 0, .string (⟨#[117, 108]⟩ : ByteArray), .string (⟨#[]⟩ : ByteArray), .string (⟨#[]⟩ : ByteArray), .slice none 0 0] from (k46_mkF _ _ (⟨0, 0, (⟨#[117, 108]⟩ : ByteArray), (⟨#[]⟩ : ByteArray), (⟨#[]⟩ : ByteArray), ([] : List (S48))⟩ : S46) (Nat.le_refl _) (Kd.F_nil _ _ _))) (Reps.c6 (show Kd.FK k46 _ _ (⟨0, 1, (⟨#[108, 105]⟩ : ByteArray), (⟨#[]⟩ : ByteArray), (⟨#[]⟩ : ByteArray), y303⟩ : S46) [.int .i64 0, .int .i64 1, .string (⟨#[108, 105]⟩ : ByteArray), .string (⟨#[]⟩ : ByteArray), .string (⟨#[]⟩ : ByteArray), .slice Ao14 y303.length co14] from (k46_mkF _ _ (⟨0, 1, (⟨#[108, 105]⟩ : ByteArray), (⟨#[]⟩ : ByteArray), (⟨#[]⟩ : ByteArray), y303⟩ : S46) (Kd.R_reads' (Kd.R_mono (ok' := (fun k_ => some k_ ≠ (v300 : Value).ownBlock)) (Kd.R_apart' (HO305.out) (Kd.N_typed HO301.out) (by decide)) (fun k_ hk => hk.2))).2.1 (Kd.R_F (Kd.R_mono (ok' := (fun k_ => some k_ ≠ (v300 : Value).ownBlock)) (Kd.R_apart' (HO305.out) (Kd.N_typed HO301.out) (by decide)) (fun k_ hk => hk.2))))) (Reps.c6 (show Kd.FK k46 _ _ (⟨0, 2, (⟨#[112]⟩ : ByteArray), (⟨#[]⟩ : ByteArray), (⟨#[]⟩ : ByteArray), ([] : List (S48))⟩ : S46) [.int .i64 0, .int .i64 2, .string (⟨#[112]⟩ : ByteArray), .string (⟨#[]⟩ : ByteArray), .string (⟨#[]⟩ : ByteArray), .slice none 0 0] from (k46_mkF _ _ (⟨0, 2, (⟨#[112]⟩ : ByteArray), (⟨#[]⟩ : ByteArray), (⟨#[]⟩ : ByteArray), ([] : List (S48))⟩ : S46) (Nat.le_refl _) (Kd.F_nil _ _ _))) (Reps.c6 (show Kd.FK k46 _ _ (⟨0, 3, (⟨#[98]⟩ : ByteArray), (⟨#[]⟩ : ByteArray), (⟨#[]⟩ : ByteArray), ([] : List (S48))⟩ : S46) [.int .i64 0, .int .i64 3, .string (⟨#[98]⟩ : ByteArray), .string (⟨#[]⟩ : ByteArray), .string (⟨#[]⟩ : ByteArray), .slice none 0 0] from (k46_mkF _ _ (⟨0, 3, (⟨#[98]⟩ : ByteArray), (⟨#[]⟩ : ByteArray), (⟨#[]⟩ : ByteArray), ([] : List (S48))⟩ : S46) (Nat.le_refl _) (Kd.F_nil _ _ _))) (Reps.c6 (show Kd.FK k46 _ _ (⟨0, 1, (⟨#[98]⟩ : ByteArray), (⟨#[]⟩ : ByteArray), (⟨#[]⟩ : ByteArray), ([] : List (S48))⟩ : S46) [.int .i64 0, .int .i64 1, .string (⟨#[98]⟩ : ByteArray), .string (⟨#[]⟩ : ByteArray), .string (⟨#[]⟩ : ByteArray), .slice none 0 0] from (k46_mkF _ _ (⟨0, 1, (⟨#[98]⟩ : ByteArray), (⟨#[]⟩ : ByteArray), (⟨#[]⟩ : ByteArray), ([] : List (S48))⟩ : S46) (Nat.le_refl _) (Kd.F_nil _ _ _))) (Reps.none _ _))))))); intro v307 w15 ho16 hb hg_ hnew_; clear hg_ hnew_; (first | rw [← Ny306.out] at ho16 | (simp only [Int.reduceToNat] at ho16; rw [← Ny306.out] at ho16)); have n0_ := qa.mk (Kd.N_elder' zz31 (Kd.N_base ho16) hb); have n1_ := qa.mk (Kd.N_lower ho16 (ql zz24)); have n2_ := qa.mk (qm zz24 hb); clear HO301; clear HB; clear HO305; have HO301 := n0_; have HO308 := n1_; have HB := n2_; clear n0_ n1_ n2_; clear hb ho16; obtain ⟨Ao17, co17, eo17⟩ := Kd.N_slice HO301.out; subst eo17) | ((with_reducible refine qv (f := 14) rfl ?_); refine qob (some 20) rfl rfl Tryd.func14 (by kernel_rfl) rfl #[.slice Ao17 t299.length co17] rfl zz56 ?_; (with_reducible refine (query_Print.calls _ _ t299 t309 t310 _ ?side1 ?side2 ?side3 A2.out).mono ?_); (case side1 => exact zz52); (case side2 => exact zz85); (case side3 => exact (Kd.N_reads' HO301.out).2.1); rintro e w18 ⟨rfl, hb⟩; refine ⟨_, rfl, ?_⟩; have n0_ := qa.mk (Kd.N_below zz31 hb); have n1_ := qa.mk (Kd.N_below zz32 hb); have n2_ := qa.mk (qm zz24 hb); clear HO301; clear HO308; clear HB; have HO301 := n0_; have HO308 := n1_; have HB := n2_; clear n0_ n1_ n2_; (try clear hb); (try clear hb2); (try clear hk); (try clear hi); obtain ⟨Ao19, co19, eo19⟩ := Kd.N_slice HO308.out; subst eo19) | (go_at_call 12; (with_reducible refine (qu.calls k _ _ t299 _ _ y306 t311 _ ?side1 ?side2 ?side3 ?side4 A6.out).mono ?_); (case side1 => exact zz85); (case side2 => exact (Kd.N_reads' HO301.out).2.1); (case side3 => exact zz86); (case side4 => exact (Kd.N_reads' HO308.out).2.1); rintro e w20 ⟨v312, rfl, ho0, hb⟩; have n0_ := qa.mk (Kd.N_elder' zz31 (Kd.R_base ho0) hb); have n1_ := qa.mk (Kd.N_elder' zz32 (Kd.R_base ho0) hb); have n2_ := qa.mk (Kd.R_lower ho0 (ql zz24)); have n3_ := qa.mk (qm zz24 hb); clear HO301; clear HO308; clear HB; have HO301 := n0_; have HO308 := n1_; have HO313 := n2_; have HB := n3_; clear n0_ n1_ n2_ n3_; (try clear hb); (try clear hb2); (try clear hk); (try clear hi); (try clear ho0)) | ((with_reducible refine qeb (N := 37) rfl ?_); (try (refine gate_guard (by rfl) ?_; dsimp only)); refine Kd.R_lit (Kd.int .i64) _ 3 ?hg (N := 37) ?hd (xs := ([4] : List Int)) (inner := [.int .i64 4]) (ok := fun _ => True) (okp := fun _ => True) ?hr ?hp (fun _ hk => hk) trivial (Below.refl _ _) (Nat.le_refl _) (by simp) ?_; (case hd => rfl); (case hg => rfl); (case hr => exact zz5); (case hp => exact (Reps.one (show Kd.M (Kd.int .i64) _ _ _ 4 [.int .i64 4] from rfl) (Reps.none _ _))); intro v315 w21 ho22 hb hg_ hnew_; clear hg_ hnew_; (first | rw [← Ny314.out] at ho22 | (simp only [Int.reduceToNat] at ho22; rw [← Ny314.out] at ho22)); have n0_ := qa.mk (Kd.N_elder' zz31 (Kd.R_base ho22) hb); have n1_ := qa.mk (Kd.N_elder' zz32 (Kd.R_base ho22) hb); have n2_ := qa.mk (Kd.R_elder' zz33 (Kd.R_base ho22) hb); have n3_ := qa.mk (Kd.R_lower (Kd.R_new' ho22 (Kd.R_lt zz33)) (ql zz24)); have n4_ := qa.mk (qm zz24 hb); clear HO301; clear HO308; clear HO313; clear HB; have HO301 := n0_; have HO308 := n1_; have HO313 := n2_; have HO316 := n3_; have HB := n4_; clear n0_ n1_ n2_ n3_ n4_; clear hb ho22; obtain ⟨Ao23, co23, eo23⟩ := Kd.R_slice HO313.out; subst eo23; obtain ⟨Ao24, co24, eo24⟩ := Kd.R_slice HO316.out; subst eo24) | (go_at_call 15; (with_reducible refine (qfb.calls k _ _ t311 _ _ y314 true _ ?side1 ?side2 ?side3 ?side4 A7.out).mono ?_); (case side1 => exact zz87); (case side2 => exact (Kd.R_reads' HO313.out).2.1); (case side3 => exact zz88); (case side4 => exact (Kd.R_reads' HO316.out).2.1); rintro e w' ⟨rfl, ⟨nd, rfl⟩⟩; have q25 : (2 : Int) ≤ ((t299.length : Int) : Int) := of_decide_eq_true zz7; obtain ⟨i025, hi025, _, hsz25, _⟩ := info_parts info41; have hroom25 : t299.length ≤ co17 := (Kd.N_reads' HO301.out).2.1; have hC25 : Kd.F k41 _ _ Ao17 t299.length t299 := (Kd.V_at (base := w.heap.size) (Kd.N_V HO301.out)).2.2; have hcut25 := cut_to (P := Tryd.prog) 23 41 .i64 Tryd.underlying23 hi025 Ao17 t299.length co17 2 (by omega) q25 hroom25; have hr25 := Kd.F_take (m := 2) hC25 (by omega); have hy25 : y318.length = (2 : Int).toNat := (by rw [Ny318.out, List.length_take]; omega); rw [← Ny318.out] at hr25; rw [← hy25] at hcut25; have HO322 := qa.mk (show Kd.V k41 41 _ w.heap.size _ (.slice Ao17 y318.length co17) y318 from Kd.V_mk (by omega) hr25); have HC322 := qa.mk (show y318.length ≤ co17 from by omega); clear hr25 hC25 hroom25 hi025 hsz25; have KY25 := qa.mk hy25; clear hy25; replace q25 := eq_true q25) | (go_at_call 16; (with_reducible refine (qt.calls k _ _ y318 _ _ y306 4 t323 _ ?side1 ?side2 ?side3 ?side4 A10.out).mono ?_); (case side1 => repeat (first | exact (Kd.V_reads' HO322.out).2.2 | (with_reducible refine Kd.C_alloc ?_ _) | (with_reducible refine Kd.C_drewN ?_ _) | (with_reducible refine Kd.C_drew ?_))); (case side2 => exact (Kd.V_reads' HO322.out).2.1); (case side3 => exact zz86); (case side4 => exact (Kd.N_reads' HO308.out).2.1); rintro e w26 ⟨rfl, hb⟩; have n0_ := qa.mk (Kd.N_below zz31 hb); have n1_ := qa.mk (Kd.N_below zz32 hb); have n2_ := qa.mk (Kd.R_below zz33 hb); have n3_ := qa.mk (Kd.R_below (by (with_reducible repeat (first | apply Kd.R_alloc | apply Kd.R_drewN | apply Kd.R_drew)); exact HO316.out) hb); have n4_ := qa.mk (Kd.V_below (by (with_reducible repeat (first | apply Kd.V_alloc | apply Kd.V_drewN | apply Kd.V_drew)); exact HO322.out) hb); have n5_ := qa.mk (qm zz24 hb); clear HO301; clear HO308; clear HO313; clear HO316; clear HO322; clear HB; have HO301 := n0_; have HO308 := n1_; have HO313 := n2_; have HO316 := n3_; have HO322 := n4_; have HB := n5_; clear n0_ n1_ n2_ n3_ n4_ n5_; (try clear hb); (try clear hb2); (try clear hk); (try clear hi)))
      go_ret
      exact ⟨zz65, zz24⟩
     ·rw [if_neg c9] at H
      exact absurd H (by simp)
    ·replace c8 := Bool.eq_false_iff.mpr c8
     subst c8
     have H1 : (some false) = some r := by rw [if_neg (show ¬ (false = true) by decide)] at H; exact H
     clear H
     have H := H1
     clear H1
     obtain rfl := Option.some.inj H
     go_enter Tryd.func5, Tryd.ntmps5
     go_wp2_with (first | ((with_reducible refine qv (f := 6) rfl ?_); refine qob (some 7) rfl rfl Tryd.func6 (by kernel_rfl) rfl #[.string (⟨#[117, 108, 62, 108, 105, 91, 97, 61, 34, 49, 34, 93, 32, 98]⟩ : ByteArray)] rfl zz56 ?_; (with_reducible refine (qcb.calls k (⟨#[117, 108, 62, 108, 105, 91, 97, 61, 34, 49, 34, 93, 32, 98]⟩ : ByteArray) t299 t302 _ ?side1 A1.out).mono ?_); (case side1 => exact zz52); rintro e w27 ⟨v300, rfl, ho0, hb⟩; refine ⟨_, rfl, ?_⟩; have n0_ := qa.mk (Kd.N_lower (Kd.N_mono (ok' := fun k_ => True) ho0 (fun k_ hk_ => trivial)) (ql zz24)); have n1_ := qa.mk (qm zz24 hb); clear HB; have HO301 := n0_; have HB := n1_; clear n0_ n1_; (try clear hb); (try clear hb2); (try clear hk); (try clear hi); (try clear ho0)) | ((with_reducible refine qeb (N := 12) rfl ?_); (try (refine gate_guard (by rfl) ?_; dsimp only)); refine Kd.R_lit k48 _ 48 ?hg (N := 12) ?hd (xs := ([(⟨(⟨#[97]⟩ : ByteArray), (⟨#[49]⟩ : ByteArray)⟩ : S48)] : List (S48))) (inner := [.string (⟨#[97]⟩ : ByteArray), .string (⟨#[49]⟩ : ByteArray)]) (ok := fun _ => True) (okp := fun _ => True) ?hr ?hp (fun _ hk => hk) trivial (Below.refl _ _) (Nat.le_refl _) (by simp) ?_; (case hd => rfl); (case hg => rfl); (case hr => exact zz5); (case hp => exact zz106); intro v304 w28 ho29 hb hg_ hnew_; clear hg_ hnew_; (first | rw [← Ny303.out] at ho29 | (simp only [Int.reduceToNat] at ho29; rw [← Ny303.out] at ho29)); have n0_ := qa.mk (Kd.N_elder' zz31 (Kd.R_base ho29) hb); have n1_ := qa.mk (Kd.R_lower ho29 (ql zz24)); have n2_ := qa.mk (qm zz24 hb); clear HO301; clear HB; have HO301 := n0_; have HO305 := n1_; have HB := n2_; clear n0_ n1_ n2_; clear hb ho29; obtain ⟨Ao30, co30, eo30⟩ := Kd.R_slice HO305.out; subst eo30) | ((with_reducible refine qeb (N := 17) rfl ?_); (try (refine gate_guard (by rfl) ?_; dsimp only)); refine Kd.N_lit k46 _ 46 ?hg (N' := 17) ?hd (xs := ([(⟨0, 0, (⟨#[117, 108]⟩ : ByteArray), (⟨#[]⟩ : ByteArray), (⟨#[]⟩ : ByteArray), ([] : List (S48))⟩ : S46), (⟨0, 1, (⟨#[108, 105]⟩ : ByteArray), (⟨#[]⟩ : ByteArray), (⟨#[]⟩ : ByteArray), y303⟩ : S46), (⟨0, 2, (⟨#[112]⟩ : ByteArray), (⟨#[]⟩ : ByteArray), (⟨#[]⟩ : ByteArray), ([] : List (S48))⟩ : S46), (⟨0, 3, (⟨#[98]⟩ : ByteArray), (⟨#[]⟩ : ByteArray), (⟨#[]⟩ : ByteArray), ([] : List (S48))⟩ : S46), (⟨0, 1, (⟨#[98]⟩ : ByteArray), (⟨#[]⟩ : ByteArray), (⟨#[]⟩ : ByteArray), ([] : List (S48))⟩ : S46)] : List (S46))) (inner := [.int .i64 0, .int .i64 0, .string (⟨#[117, 108]⟩ : ByteArray), .string (⟨#[]⟩ : ByteArray), .string (⟨#[]⟩ : ByteArray), .slice none 0 0, .int .i64 0, .int .i64 1, .string (⟨#[108, 105]⟩ : ByteArray), .string (⟨#[]⟩ : ByteArray), .string (⟨#[]⟩ : ByteArray), .slice Ao30 y303.length co30, .int .i64 0, .int .i64 2, .string (⟨#[112]⟩ : ByteArray), .string (⟨#[]⟩ : ByteArray), .string (⟨#[]⟩ : ByteArray), .slice none 0 0, .int .i64 0, .int .i64 3, .string (⟨#[98]⟩ : ByteArray), .string (⟨#[]⟩ : ByteArray), .string (⟨#[]⟩ : ByteArray), .slice none 0 0, .int .i64 0, .int .i64 1, .string (⟨#[98]⟩ : ByteArray), .string (⟨#[]⟩ : ByteArray), .string (⟨#[]⟩ : ByteArray), .slice none 0 0]) (ok := (fun k_ => some k_ ≠ (v300 : Value).ownBlock)) (okp := (fun k_ => some k_ ≠ (v300 : Value).ownBlock)) ?hr ?hp (fun _ hk => hk) ((show ∀ k_, w28.heap.size ≤ k_ → (fun k_ => some k_ ≠ (v300 : Value).ownBlock) k_ from fun k_ hk => Kd.fresh' (Kd.N_lt zz31) k_ hk) _ (Nat.le_refl _)) (Below.refl _ _) (Nat.le_refl _) (by simp) ?_; (case hd => rfl); (case hg => rfl); (case hr => exact zz5); (case hp => exact (Reps.c6 (show Kd.FK k46 _ _ (⟨0, 0, (⟨#[117, 108]⟩ : ByteArray), (⟨#[]⟩ : ByteArray), (⟨#[]⟩ : ByteArray), ([] : List (S48))⟩ : S46) [.int .i64 0, .int .i64 0, .string (⟨#[117, 108]⟩ : ByteArray), .string (⟨#[]⟩ : ByteArray), .string (⟨#[]⟩ : ByteArray), .slice none 0 0] from (k46_mkF _ _ (⟨0, 0, (⟨#[117, 108]⟩ : ByteArray), (⟨#[]⟩ : ByteArray), (⟨#[]⟩ : ByteArray), ([] : List (S48))⟩ : S46) (Nat.le_refl _) (Kd.F_nil _ _ _))) (Reps.c6 (show Kd.FK k46 _ _ (⟨0, 1, (⟨#[108, 105]⟩ : ByteArray), (⟨#[]⟩ : ByteArray), (⟨#[]⟩ : ByteArray), y303⟩ : S46) [.int .i64 0, .int .i64 1, .string (⟨#[108, 105]⟩ : ByteArray), .string (⟨#[]⟩ : ByteArray), .string (⟨#[]⟩ : ByteArray), .slice Ao30 y303.length co30] from (k46_mkF _ _ (⟨0, 1, (⟨#[108, 105]⟩ : ByteArray), (⟨#[]⟩ : ByteArray), (⟨#[]⟩ : ByteArray), y303⟩ : S46) (Kd.R_reads' (Kd.R_mono (ok' := (fun k_ => some k_ ≠ (v300 : Value).ownBlock)) (Kd.R_apart' (HO305.out) (Kd.N_typed HO301.out) (by decide)) (fun k_ hk => hk.2))).2.1 (Kd.R_F (Kd.R_mono (ok' := (fun k_ => some k_ ≠ (v300 : Value).ownBlock)) (Kd.R_apart' (HO305.out) (Kd.N_typed HO301.out) (by decide)) (fun k_ hk => hk.2))))) (Reps.c6 (show Kd.FK k46 _ _ (⟨0, 2, (⟨#[112]⟩ : ByteArray), (⟨#[]⟩ : ByteArray), (⟨#[]⟩ : ByteArray), ([] : List (S48))⟩ : S46) [.int .i64 0, .int .i64 2, .string (⟨#[112]⟩ : ByteArray), .string (⟨#[]⟩ : ByteArray), .string (⟨#[]⟩ : ByteArray), .slice none 0 0] from (k46_mkF _ _ (⟨0, 2, (⟨#[112]⟩ : ByteArray), (⟨#[]⟩ : ByteArray), (⟨#[]⟩ : ByteArray), ([] : List (S48))⟩ : S46) (Nat.le_refl _) (Kd.F_nil _ _ _))) (Reps.c6 (show Kd.FK k46 _ _ (⟨0, 3, (⟨#[98]⟩ : ByteArray), (⟨#[]⟩ : ByteArray), (⟨#[]⟩ : ByteArray), ([] : List (S48))⟩ : S46) [.int .i64 0, .int .i64 3, .string (⟨#[98]⟩ : ByteArray), .string (⟨#[]⟩ : ByteArray), .string (⟨#[]⟩ : ByteArray), .slice none 0 0] from (k46_mkF _ _ (⟨0, 3, (⟨#[98]⟩ : ByteArray), (⟨#[]⟩ : ByteArray), (⟨#[]⟩ : ByteArray), ([] : List (S48))⟩ : S46) (Nat.le_refl _) (Kd.F_nil _ _ _))) (Reps.c6 (show Kd.FK k46 _ _ (⟨0, 1, (⟨#[98]⟩ : ByteArray), (⟨#[]⟩ : ByteArray), (⟨#[]⟩ : ByteArray), ([] : List (S48))⟩ : S46) [.int .i64 0, .int .i64 1, .string (⟨#[98]⟩ : ByteArray), .string (⟨#[]⟩ : ByteArray), .string (⟨#[]⟩ : ByteArray), .slice none 0 0] from (k46_mkF _ _ (⟨0, 1, (⟨#[98]⟩ : ByteArray), (⟨#[]⟩ : ByteArray), (⟨#[]⟩ : ByteArray), ([] : List (S48))⟩ : S46) (Nat.le_refl _) (Kd.F_nil _ _ _))) (Reps.none _ _))))))); intro v307 w31 ho32 hb hg_ hnew_; clear hg_ hnew_; (first | rw [← Ny306.out] at ho32 | (simp only [Int.reduceToNat] at ho32; rw [← Ny306.out] at ho32)); have n0_ := qa.mk (Kd.N_elder' zz31 (Kd.N_base ho32) hb); have n1_ := qa.mk (Kd.N_lower ho32 (ql zz24)); have n2_ := qa.mk (qm zz24 hb); clear HO301; clear HB; clear HO305; have HO301 := n0_; have HO308 := n1_; have HB := n2_; clear n0_ n1_ n2_; clear hb ho32; obtain ⟨Ao33, co33, eo33⟩ := Kd.N_slice HO301.out; subst eo33) | ((with_reducible refine qv (f := 14) rfl ?_); refine qob (some 20) rfl rfl Tryd.func14 (by kernel_rfl) rfl #[.slice Ao33 t299.length co33] rfl zz56 ?_; (with_reducible refine (query_Print.calls _ _ t299 t309 t310 _ ?side1 ?side2 ?side3 A2.out).mono ?_); (case side1 => exact zz52); (case side2 => exact zz85); (case side3 => exact (Kd.N_reads' HO301.out).2.1); rintro e w34 ⟨rfl, hb⟩; refine ⟨_, rfl, ?_⟩; have n0_ := qa.mk (Kd.N_below zz31 hb); have n1_ := qa.mk (Kd.N_below zz32 hb); have n2_ := qa.mk (qm zz24 hb); clear HO301; clear HO308; clear HB; have HO301 := n0_; have HO308 := n1_; have HB := n2_; clear n0_ n1_ n2_; (try clear hb); (try clear hb2); (try clear hk); (try clear hi); obtain ⟨Ao35, co35, eo35⟩ := Kd.N_slice HO308.out; subst eo35) | (go_at_call 12; (with_reducible refine (qu.calls k _ _ t299 _ _ y306 t311 _ ?side1 ?side2 ?side3 ?side4 A6.out).mono ?_); (case side1 => exact zz85); (case side2 => exact (Kd.N_reads' HO301.out).2.1); (case side3 => exact zz86); (case side4 => exact (Kd.N_reads' HO308.out).2.1); rintro e w36 ⟨v312, rfl, ho0, hb⟩; have n0_ := qa.mk (Kd.N_elder' zz31 (Kd.R_base ho0) hb); have n1_ := qa.mk (Kd.N_elder' zz32 (Kd.R_base ho0) hb); have n2_ := qa.mk (Kd.R_lower ho0 (ql zz24)); have n3_ := qa.mk (qm zz24 hb); clear HO301; clear HO308; clear HB; have HO301 := n0_; have HO308 := n1_; have HO313 := n2_; have HB := n3_; clear n0_ n1_ n2_ n3_; (try clear hb); (try clear hb2); (try clear hk); (try clear hi); (try clear ho0)) | ((with_reducible refine qeb (N := 37) rfl ?_); (try (refine gate_guard (by rfl) ?_; dsimp only)); refine Kd.R_lit (Kd.int .i64) _ 3 ?hg (N := 37) ?hd (xs := ([4] : List Int)) (inner := [.int .i64 4]) (ok := fun _ => True) (okp := fun _ => True) ?hr ?hp (fun _ hk => hk) trivial (Below.refl _ _) (Nat.le_refl _) (by simp) ?_; (case hd => rfl); (case hg => rfl); (case hr => exact zz5); (case hp => exact (Reps.one (show Kd.M (Kd.int .i64) _ _ _ 4 [.int .i64 4] from rfl) (Reps.none _ _))); intro v315 w37 ho38 hb hg_ hnew_; clear hg_ hnew_; (first | rw [← Ny314.out] at ho38 | (simp only [Int.reduceToNat] at ho38; rw [← Ny314.out] at ho38)); have n0_ := qa.mk (Kd.N_elder' zz31 (Kd.R_base ho38) hb); have n1_ := qa.mk (Kd.N_elder' zz32 (Kd.R_base ho38) hb); have n2_ := qa.mk (Kd.R_elder' zz33 (Kd.R_base ho38) hb); have n3_ := qa.mk (Kd.R_lower (Kd.R_new' ho38 (Kd.R_lt zz33)) (ql zz24)); have n4_ := qa.mk (qm zz24 hb); clear HO301; clear HO308; clear HO313; clear HB; have HO301 := n0_; have HO308 := n1_; have HO313 := n2_; have HO316 := n3_; have HB := n4_; clear n0_ n1_ n2_ n3_ n4_; clear hb ho38; obtain ⟨Ao39, co39, eo39⟩ := Kd.R_slice HO313.out; subst eo39; obtain ⟨Ao40, co40, eo40⟩ := Kd.R_slice HO316.out; subst eo40) | (go_at_call 15; (with_reducible refine (qfb.calls k _ _ t311 _ _ y314 false _ ?side1 ?side2 ?side3 ?side4 A7.out).mono ?_); (case side1 => exact zz87); (case side2 => exact (Kd.R_reads' HO313.out).2.1); (case side3 => exact zz88); (case side4 => exact (Kd.R_reads' HO316.out).2.1); rintro e w' ⟨rfl, ⟨nd, rfl⟩⟩))
     go_ret
     exact ⟨zz65, zz24⟩
   ·rw [if_neg c5] at H
    have c5b0 : (t309.toList == ([117, 108, 62, 108, 105, 91, 97, 61, 34, 49, 34, 93, 32, 98] : List UInt8)) = false := beq_eq_false_iff_ne.mpr c5
    have c5b1 : (t309.toList != ([117, 108, 62, 108, 105, 91, 97, 61, 34, 49, 34, 93, 32, 98] : List UInt8)) = true := bne_iff_ne.mpr c5
    obtain rfl := Option.some.inj H
    go_enter Tryd.func5, Tryd.ntmps5
    go_wp2_with (first | ((with_reducible refine qv (f := 6) rfl ?_); refine qob (some 7) rfl rfl Tryd.func6 (by kernel_rfl) rfl #[.string (⟨#[117, 108, 62, 108, 105, 91, 97, 61, 34, 49, 34, 93, 32, 98]⟩ : ByteArray)] rfl zz56 ?_; (with_reducible refine (qcb.calls k (⟨#[117, 108, 62, 108, 105, 91, 97, 61, 34, 49, 34, 93, 32, 98]⟩ : ByteArray) t299 t302 _ ?side1 A1.out).mono ?_); (case side1 => exact zz52); rintro e w41 ⟨v300, rfl, ho0, hb⟩; refine ⟨_, rfl, ?_⟩; have n0_ := qa.mk (Kd.N_lower (Kd.N_mono (ok' := fun k_ => True) ho0 (fun k_ hk_ => trivial)) (ql zz24)); have n1_ := qa.mk (qm zz24 hb); clear HB; have HO301 := n0_; have HB := n1_; clear n0_ n1_; (try clear hb); (try clear hb2); (try clear hk); (try clear hi); (try clear ho0)) | ((with_reducible refine qeb (N := 12) rfl ?_); (try (refine gate_guard (by rfl) ?_; dsimp only)); refine Kd.R_lit k48 _ 48 ?hg (N := 12) ?hd (xs := ([(⟨(⟨#[97]⟩ : ByteArray), (⟨#[49]⟩ : ByteArray)⟩ : S48)] : List (S48))) (inner := [.string (⟨#[97]⟩ : ByteArray), .string (⟨#[49]⟩ : ByteArray)]) (ok := fun _ => True) (okp := fun _ => True) ?hr ?hp (fun _ hk => hk) trivial (Below.refl _ _) (Nat.le_refl _) (by simp) ?_; (case hd => rfl); (case hg => rfl); (case hr => exact zz5); (case hp => exact zz106); intro v304 w42 ho43 hb hg_ hnew_; clear hg_ hnew_; (first | rw [← Ny303.out] at ho43 | (simp only [Int.reduceToNat] at ho43; rw [← Ny303.out] at ho43)); have n0_ := qa.mk (Kd.N_elder' zz31 (Kd.R_base ho43) hb); have n1_ := qa.mk (Kd.R_lower ho43 (ql zz24)); have n2_ := qa.mk (qm zz24 hb); clear HO301; clear HB; have HO301 := n0_; have HO305 := n1_; have HB := n2_; clear n0_ n1_ n2_; clear hb ho43; obtain ⟨Ao44, co44, eo44⟩ := Kd.R_slice HO305.out; subst eo44) | ((with_reducible refine qeb (N := 17) rfl ?_); (try (refine gate_guard (by rfl) ?_; dsimp only)); refine Kd.N_lit k46 _ 46 ?hg (N' := 17) ?hd (xs := ([(⟨0, 0, (⟨#[117, 108]⟩ : ByteArray), (⟨#[]⟩ : ByteArray), (⟨#[]⟩ : ByteArray), ([] : List (S48))⟩ : S46), (⟨0, 1, (⟨#[108, 105]⟩ : ByteArray), (⟨#[]⟩ : ByteArray), (⟨#[]⟩ : ByteArray), y303⟩ : S46), (⟨0, 2, (⟨#[112]⟩ : ByteArray), (⟨#[]⟩ : ByteArray), (⟨#[]⟩ : ByteArray), ([] : List (S48))⟩ : S46), (⟨0, 3, (⟨#[98]⟩ : ByteArray), (⟨#[]⟩ : ByteArray), (⟨#[]⟩ : ByteArray), ([] : List (S48))⟩ : S46), (⟨0, 1, (⟨#[98]⟩ : ByteArray), (⟨#[]⟩ : ByteArray), (⟨#[]⟩ : ByteArray), ([] : List (S48))⟩ : S46)] : List (S46))) (inner := [.int .i64 0, .int .i64 0, .string (⟨#[117, 108]⟩ : ByteArray), .string (⟨#[]⟩ : ByteArray), .string (⟨#[]⟩ : ByteArray), .slice none 0 0, .int .i64 0, .int .i64 1, .string (⟨#[108, 105]⟩ : ByteArray), .string (⟨#[]⟩ : ByteArray), .string (⟨#[]⟩ : ByteArray), .slice Ao44 y303.length co44, .int .i64 0, .int .i64 2, .string (⟨#[112]⟩ : ByteArray), .string (⟨#[]⟩ : ByteArray), .string (⟨#[]⟩ : ByteArray), .slice none 0 0, .int .i64 0, .int .i64 3, .string (⟨#[98]⟩ : ByteArray), .string (⟨#[]⟩ : ByteArray), .string (⟨#[]⟩ : ByteArray), .slice none 0 0, .int .i64 0, .int .i64 1, .string (⟨#[98]⟩ : ByteArray), .string (⟨#[]⟩ : ByteArray), .string (⟨#[]⟩ : ByteArray), .slice none 0 0]) (ok := (fun k_ => some k_ ≠ (v300 : Value).ownBlock)) (okp := (fun k_ => some k_ ≠ (v300 : Value).ownBlock)) ?hr ?hp (fun _ hk => hk) ((show ∀ k_, w42.heap.size ≤ k_ → (fun k_ => some k_ ≠ (v300 : Value).ownBlock) k_ from fun k_ hk => Kd.fresh' (Kd.N_lt zz31) k_ hk) _ (Nat.le_refl _)) (Below.refl _ _) (Nat.le_refl _) (by simp) ?_; (case hd => rfl); (case hg => rfl); (case hr => exact zz5); (case hp => exact (Reps.c6 (show Kd.FK k46 _ _ (⟨0, 0, (⟨#[117, 108]⟩ : ByteArray), (⟨#[]⟩ : ByteArray), (⟨#[]⟩ : ByteArray), ([] : List (S48))⟩ : S46) [.int .i64 0, .int .i64 0, .string (⟨#[117, 108]⟩ : ByteArray), .string (⟨#[]⟩ : ByteArray), .string (⟨#[]⟩ : ByteArray), .slice none 0 0] from (k46_mkF _ _ (⟨0, 0, (⟨#[117, 108]⟩ : ByteArray), (⟨#[]⟩ : ByteArray), (⟨#[]⟩ : ByteArray), ([] : List (S48))⟩ : S46) (Nat.le_refl _) (Kd.F_nil _ _ _))) (Reps.c6 (show Kd.FK k46 _ _ (⟨0, 1, (⟨#[108, 105]⟩ : ByteArray), (⟨#[]⟩ : ByteArray), (⟨#[]⟩ : ByteArray), y303⟩ : S46) [.int .i64 0, .int .i64 1, .string (⟨#[108, 105]⟩ : ByteArray), .string (⟨#[]⟩ : ByteArray), .string (⟨#[]⟩ : ByteArray), .slice Ao44 y303.length co44] from (k46_mkF _ _ (⟨0, 1, (⟨#[108, 105]⟩ : ByteArray), (⟨#[]⟩ : ByteArray), (⟨#[]⟩ : ByteArray), y303⟩ : S46) (Kd.R_reads' (Kd.R_mono (ok' := (fun k_ => some k_ ≠ (v300 : Value).ownBlock)) (Kd.R_apart' (HO305.out) (Kd.N_typed HO301.out) (by decide)) (fun k_ hk => hk.2))).2.1 (Kd.R_F (Kd.R_mono (ok' := (fun k_ => some k_ ≠ (v300 : Value).ownBlock)) (Kd.R_apart' (HO305.out) (Kd.N_typed HO301.out) (by decide)) (fun k_ hk => hk.2))))) (Reps.c6 (show Kd.FK k46 _ _ (⟨0, 2, (⟨#[112]⟩ : ByteArray), (⟨#[]⟩ : ByteArray), (⟨#[]⟩ : ByteArray), ([] : List (S48))⟩ : S46) [.int .i64 0, .int .i64 2, .string (⟨#[112]⟩ : ByteArray), .string (⟨#[]⟩ : ByteArray), .string (⟨#[]⟩ : ByteArray), .slice none 0 0] from (k46_mkF _ _ (⟨0, 2, (⟨#[112]⟩ : ByteArray), (⟨#[]⟩ : ByteArray), (⟨#[]⟩ : ByteArray), ([] : List (S48))⟩ : S46) (Nat.le_refl _) (Kd.F_nil _ _ _))) (Reps.c6 (show Kd.FK k46 _ _ (⟨0, 3, (⟨#[98]⟩ : ByteArray), (⟨#[]⟩ : ByteArray), (⟨#[]⟩ : ByteArray), ([] : List (S48))⟩ : S46) [.int .i64 0, .int .i64 3, .string (⟨#[98]⟩ : ByteArray), .string (⟨#[]⟩ : ByteArray), .string (⟨#[]⟩ : ByteArray), .slice none 0 0] from (k46_mkF _ _ (⟨0, 3, (⟨#[98]⟩ : ByteArray), (⟨#[]⟩ : ByteArray), (⟨#[]⟩ : ByteArray), ([] : List (S48))⟩ : S46) (Nat.le_refl _) (Kd.F_nil _ _ _))) (Reps.c6 (show Kd.FK k46 _ _ (⟨0, 1, (⟨#[98]⟩ : ByteArray), (⟨#[]⟩ : ByteArray), (⟨#[]⟩ : ByteArray), ([] : List (S48))⟩ : S46) [.int .i64 0, .int .i64 1, .string (⟨#[98]⟩ : ByteArray), .string (⟨#[]⟩ : ByteArray), .string (⟨#[]⟩ : ByteArray), .slice none 0 0] from (k46_mkF _ _ (⟨0, 1, (⟨#[98]⟩ : ByteArray), (⟨#[]⟩ : ByteArray), (⟨#[]⟩ : ByteArray), ([] : List (S48))⟩ : S46) (Nat.le_refl _) (Kd.F_nil _ _ _))) (Reps.none _ _))))))); intro v307 w45 ho46 hb hg_ hnew_; clear hg_ hnew_; (first | rw [← Ny306.out] at ho46 | (simp only [Int.reduceToNat] at ho46; rw [← Ny306.out] at ho46)); have n0_ := qa.mk (Kd.N_elder' zz31 (Kd.N_base ho46) hb); have n1_ := qa.mk (Kd.N_lower ho46 (ql zz24)); have n2_ := qa.mk (qm zz24 hb); clear HO301; clear HB; clear HO305; have HO301 := n0_; have HO308 := n1_; have HB := n2_; clear n0_ n1_ n2_; clear hb ho46; obtain ⟨Ao47, co47, eo47⟩ := Kd.N_slice HO301.out; subst eo47) | ((with_reducible refine qv (f := 14) rfl ?_); refine qob (some 20) rfl rfl Tryd.func14 (by kernel_rfl) rfl #[.slice Ao47 t299.length co47] rfl zz56 ?_; (with_reducible refine (query_Print.calls _ _ t299 t309 t310 _ ?side1 ?side2 ?side3 A2.out).mono ?_); (case side1 => exact zz52); (case side2 => exact zz85); (case side3 => exact (Kd.N_reads' HO301.out).2.1); rintro e w48 ⟨rfl, hb⟩; refine ⟨_, rfl, ?_⟩; have n0_ := qa.mk (Kd.N_below zz31 hb); have n1_ := qa.mk (Kd.N_below zz32 hb); have n2_ := qa.mk (qm zz24 hb); clear HO301; clear HO308; clear HB; have HO301 := n0_; have HO308 := n1_; have HB := n2_; clear n0_ n1_ n2_; (try clear hb); (try clear hb2); (try clear hk); (try clear hi)))
    go_ret
    exact ⟨zz65, zz24⟩
  ·rw [if_neg c4] at H
   have c4b0 : (t310 == 0) = false := beq_eq_false_iff_ne.mpr c4
   have c4b1 : (t310 != 0) = true := bne_iff_ne.mpr c4
   obtain rfl := Option.some.inj H
   go_enter Tryd.func5, Tryd.ntmps5
   go_wp2_with (first | ((with_reducible refine qv (f := 6) rfl ?_); refine qob (some 7) rfl rfl Tryd.func6 (by kernel_rfl) rfl #[.string (⟨#[117, 108, 62, 108, 105, 91, 97, 61, 34, 49, 34, 93, 32, 98]⟩ : ByteArray)] rfl zz56 ?_; (with_reducible refine (qcb.calls k (⟨#[117, 108, 62, 108, 105, 91, 97, 61, 34, 49, 34, 93, 32, 98]⟩ : ByteArray) t299 t302 _ ?side1 A1.out).mono ?_); (case side1 => exact zz52); rintro e w49 ⟨v300, rfl, ho0, hb⟩; refine ⟨_, rfl, ?_⟩; have n0_ := qa.mk (Kd.N_lower (Kd.N_mono (ok' := fun k_ => True) ho0 (fun k_ hk_ => trivial)) (ql zz24)); have n1_ := qa.mk (qm zz24 hb); clear HB; have HO301 := n0_; have HB := n1_; clear n0_ n1_; (try clear hb); (try clear hb2); (try clear hk); (try clear hi); (try clear ho0)) | ((with_reducible refine qeb (N := 12) rfl ?_); (try (refine gate_guard (by rfl) ?_; dsimp only)); refine Kd.R_lit k48 _ 48 ?hg (N := 12) ?hd (xs := ([(⟨(⟨#[97]⟩ : ByteArray), (⟨#[49]⟩ : ByteArray)⟩ : S48)] : List (S48))) (inner := [.string (⟨#[97]⟩ : ByteArray), .string (⟨#[49]⟩ : ByteArray)]) (ok := fun _ => True) (okp := fun _ => True) ?hr ?hp (fun _ hk => hk) trivial (Below.refl _ _) (Nat.le_refl _) (by simp) ?_; (case hd => rfl); (case hg => rfl); (case hr => exact zz5); (case hp => exact zz106); intro v304 w50 ho51 hb hg_ hnew_; clear hg_ hnew_; (first | rw [← Ny303.out] at ho51 | (simp only [Int.reduceToNat] at ho51; rw [← Ny303.out] at ho51)); have n0_ := qa.mk (Kd.N_elder' zz31 (Kd.R_base ho51) hb); have n1_ := qa.mk (Kd.R_lower ho51 (ql zz24)); have n2_ := qa.mk (qm zz24 hb); clear HO301; clear HB; have HO301 := n0_; have HO305 := n1_; have HB := n2_; clear n0_ n1_ n2_; clear hb ho51; obtain ⟨Ao52, co52, eo52⟩ := Kd.R_slice HO305.out; subst eo52) | ((with_reducible refine qeb (N := 17) rfl ?_); (try (refine gate_guard (by rfl) ?_; dsimp only)); refine Kd.N_lit k46 _ 46 ?hg (N' := 17) ?hd (xs := ([(⟨0, 0, (⟨#[117, 108]⟩ : ByteArray), (⟨#[]⟩ : ByteArray), (⟨#[]⟩ : ByteArray), ([] : List (S48))⟩ : S46), (⟨0, 1, (⟨#[108, 105]⟩ : ByteArray), (⟨#[]⟩ : ByteArray), (⟨#[]⟩ : ByteArray), y303⟩ : S46), (⟨0, 2, (⟨#[112]⟩ : ByteArray), (⟨#[]⟩ : ByteArray), (⟨#[]⟩ : ByteArray), ([] : List (S48))⟩ : S46), (⟨0, 3, (⟨#[98]⟩ : ByteArray), (⟨#[]⟩ : ByteArray), (⟨#[]⟩ : ByteArray), ([] : List (S48))⟩ : S46), (⟨0, 1, (⟨#[98]⟩ : ByteArray), (⟨#[]⟩ : ByteArray), (⟨#[]⟩ : ByteArray), ([] : List (S48))⟩ : S46)] : List (S46))) (inner := [.int .i64 0, .int .i64 0, .string (⟨#[117, 108]⟩ : ByteArray), .string (⟨#[]⟩ : ByteArray), .string (⟨#[]⟩ : ByteArray), .slice none 0 0, .int .i64 0, .int .i64 1, .string (⟨#[108, 105]⟩ : ByteArray), .string (⟨#[]⟩ : ByteArray), .string (⟨#[]⟩ : ByteArray), .slice Ao52 y303.length co52, .int .i64 0, .int .i64 2, .string (⟨#[112]⟩ : ByteArray), .string (⟨#[]⟩ : ByteArray), .string (⟨#[]⟩ : ByteArray), .slice none 0 0, .int .i64 0, .int .i64 3, .string (⟨#[98]⟩ : ByteArray), .string (⟨#[]⟩ : ByteArray), .string (⟨#[]⟩ : ByteArray), .slice none 0 0, .int .i64 0, .int .i64 1, .string (⟨#[98]⟩ : ByteArray), .string (⟨#[]⟩ : ByteArray), .string (⟨#[]⟩ : ByteArray), .slice none 0 0]) (ok := (fun k_ => some k_ ≠ (v300 : Value).ownBlock)) (okp := (fun k_ => some k_ ≠ (v300 : Value).ownBlock)) ?hr ?hp (fun _ hk => hk) ((show ∀ k_, w50.heap.size ≤ k_ → (fun k_ => some k_ ≠ (v300 : Value).ownBlock) k_ from fun k_ hk => Kd.fresh' (Kd.N_lt zz31) k_ hk) _ (Nat.le_refl _)) (Below.refl _ _) (Nat.le_refl _) (by simp) ?_; (case hd => rfl); (case hg => rfl); (case hr => exact zz5); (case hp => exact (Reps.c6 (show Kd.FK k46 _ _ (⟨0, 0, (⟨#[117, 108]⟩ : ByteArray), (⟨#[]⟩ : ByteArray), (⟨#[]⟩ : ByteArray), ([] : List (S48))⟩ : S46) [.int .i64 0, .int .i64 0, .string (⟨#[117, 108]⟩ : ByteArray), .string (⟨#[]⟩ : ByteArray), .string (⟨#[]⟩ : ByteArray), .slice none 0 0] from (k46_mkF _ _ (⟨0, 0, (⟨#[117, 108]⟩ : ByteArray), (⟨#[]⟩ : ByteArray), (⟨#[]⟩ : ByteArray), ([] : List (S48))⟩ : S46) (Nat.le_refl _) (Kd.F_nil _ _ _))) (Reps.c6 (show Kd.FK k46 _ _ (⟨0, 1, (⟨#[108, 105]⟩ : ByteArray), (⟨#[]⟩ : ByteArray), (⟨#[]⟩ : ByteArray), y303⟩ : S46) [.int .i64 0, .int .i64 1, .string (⟨#[108, 105]⟩ : ByteArray), .string (⟨#[]⟩ : ByteArray), .string (⟨#[]⟩ : ByteArray), .slice Ao52 y303.length co52] from (k46_mkF _ _ (⟨0, 1, (⟨#[108, 105]⟩ : ByteArray), (⟨#[]⟩ : ByteArray), (⟨#[]⟩ : ByteArray), y303⟩ : S46) (Kd.R_reads' (Kd.R_mono (ok' := (fun k_ => some k_ ≠ (v300 : Value).ownBlock)) (Kd.R_apart' (HO305.out) (Kd.N_typed HO301.out) (by decide)) (fun k_ hk => hk.2))).2.1 (Kd.R_F (Kd.R_mono (ok' := (fun k_ => some k_ ≠ (v300 : Value).ownBlock)) (Kd.R_apart' (HO305.out) (Kd.N_typed HO301.out) (by decide)) (fun k_ hk => hk.2))))) (Reps.c6 (show Kd.FK k46 _ _ (⟨0, 2, (⟨#[112]⟩ : ByteArray), (⟨#[]⟩ : ByteArray), (⟨#[]⟩ : ByteArray), ([] : List (S48))⟩ : S46) [.int .i64 0, .int .i64 2, .string (⟨#[112]⟩ : ByteArray), .string (⟨#[]⟩ : ByteArray), .string (⟨#[]⟩ : ByteArray), .slice none 0 0] from (k46_mkF _ _ (⟨0, 2, (⟨#[112]⟩ : ByteArray), (⟨#[]⟩ : ByteArray), (⟨#[]⟩ : ByteArray), ([] : List (S48))⟩ : S46) (Nat.le_refl _) (Kd.F_nil _ _ _))) (Reps.c6 (show Kd.FK k46 _ _ (⟨0, 3, (⟨#[98]⟩ : ByteArray), (⟨#[]⟩ : ByteArray), (⟨#[]⟩ : ByteArray), ([] : List (S48))⟩ : S46) [.int .i64 0, .int .i64 3, .string (⟨#[98]⟩ : ByteArray), .string (⟨#[]⟩ : ByteArray), .string (⟨#[]⟩ : ByteArray), .slice none 0 0] from (k46_mkF _ _ (⟨0, 3, (⟨#[98]⟩ : ByteArray), (⟨#[]⟩ : ByteArray), (⟨#[]⟩ : ByteArray), ([] : List (S48))⟩ : S46) (Nat.le_refl _) (Kd.F_nil _ _ _))) (Reps.c6 (show Kd.FK k46 _ _ (⟨0, 1, (⟨#[98]⟩ : ByteArray), (⟨#[]⟩ : ByteArray), (⟨#[]⟩ : ByteArray), ([] : List (S48))⟩ : S46) [.int .i64 0, .int .i64 1, .string (⟨#[98]⟩ : ByteArray), .string (⟨#[]⟩ : ByteArray), .string (⟨#[]⟩ : ByteArray), .slice none 0 0] from (k46_mkF _ _ (⟨0, 1, (⟨#[98]⟩ : ByteArray), (⟨#[]⟩ : ByteArray), (⟨#[]⟩ : ByteArray), ([] : List (S48))⟩ : S46) (Nat.le_refl _) (Kd.F_nil _ _ _))) (Reps.none _ _))))))); intro v307 w53 ho54 hb hg_ hnew_; clear hg_ hnew_; (first | rw [← Ny306.out] at ho54 | (simp only [Int.reduceToNat] at ho54; rw [← Ny306.out] at ho54)); have n0_ := qa.mk (Kd.N_elder' zz31 (Kd.N_base ho54) hb); have n1_ := qa.mk (Kd.N_lower ho54 (ql zz24)); have n2_ := qa.mk (qm zz24 hb); clear HO301; clear HB; clear HO305; have HO301 := n0_; have HO308 := n1_; have HB := n2_; clear n0_ n1_ n2_; clear hb ho54; obtain ⟨Ao55, co55, eo55⟩ := Kd.N_slice HO301.out; subst eo55) | ((with_reducible refine qv (f := 14) rfl ?_); refine qob (some 20) rfl rfl Tryd.func14 (by kernel_rfl) rfl #[.slice Ao55 t299.length co55] rfl zz56 ?_; (with_reducible refine (query_Print.calls _ _ t299 t309 t310 _ ?side1 ?side2 ?side3 A2.out).mono ?_); (case side1 => exact zz52); (case side2 => exact zz85); (case side3 => exact (Kd.N_reads' HO301.out).2.1); rintro e w56 ⟨rfl, hb⟩; refine ⟨_, rfl, ?_⟩; have n0_ := qa.mk (Kd.N_below zz31 hb); have n1_ := qa.mk (Kd.N_below zz32 hb); have n2_ := qa.mk (qm zz24 hb); clear HO301; clear HO308; clear HB; have HO301 := n0_; have HO308 := n1_; have HB := n2_; clear n0_ n1_ n2_; (try clear hb); (try clear hb2); (try clear hk); (try clear hi)))
   go_ret
   exact ⟨zz65, zz24⟩
 ·rw [if_neg c3] at H
  have c3b0 : (t302 == 0) = false := beq_eq_false_iff_ne.mpr c3
  have c3b1 : (t302 != 0) = true := bne_iff_ne.mpr c3
  obtain rfl := Option.some.inj H
  go_enter Tryd.func5, Tryd.ntmps5
  go_wp2_with (first | ((with_reducible refine qv (f := 6) rfl ?_); refine qob (some 7) rfl rfl Tryd.func6 (by kernel_rfl) rfl #[.string (⟨#[117, 108, 62, 108, 105, 91, 97, 61, 34, 49, 34, 93, 32, 98]⟩ : ByteArray)] rfl zz56 ?_; (with_reducible refine (qcb.calls k (⟨#[117, 108, 62, 108, 105, 91, 97, 61, 34, 49, 34, 93, 32, 98]⟩ : ByteArray) t299 t302 _ ?side1 A1.out).mono ?_); (case side1 => exact zz52); rintro e w57 ⟨v300, rfl, ho0, hb⟩; refine ⟨_, rfl, ?_⟩; have n0_ := qa.mk (Kd.N_lower (Kd.N_mono (ok' := fun k_ => True) ho0 (fun k_ hk_ => trivial)) (ql zz24)); have n1_ := qa.mk (qm zz24 hb); clear HB; have HO301 := n0_; have HB := n1_; clear n0_ n1_; (try clear hb); (try clear hb2); (try clear hk); (try clear hi); (try clear ho0)) | ((with_reducible refine qeb (N := 12) rfl ?_); (try (refine gate_guard (by rfl) ?_; dsimp only)); refine Kd.R_lit k48 _ 48 ?hg (N := 12) ?hd (xs := ([(⟨(⟨#[97]⟩ : ByteArray), (⟨#[49]⟩ : ByteArray)⟩ : S48)] : List (S48))) (inner := [.string (⟨#[97]⟩ : ByteArray), .string (⟨#[49]⟩ : ByteArray)]) (ok := fun _ => True) (okp := fun _ => True) ?hr ?hp (fun _ hk => hk) trivial (Below.refl _ _) (Nat.le_refl _) (by simp) ?_; (case hd => rfl); (case hg => rfl); (case hr => exact zz5); (case hp => exact zz106); intro v304 w58 ho59 hb hg_ hnew_; clear hg_ hnew_; (first | rw [← Ny303.out] at ho59 | (simp only [Int.reduceToNat] at ho59; rw [← Ny303.out] at ho59)); have n0_ := qa.mk (Kd.N_elder' zz31 (Kd.R_base ho59) hb); have n1_ := qa.mk (Kd.R_lower ho59 (ql zz24)); have n2_ := qa.mk (qm zz24 hb); clear HO301; clear HB; have HO301 := n0_; have HO305 := n1_; have HB := n2_; clear n0_ n1_ n2_; clear hb ho59; obtain ⟨Ao60, co60, eo60⟩ := Kd.R_slice HO305.out; subst eo60) | ((with_reducible refine qeb (N := 17) rfl ?_); (try (refine gate_guard (by rfl) ?_; dsimp only)); refine Kd.N_lit k46 _ 46 ?hg (N' := 17) ?hd (xs := ([(⟨0, 0, (⟨#[117, 108]⟩ : ByteArray), (⟨#[]⟩ : ByteArray), (⟨#[]⟩ : ByteArray), ([] : List (S48))⟩ : S46), (⟨0, 1, (⟨#[108, 105]⟩ : ByteArray), (⟨#[]⟩ : ByteArray), (⟨#[]⟩ : ByteArray), y303⟩ : S46), (⟨0, 2, (⟨#[112]⟩ : ByteArray), (⟨#[]⟩ : ByteArray), (⟨#[]⟩ : ByteArray), ([] : List (S48))⟩ : S46), (⟨0, 3, (⟨#[98]⟩ : ByteArray), (⟨#[]⟩ : ByteArray), (⟨#[]⟩ : ByteArray), ([] : List (S48))⟩ : S46), (⟨0, 1, (⟨#[98]⟩ : ByteArray), (⟨#[]⟩ : ByteArray), (⟨#[]⟩ : ByteArray), ([] : List (S48))⟩ : S46)] : List (S46))) (inner := [.int .i64 0, .int .i64 0, .string (⟨#[117, 108]⟩ : ByteArray), .string (⟨#[]⟩ : ByteArray), .string (⟨#[]⟩ : ByteArray), .slice none 0 0, .int .i64 0, .int .i64 1, .string (⟨#[108, 105]⟩ : ByteArray), .string (⟨#[]⟩ : ByteArray), .string (⟨#[]⟩ : ByteArray), .slice Ao60 y303.length co60, .int .i64 0, .int .i64 2, .string (⟨#[112]⟩ : ByteArray), .string (⟨#[]⟩ : ByteArray), .string (⟨#[]⟩ : ByteArray), .slice none 0 0, .int .i64 0, .int .i64 3, .string (⟨#[98]⟩ : ByteArray), .string (⟨#[]⟩ : ByteArray), .string (⟨#[]⟩ : ByteArray), .slice none 0 0, .int .i64 0, .int .i64 1, .string (⟨#[98]⟩ : ByteArray), .string (⟨#[]⟩ : ByteArray), .string (⟨#[]⟩ : ByteArray), .slice none 0 0]) (ok := (fun k_ => some k_ ≠ (v300 : Value).ownBlock)) (okp := (fun k_ => some k_ ≠ (v300 : Value).ownBlock)) ?hr ?hp (fun _ hk => hk) ((show ∀ k_, w58.heap.size ≤ k_ → (fun k_ => some k_ ≠ (v300 : Value).ownBlock) k_ from fun k_ hk => Kd.fresh' (Kd.N_lt zz31) k_ hk) _ (Nat.le_refl _)) (Below.refl _ _) (Nat.le_refl _) (by simp) ?_; (case hd => rfl); (case hg => rfl); (case hr => exact zz5); (case hp => exact (Reps.c6 (show Kd.FK k46 _ _ (⟨0, 0, (⟨#[117, 108]⟩ : ByteArray), (⟨#[]⟩ : ByteArray), (⟨#[]⟩ : ByteArray), ([] : List (S48))⟩ : S46) [.int .i64 0, .int .i64 0, .string (⟨#[117, 108]⟩ : ByteArray), .string (⟨#[]⟩ : ByteArray), .string (⟨#[]⟩ : ByteArray), .slice none 0 0] from (k46_mkF _ _ (⟨0, 0, (⟨#[117, 108]⟩ : ByteArray), (⟨#[]⟩ : ByteArray), (⟨#[]⟩ : ByteArray), ([] : List (S48))⟩ : S46) (Nat.le_refl _) (Kd.F_nil _ _ _))) (Reps.c6 (show Kd.FK k46 _ _ (⟨0, 1, (⟨#[108, 105]⟩ : ByteArray), (⟨#[]⟩ : ByteArray), (⟨#[]⟩ : ByteArray), y303⟩ : S46) [.int .i64 0, .int .i64 1, .string (⟨#[108, 105]⟩ : ByteArray), .string (⟨#[]⟩ : ByteArray), .string (⟨#[]⟩ : ByteArray), .slice Ao60 y303.length co60] from (k46_mkF _ _ (⟨0, 1, (⟨#[108, 105]⟩ : ByteArray), (⟨#[]⟩ : ByteArray), (⟨#[]⟩ : ByteArray), y303⟩ : S46) (Kd.R_reads' (Kd.R_mono (ok' := (fun k_ => some k_ ≠ (v300 : Value).ownBlock)) (Kd.R_apart' (HO305.out) (Kd.N_typed HO301.out) (by decide)) (fun k_ hk => hk.2))).2.1 (Kd.R_F (Kd.R_mono (ok' := (fun k_ => some k_ ≠ (v300 : Value).ownBlock)) (Kd.R_apart' (HO305.out) (Kd.N_typed HO301.out) (by decide)) (fun k_ hk => hk.2))))) (Reps.c6 (show Kd.FK k46 _ _ (⟨0, 2, (⟨#[112]⟩ : ByteArray), (⟨#[]⟩ : ByteArray), (⟨#[]⟩ : ByteArray), ([] : List (S48))⟩ : S46) [.int .i64 0, .int .i64 2, .string (⟨#[112]⟩ : ByteArray), .string (⟨#[]⟩ : ByteArray), .string (⟨#[]⟩ : ByteArray), .slice none 0 0] from (k46_mkF _ _ (⟨0, 2, (⟨#[112]⟩ : ByteArray), (⟨#[]⟩ : ByteArray), (⟨#[]⟩ : ByteArray), ([] : List (S48))⟩ : S46) (Nat.le_refl _) (Kd.F_nil _ _ _))) (Reps.c6 (show Kd.FK k46 _ _ (⟨0, 3, (⟨#[98]⟩ : ByteArray), (⟨#[]⟩ : ByteArray), (⟨#[]⟩ : ByteArray), ([] : List (S48))⟩ : S46) [.int .i64 0, .int .i64 3, .string (⟨#[98]⟩ : ByteArray), .string (⟨#[]⟩ : ByteArray), .string (⟨#[]⟩ : ByteArray), .slice none 0 0] from (k46_mkF _ _ (⟨0, 3, (⟨#[98]⟩ : ByteArray), (⟨#[]⟩ : ByteArray), (⟨#[]⟩ : ByteArray), ([] : List (S48))⟩ : S46) (Nat.le_refl _) (Kd.F_nil _ _ _))) (Reps.c6 (show Kd.FK k46 _ _ (⟨0, 1, (⟨#[98]⟩ : ByteArray), (⟨#[]⟩ : ByteArray), (⟨#[]⟩ : ByteArray), ([] : List (S48))⟩ : S46) [.int .i64 0, .int .i64 1, .string (⟨#[98]⟩ : ByteArray), .string (⟨#[]⟩ : ByteArray), .string (⟨#[]⟩ : ByteArray), .slice none 0 0] from (k46_mkF _ _ (⟨0, 1, (⟨#[98]⟩ : ByteArray), (⟨#[]⟩ : ByteArray), (⟨#[]⟩ : ByteArray), ([] : List (S48))⟩ : S46) (Nat.le_refl _) (Kd.F_nil _ _ _))) (Reps.none _ _))))))); intro v307 w61 ho62 hb hg_ hnew_; clear hg_ hnew_; (first | rw [← Ny306.out] at ho62 | (simp only [Int.reduceToNat] at ho62; rw [← Ny306.out] at ho62)); have n0_ := qa.mk (Kd.N_elder' zz31 (Kd.N_base ho62) hb); have n1_ := qa.mk (Kd.N_lower ho62 (ql zz24)); have n2_ := qa.mk (qm zz24 hb); clear HO301; clear HB; clear HO305; have HO301 := n0_; have HO308 := n1_; have HB := n2_; clear n0_ n1_ n2_; clear hb ho62; obtain ⟨Ao63, co63, eo63⟩ := Kd.N_slice HO301.out; subst eo63) | ((with_reducible refine qv (f := 14) rfl ?_); refine qob (some 20) rfl rfl Tryd.func14 (by kernel_rfl) rfl #[.slice Ao63 t299.length co63] rfl zz56 ?_; (with_reducible refine (query_Print.calls _ _ t299 t309 t310 _ ?side1 ?side2 ?side3 A2.out).mono ?_); (case side1 => exact zz52); (case side2 => exact zz85); (case side3 => exact (Kd.N_reads' HO301.out).2.1); rintro e w64 ⟨rfl, hb⟩; refine ⟨_, rfl, ?_⟩; have n0_ := qa.mk (Kd.N_below zz31 hb); have n1_ := qa.mk (Kd.N_below zz32 hb); have n2_ := qa.mk (qm zz24 hb); clear HO301; clear HO308; clear HB; have HO301 := n0_; have HO308 := n1_; have HB := n2_; clear n0_ n1_ n2_; (try clear hb); (try clear hb2); (try clear hk); (try clear hi)))
  go_ret
  exact ⟨zz65, zz24⟩
end Go.Proofs.YtjbobecnlpiejaaDoor.Q
namespace Go.Proofs.YtjbobecnlpiejaaDoor.Q.P
open Go.Proofs.YtjbobecnlpiejaaDoorZ
open Go.RowKit Go.Proofs.YtjbobecnlpiejaaDoorW.PrintWords Go.Proofs.YtjbobecnlpiejaaDoorW.PrintLast Go.Proofs.YtjbobecnlpiejaaDoorW.PrintMore
structure MoreYes (k : Nat) (l : List S41) (c : S33) (rows : List S46) (al x y : List Int) : Prop where
 fall : qu.f k l rows = some al
 fmore : qu.f k (moreL c l) rows = some x
 fwide : qu.f k (l.map wideP) rows = some y
 hx : ∀ v, v ∈ x → qzb.f k al v = some true
 hy : ∀ v, v ∈ al → qzb.f k y v = some true
 len : l.length ≤ 200
 conds : ∀ p, p ∈ l → p.f4.length ≤ 200
 lx : x.length ≤ 101
 la : al.length ≤ 101
def QMFacts (k : Nat) (l : List S41) (c : S33) (rows : List S46) : Prop :=
 qcc.f k = some true ∧ (qw.f k l = some false ∨ qw.f k l = some true ∧ (qbb.f k rows 100 = some false ∨ qbb.f k rows 100 = some true ∧ (l.length = 0 ∨ 0 < l.length ∧ (2000 < c.f0.size + c.f1.size ∨ c.f0.size + c.f1.size ≤ 2000 ∧ ∃ al x y, MoreYes k l c rows al x y))))
theorem moreL_len (c : S33) : ∀ l, (moreL c l).length = l.length
 | [] => rfl
 | [p] => rfl
 | p :: q :: r => by rw [moreL, List.length_cons, moreL_len c (q :: r)]; rfl
theorem moreL_get (c : S33) : ∀ (l : List S41) (i : Nat) (h : i < l.length), (moreL c l)[i]? = some (if i + 1 = l.length then moreP l[i] c else l[i])
 | [p], 0, _ => rfl
 | p :: q :: r, 0, _ => by rw [moreL, if_neg (by simp)]; rfl
 | p :: q :: r, i + 1, h => by
  rw [moreL, List.getElem?_cons_succ, moreL_get c (q :: r) i (by simpa using h)]
  simp
theorem take_snoc {α : Type} {l : List α} {i : Nat} {x : α} (h : l[i]? = some x) : l.take (i + 1) = l.take i ++ [x] := by
 rw [List.take_add_one, h]; rfl
theorem info_Cond : (Tryd.prog.info? 33).map (fun i => (i.zero, i.size, i.bytes)) = some (some (.agg #[(.string ⟨#[]⟩), (.string ⟨#[]⟩), (.bool false)]), 3, 40) := by kernel_rfl
theorem rd_mem (x : List Int) (i : Nat) (h : i < x.length) : rd x (i : Int) ∈ x := by
 unfold rd
 rw [Int.toNat_natCast, List.getD_eq_getElem?_getD, List.getElem?_eq_getElem h]
 exact List.getElem_mem _
theorem below_more {b : Nat} {w w1 : World} (h : Below b w w1) (n : Nat) : Below b w (w1.drewN n) := qb h n
set_option maxHeartbeats 4000000 in
set_option maxRecDepth 100000 in
theorem QueryMore_main (k : Nat) (A0 : Option Addr) (c0 : Nat) (l0 : List S41) (c : S33) (A2 : Option Addr) (c2 : Nat) (l2 : List S46) (w : World) (hG : Glob w) (hr0 : Kd.C k41 w A0 l0.length l0) (hc0 : l0.length ≤ c0) (hr2 : Kd.C k46 w A2 l2.length l2) (hc2 : l2.length ≤ c2) (hsame : qcc.f k = some true) (hf : qw.f k l0 = some true) (hr : qbb.f k l2 100 = some true) (hl : 0 < l0.length) (hs : c.f0.size + c.f1.size ≤ 2000) (al x y : List Int) (h : MoreYes k l0 c l2 al x y) :
  Calls Tryd.prog 4 #[.slice A0 l0.length c0, .agg #[.string c.f0, .string c.f1, .bool c.f2], .slice A2 l2.length c2] w fun e w' => e = .returned (.bool true) ∧ Below w.heap.size w w' := by
 have hu41 := Tryd.underlying41
 have hu33 := Tryd.underlying33
 have HS := qa.mk hsame
 have HF := qa.mk hf
 have HFR := qa.mk hr
 have HP := qa.mk h
 clear hsame hf hr h
 have hb0 : Below w.heap.size w (w.alloc (.cells #[.string c.f0, .string c.f1, .bool c.f2] 33)) := qc (Below.refl _ _) _
 have HG := qa.mk (Glob.below hG hb0)
 have HR0 := qa.mk (And.intro (Kd.C_below hr0 hb0) hc0)
 have HR2 := qa.mk (And.intro (Kd.C_below hr2 hb0) hc2)
 have HBX := qa.mk (blk_new w (.cells #[.string c.f0, .string c.f1, .bool c.f2] 33))
 have HB0 := qa.mk hb0
 clear hG hr0 hc0 hr2 hc2 hb0
 have he : ((l0.length : Int) == 0) = false := by rw [beq_eq_false_iff_ne]; omega
 have hw : IntKind.i64.wrap ((c.f0.size : Int) + (c.f1.size : Int)) = (c.f0.size : Int) + (c.f1.size : Int) := by rw [IntKind.wrap_i64]; omega
 have hgt : decide ((2000 : Int) < (c.f0.size : Int) + (c.f1.size : Int)) = false := decide_eq_false (by omega)
 go_enter Tryd.func4, Tryd.ntmps4
 go_upto_region 1 with fail
 generalize w.alloc (.cells #[.string c.f0, .string c.f1, .bool c.f2] 33) = w1 at *
 have hq0 := qg HBX.out 0
 have hq1 := qg HBX.out 1
 go_upto_region 4 with (first
   | (go_at_call 10; refine (qw.calls k _ _ l0 true _ HR0.out.1 HR0.out.2 HF.out).mono ?_; rintro e w2 ⟨rfl, ⟨nd, rfl⟩⟩; have HB2 := qa.mk (qb (Below.refl w1.heap.size w1) nd))
   | (go_at_call 11; refine (qbb.calls k _ _ l2 100 true _ (Kd.C_below HR2.out.1 HB2.out) HR2.out.2 HFR.out).mono ?_; rintro e w3 ⟨rfl, ⟨nd3, rfl⟩⟩; have HB3 := qa.mk (qb (Below.refl w1.heap.size w1) (nd + nd3)))
   | (go_at_call 12; refine (qu.calls k _ _ l0 _ _ l2 al _ (Kd.C_below HR0.out.1 HB3.out) HR0.out.2 (Kd.C_below HR2.out.1 HB3.out) HR2.out.2 HP.out.fall).mono ?_; rintro e w5 ⟨v7, rfl, hv7, hb5⟩; obtain ⟨A7, c7, rfl, hc7, hr7⟩ := Kd.R_reads hv7; have HB5 := qa.mk (qm HB3.out hb5); have HA7 := qa.mk (And.intro hr7 hc7); clear hv7 hb5 hr7 hc7))
 have HRP := qa.mk (And.intro (Kd.C_below HR0.out.1 HB5.out) HR0.out.2)
 have HRR := qa.mk (And.intro (Kd.C_below HR2.out.1 HB5.out) HR2.out.2)
 have HBC := qa.mk (qjb HBX.out HB5.out)
 have HQC : qa (w5.cell? ⟨w.heap.size, 0, none⟩ = some (.string c.f0) ∧ w5.cell? ⟨w.heap.size, 1, none⟩ = some (.string c.f1) ∧ w5.cell? ⟨w.heap.size, 2, none⟩ = some (.bool c.f2)) := ⟨qg HBC.out 0, qg HBC.out 1, qg HBC.out 2⟩
 have HBE := qa.mk (qm HB0.out HB5.out)
 have HGE := qa.mk (Glob.below HG.out HB5.out)
 clear HB2 HB3 hq0 hq1 HBX HR0 HR2 HB0 HG HF HFR HB5 hw hgt he
 go_wp2_with fail
 go_loopg [8, 9, 47] (l0.length + 1) (fun kq v8 v9 v47 w' => ∃ i : Nat, v47 = .int .i64 (i : Int) ∧ qa (i ≤ l0.length ∧ kq = l0.length + 1 - i) ∧ qa (Kd.N k41 41 w' w5.heap.size (fun k_ => True ∧ some k_ ≠ v9.ownBlock) v8 ((moreL c l0).take i)) ∧ qa (Kd.N k41 41 w' w5.heap.size (fun k_ => True ∧ some k_ ≠ v8.ownBlock) v9 ((l0.map wideP).take i)) ∧ qa (Below w5.heap.size w5 w'))
 case atStart => exact ⟨0, rfl, ⟨Nat.zero_le _, rfl⟩, ⟨Kd.N_nil _ _ _ _ _⟩, ⟨Kd.N_nil _ _ _ _ _⟩, ⟨Below.refl _ _⟩⟩
 case round =>
  obtain ⟨i, rfl, HK, HN8, HN9, HB⟩ := hrel
  obtain ⟨hk1, hk2⟩ := HK.out
  clear HK
  subst hk2
  by_cases hi : i < l0.length
  ·obtain ⟨ad, A4, c4, e, hx0, hx1, hx2, hx3, hx4, hl4, hr4⟩ := at_T41 HRP.out.1 (i : Int) (by omega) (by omega)
   cases e
   rw [Int.toNat_natCast] at hx0 hx1 hx2 hx3 hx4
   have HM := qa.mk (take_snoc (moreL_get c l0 i hi))
   have HWD := qa.mk (take_snoc (show (l0.map wideP)[i]? = some (wideP l0[i]) by rw [List.getElem?_map, List.getElem?_eq_getElem hi]; rfl))
   have hpc := HP.out.conds l0[i] (List.getElem_mem _)
   rw [rdP l0 i hi] at hx0 hx1 hx2 hx3 hx4 hl4 hr4
   generalize l0[i] = p at *
   obtain ⟨p0, p1, p2, p3, p4⟩ := p
   dsimp only at *
   have HC4 := qa.mk hr4
   have hF4 := Kd.C_F k33_heap hr4
   have HFP : qa (Kd.FK k41 w5 (fun k_ => k_ < w5.heap.size) (⟨p0, p1, p2, p3, p4⟩ : S41) [.bool p0, .bool p1, .string p2, .string p3, .slice A4 p4.length c4]) := ⟨k41_mkF w5 _ (⟨p0, p1, p2, p3, p4⟩ : S41) hl4 hF4⟩
   have HFW : qa (Kd.FK k41 w5 (fun k_ => k_ < w5.heap.size) (⟨false, p1, p2, p3, p4⟩ : S41) [.bool false, .bool p1, .string p2, .string p3, .slice A4 p4.length c4]) := ⟨k41_mkF w5 _ (⟨false, p1, p2, p3, p4⟩ : S41) hl4 hF4⟩
   have HY := qa.mk (And.intro hx0 (And.intro hx1 (And.intro hx2 (And.intro hx3 hx4))))
   clear hF4 hl4 hr4
   replace hx0 := (HB.out.cell (qic w5 _ hx0)).trans hx0
   replace hx1 := (HB.out.cell (qic w5 _ hx1)).trans hx1
   replace hx2 := (HB.out.cell (qic w5 _ hx2)).trans hx2
   replace hx3 := (HB.out.cell (qic w5 _ hx3)).trans hx3
   replace hx4 := (HB.out.cell (qic w5 _ hx4)).trans hx4
   have hi2 : (i : Int) < (l0.length : Int) := by omega
   go_upto_region 10 with fail
   have hba : Below wr.heap.size wr (wr.alloc (.cells #[.bool p0, .bool p1, .string p2, .string p3, .slice A4 p4.length c4] 41)) := qc (Below.refl _ _) _
   have HK1 := qa.mk (blk_new wr (.cells #[.bool p0, .bool p1, .string p2, .string p3, .slice A4 p4.length c4] 41))
   have HB1 := qa.mk (qm HB.out hba)
   have HN81 := qa.mk (Kd.N_below (Kd.N_elderB HN8.out wr.heap.size (Nat.le_refl _)) hba)
   have HN91 := qa.mk (Kd.N_below (Kd.N_elderB HN9.out wr.heap.size (Nat.le_refl _)) hba)
   have HG1 : qa (w5.heap.size ≤ wr.heap.size) := ⟨HB.out.size⟩
   clear hba HB HN8 HN9 hx0 hx1 hx2 hx3 hx4
   generalize wr.alloc (.cells #[.bool p0, .bool p1, .string p2, .string p3, .slice A4 p4.length c4] 41) = W1 at *
   generalize wr.heap.size = g1 at *
   have hz0 : _ = some (Value.bool p0) := qg HK1.out 0
   have hf0 := qf HK1.out 0
   go_upto_region 11 with fail
   have HK2 : qa ((W1.setCell ⟨g1, 0, none⟩ (.bool false)).heap[g1]? = some (.cells #[.bool false, .bool p1, .string p2, .string p3, .slice A4 p4.length c4] 41 (0, 0))) := ⟨qq HK1.out 0 (.bool false) rfl⟩
   have HB2 : qa (Below w5.heap.size w5 (W1.setCell ⟨g1, 0, none⟩ (.bool false))) := ⟨qj HB1.out HG1.out⟩
   have HN82 := qa.mk (Kd.N_mono (Kd.N_far (p := ⟨g1, 0, none⟩) HN81.out (fun _ hk => hk.2) (.bool false)) (fun _ hk => hk.1))
   have HN92 := qa.mk (Kd.N_mono (Kd.N_far (p := ⟨g1, 0, none⟩) HN91.out (fun _ hk => hk.2) (.bool false)) (fun _ hk => hk.1))
   clear HK1 HB1 HN81 HN91 hz0 hf0
   generalize W1.setCell ⟨g1, 0, none⟩ (.bool false) = W2 at *
   have hz0 : _ = some (Value.bool false) := qg HK2.out 0
   have hz1 : _ = some (Value.bool p1) := qg HK2.out 1
   have hz2 : _ = some (Value.string p2) := qg HK2.out 2
   have hz3 : _ = some (Value.string p3) := qg HK2.out 3
   have hz4 : _ = some (Value.slice A4 p4.length c4) := qg HK2.out 4
   have HFW2 := qa.mk (Kd.FK_below HFW.out HB2.out)
   have HOK : qa (∀ k_ : Nat, k_ < w5.heap.size → (True ∧ some k_ ≠ u8.ownBlock) ∧ some k_ ≠ u9.ownBlock) := ⟨fun k_ hk => ⟨⟨trivial, fun e => by have := Kd.N_base HN82.out k_ e.symm; omega⟩, fun e => by have := Kd.N_base HN92.out k_ e.symm; omega⟩⟩
   have HFR : qa (∀ k_ : Nat, W2.heap.size ≤ k_ → True ∧ some k_ ≠ u8.ownBlock) := ⟨fun k_ hk => ⟨trivial, fun e => by have := Kd.N_lt HN82.out k_ e.symm; omega⟩⟩
   have HLW : qa (((l0.map wideP).take i).length + 1 ≤ 1000) := ⟨by have := HP.out.len; rw [List.length_take, List.length_map]; omega⟩
   go_upto_region 12 with (first | ((with_reducible refine gate_builtin (b := .append) (xs := #[.tmp 55, .tmp 57]) rfl ?_); at_builtin; refine Kd.N_append k41 (w0 := w5) w5.heap.size rfl (.tmp 55) (.tmp 57) 23 41 (.agg #[(.bool false), (.bool false), (.string ⟨#[]⟩), (.string ⟨#[]⟩), (.slice none 0 0)]) 64 rfl Tryd.underlying23 info41 rfl (by decide) (by omega) u9 ((l0.map wideP).take i) (⟨false, p1, p2, p3, p4⟩ : S41) [.bool false, .bool p1, .string p2, .string p3, .slice A4 p4.length c4] (fun k_ => True ∧ some k_ ≠ u8.ownBlock) (fun k_ => k_ < w5.heap.size) rfl zz5 HFW2.out HOK.out HFR.out HN92.out HB2.out HB2.out.size (by have := HLW.out; omega) ?_; intro v9 w6 ho hb hg hat; have HN93 := qa.mk ho; have HN83 := qa.mk (Kd.N_after HN82.out hg hat); have HB3 := qa.mk hb; clear ho hb hg hat))
   clear hz0 hz1 hz2 hz3 hz4 HFW2 HOK HFR HLW HK2 HB2 HN82 HN92
   have hx0 := (HB3.out.cell (qic w5 _ HY.out.1)).trans HY.out.1
   have hx1 := (HB3.out.cell (qic w5 _ HY.out.2.1)).trans HY.out.2.1
   have hx2 := (HB3.out.cell (qic w5 _ HY.out.2.2.1)).trans HY.out.2.2.1
   have hx3 := (HB3.out.cell (qic w5 _ HY.out.2.2.2.1)).trans HY.out.2.2.2.1
   have hx4 := (HB3.out.cell (qic w5 _ HY.out.2.2.2.2)).trans HY.out.2.2.2.2
   go_upto_region 13 with fail
   have hba : Below w6.heap.size w6 (w6.alloc (.cells #[.bool p0, .bool p1, .string p2, .string p3, .slice A4 p4.length c4] 41)) := qc (Below.refl _ _) _
   have HK4 := qa.mk (blk_new w6 (.cells #[.bool p0, .bool p1, .string p2, .string p3, .slice A4 p4.length c4] 41))
   have HB4 := qa.mk (qm HB3.out hba)
   have HN84 := qa.mk (Kd.N_below (Kd.N_bound HN83.out) hba)
   have HN94 := qa.mk (Kd.N_below (Kd.N_bound HN93.out) hba)
   have HG2 : qa (w5.heap.size ≤ w6.heap.size) := ⟨HB3.out.size⟩
   clear hba HB3 HN83 HN93 hx0 hx1 hx2 hx3 hx4
   generalize w6.alloc (.cells #[.bool p0, .bool p1, .string p2, .string p3, .slice A4 p4.length c4] 41) = W4 at *
   generalize w6.heap.size = g2 at *
   have hw1 : IntKind.i64.wrap ((l0.length : Int) - 1) = (l0.length : Int) - 1 := by rw [IntKind.wrap_i64]; have := HP.out.len; omega
   have hz0 : _ = some (Value.bool p0) := qg HK4.out 0
   have hz1 : _ = some (Value.bool p1) := qg HK4.out 1
   have hz2 : _ = some (Value.string p2) := qg HK4.out 2
   have hz3 : _ = some (Value.string p3) := qg HK4.out 3
   have hz4 : _ = some (Value.slice A4 p4.length c4) := qg HK4.out 4
   have HLM : qa (((moreL c l0).take i).length + 1 ≤ 1000) := ⟨by have := HP.out.len; rw [List.length_take, moreL_len]; omega⟩
   by_cases hlast : i + 1 = l0.length
   ·have hq : ((i : Int) == (l0.length : Int) - 1) = true := by rw [beq_iff_eq]; omega
    have HC5 := qa.mk (Kd.C_below HC4.out HB4.out)
    go_upto_region 16 with (first | ((with_reducible refine gate_builtin (b := .append) (xs := #[.tmp 68, .tmp 70]) rfl ?_); at_builtin; refine Kd.R_append_rows k33 (w0 := w5) w5.heap.size rfl (.tmp 68) (.tmp 70) 39 33 (.agg #[(.string ⟨#[]⟩), (.string ⟨#[]⟩), (.bool false)]) 40 rfl Tryd.underlying39 info_Cond rfl (by decide) (by omega) (.slice none 0 0) ([] : List S33) p4 A4 p4.length c4 (fun _ => True) (fun _ => False) rfl zz5 (Kd.R_nil _ _ _ _ _) HC5.out (fun _ _ h => h) (fun _ h => h.elim) (fun _ _ => trivial) HB4.out HB4.out.size (by simp; omega) ?_; intro v13 w7 ho hb hg hat; rw [List.nil_append] at ho; have HO13 := qa.mk ho; have HK7 := qa.mk (blk_grown HK4.out hg (by simp [Value.ownBlock])); have HN87 := qa.mk (Kd.N_grown HN84.out hg (fun _ _ => by simp [Value.ownBlock])); have HN97 := qa.mk (Kd.N_grown HN94.out hg (fun _ _ => by simp [Value.ownBlock])); have HA13 : qa (∀ k_ : Nat, v13.ownBlock = some k_ → g2 < k_) := ⟨fun k_ hk => hat.elim (fun hat => by rw [hat] at hk; simp [Value.ownBlock] at hk) (fun ⟨b, hat, hle⟩ => by rw [hat] at hk; injection hk with hk; have := blk_lt HK4.out; omega)⟩; have HB7 := qa.mk hb; clear ho hb hg hat))
    have hy0 := (HB7.out.cell (qic w5 _ HQC.out.1)).trans HQC.out.1
    have hy1 := (HB7.out.cell (qic w5 _ HQC.out.2.1)).trans HQC.out.2.1
    have hy2 := (HB7.out.cell (qic w5 _ HQC.out.2.2)).trans HQC.out.2.2
    clear hz0 hz1 hz2 hz3 hz4 HC5
    go_upto_region 17 with (first | ((with_reducible refine gate_builtin (b := .append) (xs := #[.tmp 72, .tmp 74]) rfl ?_); at_builtin; refine Kd.R_append k33 (w0 := w5) w5.heap.size rfl (.tmp 72) (.tmp 74) 39 33 (.agg #[(.string ⟨#[]⟩), (.string ⟨#[]⟩), (.bool false)]) 40 rfl Tryd.underlying39 info_Cond rfl (by decide) (by omega) v13 p4 c [.string c.f0, .string c.f1, .bool c.f2] (fun _ => True) (fun _ => False) rfl zz5 (k33_mkM _ _ _ c) (fun _ h => h.elim) (fun _ _ => trivial) HO13.out HB7.out HB7.out.size (by omega) ?_; intro v14 w8 ho hb hg hat; have HO14 := qa.mk ho; have HK8 := qa.mk (blk_grown HK7.out hg (fun e => absurd (HA13.out _ e.symm) (Nat.lt_irrefl _))); have HN88 := qa.mk (Kd.N_grown HN87.out hg (fun k_ hk e => absurd (HA13.out _ e.symm) (by have := hk.2; omega))); have HN98 := qa.mk (Kd.N_grown HN97.out hg (fun k_ hk e => absurd (HA13.out _ e.symm) (by have := hk.2; omega))); have HA14 : qa (∀ k_ : Nat, v14.ownBlock = some k_ → g2 < k_) := ⟨fun k_ hk => hat.elim (fun hat => HA13.out _ (hat ▸ hk)) (fun ⟨b, hat, hle⟩ => by rw [hat] at hk; injection hk with hk; have := blk_lt HK7.out; omega)⟩; have HB8 := qa.mk hb; clear ho hb hg hat))
    have hlen : (p4 ++ [c]).length = p4.length + 1 := by simp
    obtain ⟨Ac, cc, ec⟩ := Kd.R_slice HO14.out
    rw [hlen] at ec
    subst ec
    have hy4 := qg HK8.out 4
    have hf4 := qf HK8.out 4
    clear HK7 HN87 HN97 HA13 HB7 HO13 hy0 hy1 hy2
    go_upto_region 18 with fail
    have HK9 : qa ((w8.setCell ⟨g2, 4, none⟩ (.slice Ac (p4.length + 1) cc)).heap[g2]? = some (.cells #[.bool p0, .bool p1, .string p2, .string p3, .slice Ac (p4.length + 1) cc] 41 (0, 0))) := ⟨qq HK8.out 4 (.slice Ac (p4.length + 1) cc) rfl⟩
    have HB9 : qa (Below w5.heap.size w5 (w8.setCell ⟨g2, 4, none⟩ (.slice Ac (p4.length + 1) cc))) := ⟨qj HB8.out HG2.out⟩
    have HN89 := qa.mk (Kd.N_far (p := ⟨g2, 4, none⟩) HN88.out (fun k_ hk => qkc hk.2) (.slice Ac (p4.length + 1) cc))
    have HN99 := qa.mk (Kd.N_far (p := ⟨g2, 4, none⟩) HN98.out (fun k_ hk => qkc hk.2) (.slice Ac (p4.length + 1) cc))
    have HO15 := qa.mk (Kd.R_tight rfl (Kd.R_far (p := ⟨g2, 4, none⟩) (Kd.R_types HO14.out HK8.out (by decide)) (fun _ hk => hk.2) (.slice Ac (p4.length + 1) cc)))
    clear HK8 HB8 HN88 HN98 HO14 hy4 hf4 HK4 HB4 HN84 HN94
    generalize w8.setCell ⟨g2, 4, none⟩ (.slice Ac (p4.length + 1) cc) = W9 at *
    have hz0 : _ = some (Value.bool p0) := qg HK9.out 0
    have hz1 : _ = some (Value.bool p1) := qg HK9.out 1
    have hz2 : _ = some (Value.string p2) := qg HK9.out 2
    have hz3 : _ = some (Value.string p3) := qg HK9.out 3
    have hz4 : _ = some (Value.slice Ac (p4.length + 1) cc) := qg HK9.out 4
    have hFM := k41_mkF W9 (fun k_ => some k_ = (Value.slice Ac (p4.length + 1) cc).ownBlock) (⟨p0, p1, p2, p3, p4 ++ [c]⟩ : S41) (A4 := Ac) (c4 := cc) (by dsimp only; rw [hlen]; exact (Kd.R_reads' HO15.out).2.1) (by dsimp only; rw [hlen]; exact Kd.R_F HO15.out)
    dsimp only at hFM
    rw [hlen] at hFM
    have HFM : qa (Kd.FK k41 W9 (fun k_ => some k_ = (Value.slice Ac (p4.length + 1) cc).ownBlock) (⟨p0, p1, p2, p3, p4 ++ [c]⟩ : S41) [.bool p0, .bool p1, .string p2, .string p3, .slice Ac (p4.length + 1) cc]) := ⟨hFM⟩
    clear hFM
    have HOK : qa (∀ k_ : Nat, some k_ = (Value.slice Ac (p4.length + 1) cc).ownBlock → (True ∧ some k_ ≠ v9.ownBlock) ∧ some k_ ≠ u8.ownBlock) := ⟨fun k_ hk => ⟨⟨trivial, fun e => by have h1 := (HN99.out.1 k_ e.symm).2; have h2 := HA14.out k_ hk.symm; omega⟩, fun e => by have h1 := (HN89.out.1 k_ e.symm).2; have h2 := HA14.out k_ hk.symm; omega⟩⟩
    have HFR : qa (∀ k_ : Nat, W9.heap.size ≤ k_ → True ∧ some k_ ≠ v9.ownBlock) := ⟨fun k_ hk => ⟨trivial, fun e => by have := Kd.N_lt HN99.out k_ e.symm; omega⟩⟩
    have HN8z := qa.mk (Kd.N_mono (ok' := fun k_ => True ∧ some k_ ≠ v9.ownBlock) HN89.out (fun _ hk => hk.1))
    have HN9z := qa.mk (Kd.N_mono (ok' := fun k_ => True ∧ some k_ ≠ u8.ownBlock) HN99.out (fun _ hk => hk.1))
    go_upto_region 19 with (first | ((with_reducible refine gate_builtin (b := .append) (xs := #[.tmp 78, .tmp 80]) rfl ?_); at_builtin; refine Kd.N_append k41 (w0 := w5) w5.heap.size rfl (.tmp 78) (.tmp 80) 23 41 (.agg #[(.bool false), (.bool false), (.string ⟨#[]⟩), (.string ⟨#[]⟩), (.slice none 0 0)]) 64 rfl Tryd.underlying23 info41 rfl (by decide) (by omega) u8 ((moreL c l0).take i) (⟨p0, p1, p2, p3, p4 ++ [c]⟩ : S41) [.bool p0, .bool p1, .string p2, .string p3, .slice Ac (p4.length + 1) cc] (fun k_ => True ∧ some k_ ≠ v9.ownBlock) (fun k_ => some k_ = (Value.slice Ac (p4.length + 1) cc).ownBlock) rfl zz5 HFM.out HOK.out HFR.out HN8z.out HB9.out HB9.out.size (by have := HLM.out; omega) ?_; intro v8 wz ho hb hg hat; have HN8y := qa.mk ho; have HN9y := qa.mk (Kd.N_after HN9z.out hg hat); have HBy := qa.mk hb; clear ho hb hg hat))
    have hn := HP.out.len
    go_wp2_with fail
    go_roundg (l0.length + 1 - (i + 1))
    case measure => omega
    case rel => exact ⟨i + 1, by go_num, ⟨by omega, rfl⟩, ⟨by rw [HM.out, if_pos hlast]; exact HN8y.out⟩, ⟨by rw [HWD.out]; exact HN9y.out⟩, HBy⟩
   ·have hq : ((i : Int) == (l0.length : Int) - 1) = false := by rw [beq_eq_false_iff_ne]; omega
    have HFM := qa.mk (Kd.FK_below HFP.out HB4.out)
    have HOK : qa (∀ k_ : Nat, k_ < w5.heap.size → (True ∧ some k_ ≠ v9.ownBlock) ∧ some k_ ≠ u8.ownBlock) := ⟨fun k_ hk => ⟨⟨trivial, fun e => by have := Kd.N_base HN94.out k_ e.symm; omega⟩, fun e => by have := Kd.N_base HN84.out k_ e.symm; omega⟩⟩
    have HFR : qa (∀ k_ : Nat, W4.heap.size ≤ k_ → True ∧ some k_ ≠ v9.ownBlock) := ⟨fun k_ hk => ⟨trivial, fun e => by have := Kd.N_lt HN94.out k_ e.symm; omega⟩⟩
    have HN8z := qa.mk (Kd.N_mono (ok' := fun k_ => True ∧ some k_ ≠ v9.ownBlock) HN84.out (fun _ hk => hk.1))
    have HN9z := qa.mk (Kd.N_mono (ok' := fun k_ => True ∧ some k_ ≠ u8.ownBlock) HN94.out (fun _ hk => hk.1))
    go_upto_region 19 with (first | ((with_reducible refine gate_builtin (b := .append) (xs := #[.tmp 78, .tmp 80]) rfl ?_); at_builtin; refine Kd.N_append k41 (w0 := w5) w5.heap.size rfl (.tmp 78) (.tmp 80) 23 41 (.agg #[(.bool false), (.bool false), (.string ⟨#[]⟩), (.string ⟨#[]⟩), (.slice none 0 0)]) 64 rfl Tryd.underlying23 info41 rfl (by decide) (by omega) u8 ((moreL c l0).take i) (⟨p0, p1, p2, p3, p4⟩ : S41) [.bool p0, .bool p1, .string p2, .string p3, .slice A4 p4.length c4] (fun k_ => True ∧ some k_ ≠ v9.ownBlock) (fun k_ => k_ < w5.heap.size) rfl zz5 HFM.out HOK.out HFR.out HN8z.out HB4.out HB4.out.size (by have := HLM.out; omega) ?_; intro v8 wz ho hb hg hat; have HN8y := qa.mk ho; have HN9y := qa.mk (Kd.N_after HN9z.out hg hat); have HBy := qa.mk hb; clear ho hb hg hat))
    have hn := HP.out.len
    go_wp2_with fail
    go_roundg (l0.length + 1 - (i + 1))
    case measure => omega
    case rel => exact ⟨i + 1, by go_num, ⟨by omega, rfl⟩, ⟨by rw [HM.out, if_neg hlast]; exact HN8y.out⟩, ⟨by rw [HWD.out]; exact HN9y.out⟩, HBy⟩
  ·obtain rfl : i = l0.length := by omega
   have n8 := HN8.out
   have n9 := HN9.out
   rw [List.take_of_length_le (Nat.le_of_eq (moreL_len c l0))] at n8
   rw [List.take_of_length_le (Nat.le_of_eq (List.length_map _))] at n9
   obtain ⟨A8, c8, e8, hc8, hr8⟩ := Kd.N_reads n8
   obtain ⟨A9, c9, e9, hc9, hr9⟩ := Kd.N_reads n9
   clear n8 n9 HN8 HN9
   subst e8 e9
   have HM8 := qa.mk (And.intro hr8 hc8)
   have HFM := qa.mk HP.out.fmore
   have HFW := qa.mk HP.out.fwide
   clear hr8 hc8
   generalize moreL c l0 = ml at *
   generalize l0.map wideP = wl at *
   have HW9 := qa.mk (And.intro hr9 hc9)
   clear hr9 hc9
   go_upto_region 21 with (first
    | (go_at_call 12; refine (qu.calls k _ _ ml _ _ l2 x _ HM8.out.1 HM8.out.2 (Kd.C_below HRR.out.1 HB.out) HRR.out.2 HFM.out).mono ?_; rintro e w6 ⟨v14, rfl, hv, hb⟩; obtain ⟨A14, c14, rfl, hc, hr⟩ := Kd.R_reads hv; have HX6 := qa.mk (And.intro hr hc); have HW6 := qa.mk (And.intro (Kd.C_below HW9.out.1 hb) HW9.out.2); have HB6 := qa.mk (qm HB.out hb); clear hv hb hr hc))
   have HA6 := qa.mk (And.intro (Kd.C_below HA7.out.1 HB6.out) HA7.out.2)
   clear HB HM8 HW9
   go_wp2_with fail
   go_loopg [88] (x.length + 1) (fun kq v88 w' => ∃ i : Nat, v88 = .int .i64 (i : Int) ∧ qa (i ≤ x.length ∧ kq = x.length + 1 - i) ∧ qa (Below w6.heap.size w6 w'))
   case atStart => exact ⟨0, rfl, ⟨Nat.zero_le _, rfl⟩, ⟨Below.refl _ _⟩⟩
   case round =>
    obtain ⟨i, rfl, HK, HB⟩ := hrel
    obtain ⟨hk1, hk2⟩ := HK.out
    clear HK
    subst hk2
    have hn := HP.out.lx
    by_cases hi : i < x.length
    ·obtain ⟨ad, e, hx⟩ := Kd.at_int HX6.out.1 (i : Int) (by omega) (by omega)
     cases e
     rw [Int.toNat_natCast] at hx
     replace hx := (HB.out.cell (qic w6 _ hx)).trans hx
     have HH := qa.mk (HP.out.hx _ (rd_mem x i hi))
     generalize rd x (i : Int) = v at *
     have hi2 : (i : Int) < (x.length : Int) := by omega
     go_wp2_with (first
      | (go_at_call 13; refine (qzb.calls k _ _ al v true _ (Kd.C_below HA6.out.1 HB.out) HA6.out.2 HH.out).mono ?_; rintro e w7 ⟨rfl, ⟨nd, rfl⟩⟩))
     go_roundg (x.length + 1 - (i + 1))
     case measure => omega
     case rel => exact ⟨i + 1, by go_num, ⟨by omega, rfl⟩, ⟨below_more HB.out _⟩⟩
    ·obtain rfl : i = x.length := by omega
     go_upto_region 28 with (first
      | (go_at_call 12; refine (qu.calls k _ _ wl _ _ l2 y _ (Kd.C_below HW6.out.1 HB.out) HW6.out.2 (Kd.C_below HRR.out.1 (qm HB6.out HB.out)) HRR.out.2 HFW.out).mono ?_; rintro e w8 ⟨v16, rfl, hv, hb⟩; obtain ⟨A16, c16, rfl, hc, hr⟩ := Kd.R_reads hv; have HY8 := qa.mk (And.intro hr hc); have HB8 := qa.mk (qm (qm HB6.out HB.out) hb); clear hv hb hr hc))
     have HA8 := qa.mk (And.intro (Kd.C_below HA7.out.1 HB8.out) HA7.out.2)
     clear HB HW6 HX6 HA6
     go_wp2_with fail
     go_loopg [104] (al.length + 1) (fun kq v104 w' => ∃ i : Nat, v104 = .int .i64 (i : Int) ∧ qa (i ≤ al.length ∧ kq = al.length + 1 - i) ∧ qa (Below w8.heap.size w8 w'))
     case atStart => exact ⟨0, rfl, ⟨Nat.zero_le _, rfl⟩, ⟨Below.refl _ _⟩⟩
     case round =>
      obtain ⟨i, rfl, HK, HB⟩ := hrel
      obtain ⟨hk1, hk2⟩ := HK.out
      clear HK
      subst hk2
      have hn2 := HP.out.la
      by_cases hi : i < al.length
      ·obtain ⟨ad, e, hx⟩ := Kd.at_int HA8.out.1 (i : Int) (by omega) (by omega)
       cases e
       rw [Int.toNat_natCast] at hx
       replace hx := (HB.out.cell (qic w8 _ hx)).trans hx
       have HH := qa.mk (HP.out.hy _ (rd_mem al i hi))
       generalize rd al (i : Int) = v at *
       have hi2 : (i : Int) < (al.length : Int) := by omega
       go_wp2_with (first
        | (go_at_call 13; refine (qzb.calls k _ _ y v true _ (Kd.C_below HY8.out.1 HB.out) HY8.out.2 HH.out).mono ?_; rintro e w7 ⟨rfl, ⟨nd, rfl⟩⟩))
       go_roundg (al.length + 1 - (i + 1))
       case measure => omega
       case rel => exact ⟨i + 1, by go_num, ⟨by omega, rfl⟩, ⟨below_more HB.out _⟩⟩
      ·obtain rfl : i = al.length := by omega
       go_wp2_with (first
        | (go_at_call 5; refine (qcc.calls k true _ (Glob.below HGE.out (qm HB8.out HB.out)) HS.out).mono ?_; rintro e w2 ⟨rfl, hb2⟩; have HBZ := qa.mk (qm (qm HB8.out HB.out) hb2)))
       go_ret
       exact ⟨rfl, qm HBE.out HBZ.out⟩
set_option maxHeartbeats 4000000 in
set_option maxRecDepth 100000 in
theorem QueryMore_calls (k : Nat) (A0 : Option Addr) (c0 : Nat) (l0 : List S41) (c : S33) (A2 : Option Addr) (c2 : Nat) (l2 : List S46) (w : World) (hG : Glob w) (hr0 : Kd.C k41 w A0 l0.length l0) (hc0 : l0.length ≤ c0) (hr2 : Kd.C k46 w A2 l2.length l2) (hc2 : l2.length ≤ c2) (hs0 : c.f0.size ≤ 140737488351232) (hs1 : c.f1.size ≤ 140737488351232) (h : QMFacts k l0 c l2) :
  Calls Tryd.prog 4 #[.slice A0 l0.length c0, .agg #[.string c.f0, .string c.f1, .bool c.f2], .slice A2 l2.length c2] w fun e w' => e = .returned (.bool true) ∧ Below w.heap.size w w' := by
 obtain ⟨hsame, h⟩ := h
 rcases h with hf | ⟨hf, hr | ⟨hr, hl | ⟨hl, hs | ⟨hs, al, x, y, h⟩⟩⟩⟩
 rotate_right
 ·exact QueryMore_main k A0 c0 l0 c A2 c2 l2 w hG hr0 hc0 hr2 hc2 hsame hf hr hl hs al x y h
 all_goals
  have hu41 := Tryd.underlying41
  have hu33 := Tryd.underlying33
  have HS := qa.mk hsame
  have HF := qa.mk hf
  clear hsame hf
  have hb0 : Below w.heap.size w (w.alloc (.cells #[.string c.f0, .string c.f1, .bool c.f2] 33)) := qc (Below.refl _ _) _
  have HG := qa.mk (Glob.below hG hb0)
  have HR0 := qa.mk (And.intro (Kd.C_below hr0 hb0) hc0)
  have HR2 := qa.mk (And.intro (Kd.C_below hr2 hb0) hc2)
  have HBX := qa.mk (blk_new w (.cells #[.string c.f0, .string c.f1, .bool c.f2] 33))
  have HB0 := qa.mk hb0
  clear hG hr0 hc0 hr2 hc2 hb0
  go_enter Tryd.func4, Tryd.ntmps4
  go_upto_region 1 with fail
  generalize w.alloc (.cells #[.string c.f0, .string c.f1, .bool c.f2] 33) = w1 at *
 ·go_wp2_with (first
   | (go_at_call 10; refine (qw.calls k _ _ l0 false _ HR0.out.1 HR0.out.2 HF.out).mono ?_; rintro e w2 ⟨rfl, ⟨nd, rfl⟩⟩)
   | (go_at_call 5; refine (qcc.calls k true _ (Glob.below HG.out (qb (Below.refl _ _) _)) HS.out).mono ?_; rintro e w2 ⟨rfl, hb2⟩))
  go_ret
  exact ⟨rfl, qm HB0.out (qm (qb (Below.refl _ _) _) hb2)⟩
 all_goals
  have HFR := qa.mk hr
  clear hr
 ·go_wp2_with (first
   | (go_at_call 10; refine (qw.calls k _ _ l0 true _ HR0.out.1 HR0.out.2 HF.out).mono ?_; rintro e w2 ⟨rfl, ⟨nd, rfl⟩⟩; have HB2 := qa.mk (qb (Below.refl w1.heap.size w1) nd))
   | (go_at_call 11; refine (qbb.calls k _ _ l2 100 false _ (Kd.C_below HR2.out.1 HB2.out) HR2.out.2 HFR.out).mono ?_; rintro e w3 ⟨rfl, ⟨nd3, rfl⟩⟩)
   | (go_at_call 5; refine (qcc.calls k true _ (Glob.below HG.out (qb (Below.refl _ _) _)) HS.out).mono ?_; rintro e w2 ⟨rfl, hb2⟩))
  go_ret
  exact ⟨rfl, qm HB0.out (qm (qb (Below.refl _ _) _) hb2)⟩
 ·obtain rfl : l0 = [] := List.eq_nil_of_length_eq_zero hl
  go_wp2_with (first
   | (go_at_call 10; refine (qw.calls k _ _ [] true _ HR0.out.1 HR0.out.2 HF.out).mono ?_; rintro e w2 ⟨rfl, ⟨nd, rfl⟩⟩; have HB2 := qa.mk (qb (Below.refl w1.heap.size w1) nd))
   | (go_at_call 11; refine (qbb.calls k _ _ l2 100 true _ (Kd.C_below HR2.out.1 HB2.out) HR2.out.2 HFR.out).mono ?_; rintro e w3 ⟨rfl, ⟨nd3, rfl⟩⟩)
   | (go_at_call 5; refine (qcc.calls k true _ (Glob.below HG.out (qb (Below.refl _ _) _)) HS.out).mono ?_; rintro e w2 ⟨rfl, hb2⟩))
  go_ret
  exact ⟨rfl, qm HB0.out (qm (qb (Below.refl _ _) _) hb2)⟩
 ·have he : ((l0.length : Int) == 0) = false := by rw [beq_eq_false_iff_ne]; omega
  have hw : IntKind.i64.wrap ((c.f0.size : Int) + (c.f1.size : Int)) = (c.f0.size : Int) + (c.f1.size : Int) := by rw [IntKind.wrap_i64]; omega
  have hgt : decide ((2000 : Int) < (c.f0.size : Int) + (c.f1.size : Int)) = true := decide_eq_true (by omega)
  have hq0 := qg HBX.out 0
  have hq1 := qg HBX.out 1
  go_wp2_with (first
   | (go_at_call 10; refine (qw.calls k _ _ l0 true _ HR0.out.1 HR0.out.2 HF.out).mono ?_; rintro e w2 ⟨rfl, ⟨nd, rfl⟩⟩; have HB2 := qa.mk (qb (Below.refl w1.heap.size w1) nd))
   | (go_at_call 11; refine (qbb.calls k _ _ l2 100 true _ (Kd.C_below HR2.out.1 HB2.out) HR2.out.2 HFR.out).mono ?_; rintro e w3 ⟨rfl, ⟨nd3, rfl⟩⟩)
   | (go_at_call 5; refine (qcc.calls k true _ (Glob.below HG.out (qb (Below.refl _ _) _)) HS.out).mono ?_; rintro e w2 ⟨rfl, hb2⟩))
  go_ret
  exact ⟨rfl, qm HB0.out (qm (qb (Below.refl _ _) _) hb2)⟩
theorem same_ok : qcc.f 80 = some true := by decide +kernel
theorem same_ev : Ev (fun k => qcc.f k) true := Ev.of (g := fun k => qcc.f k) (fun k => qcc.mono k) same_ok
theorem ev_all {g : Int → Nat → Option Bool} : ∀ (x : List Int), (∀ v, v ∈ x → Ev (g v) true) → ∃ K, ∀ k, K ≤ k → ∀ v, v ∈ x → g v k = some true
 | [], _ => ⟨0, fun _ _ _ h => by cases h⟩
 | a :: x, h => by
  obtain ⟨K, hK⟩ := ev_all x (fun v hv => h v (List.mem_cons_of_mem _ hv))
  obtain ⟨K2, hK2⟩ := h a (List.mem_cons_self ..)
  refine ⟨K + K2, fun k hk v hv => ?_⟩
  rcases List.mem_cons.1 hv with rfl | hv
  ·exact hK2 k (by omega)
  ·exact hK k (by omega) v hv
theorem ev_has (a x : List Int) (ha : a.length ≤ 101) (h : ∀ v, v ∈ x → v ∈ a) : ∃ K, ∀ k, K ≤ k → ∀ v, v ∈ x → qzb.f k a v = some true :=
 ev_all (g := fun v k => qzb.f k a v) x (fun v hv => by
  have := Has_spec a v (by omega)
  rw [decide_eq_true (h v hv)] at this
  exact this)
theorem qm_pure (l : List S41) (hl : l.length * 64 ≤ 140737488351232) (hB : ∀ p ∈ l, PB p) (c : S33) (rows : List S46) (hr : rows.length * 88 ≤ 140737488351232) (hR : ∀ p ∈ rows, RB p) : ∃ k, QMFacts k l c rows := by
 obtain ⟨K0, h0⟩ := same_ev
 obtain ⟨b, ⟨K1, h1⟩, hb⟩ := few_spec l hl hB
 cases b
 ·exact ⟨K0 + K1, h0 _ (by omega), .inl (h1 _ (by omega))⟩
 have hp := hb rfl
 obtain ⟨b2, ⟨K2, h2⟩, hb2⟩ := fewRows_spec rows hr hR
 cases b2
 ·exact ⟨K0 + K1 + K2, h0 _ (by omega), .inr ⟨h1 _ (by omega), .inl (h2 _ (by omega))⟩⟩
 obtain ⟨hr1, hr2⟩ := hb2 rfl
 rcases Nat.eq_zero_or_pos l.length with hl0 | hl0
 ·exact ⟨K0 + K1 + K2, h0 _ (by omega), .inr ⟨h1 _ (by omega), .inr ⟨h2 _ (by omega), .inl hl0⟩⟩⟩
 rcases Nat.lt_or_ge 2000 (c.f0.size + c.f1.size) with hs | hs
 ·exact ⟨K0 + K1 + K2, h0 _ (by omega), .inr ⟨h1 _ (by omega), .inr ⟨h2 _ (by omega), .inr ⟨hl0, .inl hs⟩⟩⟩⟩
 obtain ⟨e, he, hu⟩ := flat_total rows hr1 hr2
 obtain ⟨al, ha, ha1⟩ := find_total l rows hr1 hr2 e he hu
 obtain ⟨x, hx, hx1⟩ := find_total (moreL c l) rows hr1 hr2 e he hu
 obtain ⟨y, hy, hy1⟩ := find_total (l.map wideP) rows hr1 hr2 e he hu
 have s1 := find_two (asksL_more c l) (selOK_more c l) rows hr1 hr2 e he hu hx ha
 have s2 := find_two (asksL_wide l) (selOK_wide l) rows hr1 hr2 e he hu ha hy
 obtain ⟨K3, h3⟩ := ev_has al x ha1 s1
 obtain ⟨K4, h4⟩ := ev_has y al hy1 s2
 obtain ⟨K5, h5⟩ := ha
 obtain ⟨K6, h6⟩ := hx
 obtain ⟨K7, h7⟩ := hy
 refine ⟨K0 + K1 + K2 + K3 + K4 + K5 + K6 + K7, h0 _ (by omega), .inr ⟨h1 _ (by omega), .inr ⟨h2 _ (by omega), .inr ⟨hl0, .inr ⟨hs, al, x, y, ?_⟩⟩⟩⟩⟩
 exact
  {
   fall := h5 _ (by omega),
   fmore := h6 _ (by omega),
   fwide := h7 _ (by omega),
   hx := h3 _ (by omega),
   hy := h4 _ (by omega),
   len := Nat.le_trans (psum_len l) hp,
   conds := fun p hpm => Nat.le_trans (psum_conds l p hpm) hp,
   lx := hx1,
   la := ha1 }
end Go.Proofs.YtjbobecnlpiejaaDoor.Q.P
namespace Go.Proofs.YtjbobecnlpiejaaDoor.Q.P
open Go.Proofs.YtjbobecnlpiejaaDoorZ
open Go.RowKit Go.Proofs.YtjbobecnlpiejaaDoorW.PrintWords Go.Proofs.YtjbobecnlpiejaaDoorW.PrintLast Go.Proofs.YtjbobecnlpiejaaDoorW.PrintMore Go.ChangeShapes Go.WideShapes Go.ChangeAt
theorem open_Cond {H : Type} {enc : TypeId × Value → H} {W : World} {base : Nat} {sp : Nat → Bool} {held : Bool} {cs : Array Value} {d : DataW H} {ps : List MemPlace} (h : DataW.Trod enc Tryd.prog W base sp held 33 (.agg cs) d ps) (hs : Small 33 d) : ∃ c : S33, cs = #[.string c.f0, .string c.f1, .bool c.f2] ∧ c.f0.size ≤ 140737488351232 ∧ c.f1.size ≤ 140737488351232 := by
 obtain ⟨fuel, hf⟩ := h
 obtain ⟨c, hK, hB⟩ := opens_Cond _ _ _ hf hs
 have e := k33_open hK
 exact ⟨c, by rw [← Array.toList_inj]; exact e, hB⟩
theorem door_met (os : Os) (args : Array Value) : laidMetH Tryd.prog Rows.queryMoreRow.laid ((World.doorLaid Tryd.prog 400 os).forCall (fun _ _ => 0) ⟨#[], args, []⟩).memory :=
 laidMetH_of_parts3 (fuel := 8) (laidMet_of_run' 8 (by kernel_rfl) (by kernel_rfl)) (by kernel_rfl) (by kernel_rfl)
set_option maxRecDepth 100000 in
theorem more_lifted (os : Os) (started : os.Started) (H : Type) (enc : TypeId × Value → H) :
  ReturnsInHanded {} Tryd.checked os 4 .any (fun w args => (Rows.queryMoreSpec.pre enc Tryd.prog Tryd.f4 [] false w args ∧ laidMetH Tryd.prog Rows.queryMoreRow.laid w) ∧ sizedMet enc Tryd.prog Tryd.f4 (OpenSpec.ofChange Rows.queryMoreSpec) false w args)
   (Rows.queryMoreSpec.post enc Tryd.prog Tryd.f4 false true false false) := by
 refine returnsInHanded_of_change_and (C := Tryd.checked) (X := fun w _ => laidMetH Tryd.prog Rows.queryMoreRow.laid w) (fun _ _ _ hh h => h.of_heap hh) own started (by kernel_rfl) Tryd.func4
  (ChangeSpec.witness_shaped (enc := enc) (C := Tryd.checked) (os := os) (X := fun w _ => laidMetH Tryd.prog Rows.queryMoreRow.laid w) false (World.doorLaid Tryd.prog 400 os) #[.slice none 0 0, .agg #[.string ByteArray.empty, .string ByteArray.empty, .bool false], .slice none 0 0] 8 rfl (World.shaped_of_RefB (by kernel_rfl) (by kernel_rfl)) (by kernel_rfl) (by kernel_rfl) (by kernel_rfl) (door_met os _)) ?_
 intro W base args ds gs before hval0 hW _ hsz0 hL _
 have hsz : (DataW.weightsEach Tryd.prog (Tryd.f4.params.toList ++ Rows.queryMoreSpec.plain.varTypes Tryd.prog) (ds ++ gs)).all (· ≤ reachBytes) = true := hsz0
 have hval : ∀ (j : Nat) t v, Tryd.f4.params[j]? = some t → args[j]? = some v → Value.okWide Tryd.prog W .any base t v := hval0
 have hW' := hW
 obtain ⟨p, q, hA0, hV, rfl, hfz, hnd⟩ := hW
 have hA : DataW.TrodAll enc Tryd.prog W 0 (fun _ => true) true Tryd.f4.params.toList args.toList ds p := hA0
 rw [Tryd.params4] at hA hval hsz
 obtain ⟨v0, vs0, d0, ds0, p0, q0, hargs, rfl, rfl, h0, r0⟩ := trodAll_cons hA
 obtain ⟨v1, vs1, d1, ds1, p1, q1, rfl, rfl, rfl, h1, r1⟩ := trodAll_cons r0
 obtain ⟨v2, vs2, d2, ds2, p2, q2, rfl, rfl, rfl, h2, r2⟩ := trodAll_cons r1
 obtain ⟨rfl, rfl, rfl⟩ := trodAll_nil r2
 obtain rfl : args = #[v0, v1, v2] := by cases args; simp_all
 obtain ⟨rfl, rfl⟩ := trodVars_none hV
 obtain ⟨a0, len0, cap0, rfl⟩ := okWide_slice Tryd.underlying23 (hval 0 23 v0 rfl rfl)
 obtain ⟨cs1, rfl, hn1⟩ := okWide_struct Tryd.underlying33 (hval 1 33 v1 rfl rfl)
 obtain ⟨a2, len2, cap2, rfl⟩ := okWide_slice Tryd.underlying34 (hval 2 34 v2 rfl rfl)
 have k0 := h0
 have k1 := h1
 have k2 := h2
 have lt0 : ∀ x ∈ p0, x.block < W.heap.size := by obtain ⟨m, hm⟩ := k0; exact DataW.trod_lt m _ _ _ hm
 have lt1 : ∀ x ∈ p1, x.block < W.heap.size := by obtain ⟨m, hm⟩ := k1; exact DataW.trod_lt m _ _ _ hm
 have lt2 : ∀ x ∈ p2, x.block < W.heap.size := by obtain ⟨m, hm⟩ := k2; exact DataW.trod_lt m _ _ _ hm
 obtain ⟨A, c, l, e0, hc0, hr0, hb0, hB0⟩ := open_Parts h0 (small_arg hsz (j := 0) rfl rfl) rfl
 obtain ⟨c1, e1, hs0, hs1⟩ := open_Cond h1 (small_arg hsz (j := 1) rfl rfl)
 obtain ⟨A2, c2, l2, e2, hc2, hr2, hb2, hB2⟩ := open_Rows h2 (small_arg hsz (j := 2) rfl rfl) rfl
 have hG : Glob W := by
  rw [show laidMetH Tryd.prog Rows.queryMoreRow.laid W = laidMet Tryd.prog Rows.queryMoreRow.laid W from MakeChecks.laidMetH_plain _ _ _ (by kernel_rfl)] at hL
  exact glob_of_laid hL
 cases e0
 subst e1
 cases e2
 clear hA0 hval0 hsz hsz0
 obtain ⟨k, hk⟩ := qm_pure l hb0 hB0 c1 l2 hb2 (fun p hp => by obtain ⟨b2, b3, b4, b5, b6, _⟩ := hB2 p hp; exact ⟨b2, b3, b4, b5, b6⟩)
 refine (QueryMore_calls k _ _ l c1 _ _ l2 W hG hr0 hc0 hr2 hc2 hs0 hs1 hk).mono fun e W' ⟨he, bel⟩ => ?_
 subst he
 exact ⟨_, rfl, _, _, _, [], _, [], hW', trodAll_mk1 (shut_bool Tryd.underlying4 _), (trodAll_cons_mk (Below.trod laidOut (by kernel_rfl) (of_decide_eq_true (by kernel_rfl)) k0 bel lt0) (trodAll_cons_mk (Below.trod laidOut (by kernel_rfl) (of_decide_eq_true (by kernel_rfl)) k1 bel lt1) (trodAll_cons_mk (Below.trod laidOut (by kernel_rfl) (of_decide_eq_true (by kernel_rfl)) k2 bel lt2) trodAll_mk0))), rfl, bel.frame _, fun h => by cases h⟩
theorem more_holds : Rows.QueryMoreSaid :=
 OpenClaim.holds_of_wide 4 Tryd.f4 rfl rfl rfl rfl rfl rfl rfl ⟨rfl, rfl, rfl, rfl, rfl⟩ rfl rfl rfl rfl rfl (by kernel_rfl) Tryd.func4 (by kernel_rfl)
  (of_decide_eq_true (by kernel_rfl)) (by unfold Func.isWrapper; first | (rw [if_pos (by decide +kernel)]; kernel_rfl) | (rw [if_neg (by decide +kernel)]; exact ⟨rfl, rfl⟩))
  (fun os started H enc _ => more_lifted os started H enc)
theorem more_card : Rows.QueryMoreCardSaid :=
 Claim7.holds_tied_plain_at .later [] [.data, .data, .data, .sentinel, .sentinel] true (true, "216a43bf2c0ffdf810b928012f0be2576e05298b56ecf024a156cf9eaf3d7a53") true
  more_holds (fun _ h => by cases h) (by kernel_rfl) (fun _ h => by cases h) queryMore_row_tie rfl ⟨rfl, rfl⟩ (by kernel_rfl) rfl
  (fun f fn hf hfn => by
   obtain rfl : f = 4 := Option.some.inj ((show Tryd.prog.funcNamed "tendril/tendrillaw22.QueryMore" = some 4 by kernel_rfl).symm.trans hf) |>.symm
   obtain rfl : fn = Tryd.f4 := (Option.some.inj (Tryd.func4.symm.trans hfn)).symm
   exact ⟨by kernel_rfl, fun j t ht => by
    rw [Tryd.params4] at ht
    have hm : t ∈ [23, 33, 34] := by simpa using Array.mem_of_getElem? ht
    have hall : ([23, 33, 34].all fun u => !Tryd.prog.wantsStandIn u) = true := by kernel_rfl
    exact (show Tryd.prog.wantsStandIn t = false by simpa using List.all_eq_true.1 hall t hm)⟩)
  (by kernel_rfl)
end Go.Proofs.YtjbobecnlpiejaaDoor.Q.P
