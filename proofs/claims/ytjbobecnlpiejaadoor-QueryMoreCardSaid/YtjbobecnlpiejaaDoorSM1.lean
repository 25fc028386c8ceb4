import Derived.Test.YtjbobecnlpiejaaDoorSM0
import Derived.Test.YtjbobecnlpiejaaDoorProg
import Derived.Below
import Derived.Deep.Draws
import Derived.Deep.AppendLies
import Derived.Maps.AppendAt
import Derived.OwnWalk
import Derived.Laws.BytesArg
import Derived.Laws.MakeOwn
import Derived.Laws.OwnMore
import Derived.Deep.OwnRows
import Derived.Tactics
import Derived.Lib.ConvBytes
import Derived.Laws.Slices
import Derived.WalkKit
import Derived.KernelRfl
import Derived.RowKit3
import Derived.Deep.LoopGhost
import Derived.Deep.QuietTactic
import Derived.BigQuiet
import Derived.WideLaws
import Derived.Deep.DeepCutAuto
import Derived.Deep.CutBlock
import Derived.Deep.RegionHeld3
import Derived.Laws.Rows
import Derived.Lib.AppendStr
import Derived.ArgAppend
import Derived.Laws.IdiomCopy
import Derived.OrdersHeld
import Derived.Laws.BitsLemmas
import Derived.RowKit
import Derived.Lib.LaidTab
import Derived.WalkSmall
import Derived.Lib.Hide
import Derived.Laws.Cover1
import Derived.WalkSpells
import Derived.Lib.AppendIntMem
import Derived.Lib.IndexAny
import Derived.Lib.IndexLaws
import Derived.Lib.DecodeN
import Derived.Lib.OthersKept
import Derived.Deep.RegionLaw
import Derived.Shelf.Strings.Builder1
import Derived.Shelf.Small.Strs
import Derived.Shelf.Small.Wraps
import Derived.Shelf.Strings.BuilderF
import Derived.Shelf.Strings.BuilderK
import Derived.Shelf.Strconv.Atoi
import Derived.Shelf.Strconv.Itoa0
import Derived.Shelf.Strconv.Itoa1
import Derived.Shelf.LaysM
import Derived.Shelf.Strconv.Itoa2
import Derived.Shelf.Strconv.Itoa3
import Derived.Shelf.Strconv.AtoiErrFast
import Derived.Shelf.Strconv.ParseIntEmpty
import Derived.Shelf.Strconv.AtoiFail
import Derived.Shelf.Strconv.Clone
import Derived.Shelf.Strconv.SyntaxError
import Derived.Shelf.LaysC
import Derived.Shelf.Strconv.ToError
import Derived.Shelf.Strconv.Lower
import Derived.Shelf.Strconv.ParseUint10
import Derived.Shelf.Strconv.ParseUint10Empty
import Derived.Shelf.Strconv.ParseUint10Any
import Derived.Shelf.Strconv.ParseInt10
import Derived.Shelf.Strconv.AtoiLong
import Derived.Shelf.Strconv.AtoiInnerAll
import Derived.Shelf.Strconv.RangeError
import Derived.Shelf.Strconv.ToErrorRange
import Derived.Shelf.Strconv.AtoiAll
import Derived.Shelf.Strconv.ErrVarAll
import Derived.Shelf.Strings.Search1
import Derived.Shelf.Strings.Prefix
import Derived.ProofKit
import Derived.OpenShut
import Derived.ChangeOld
import Derived.SizedLaws
import Derived.Carry
import Derived.LaidMore
import Derived.Stop.LaidErr
import Derived.Deep.Slices
import Derived.MakeChecks
import Derived.Test.YtjbobecnlpiejaaDoorRows
import Derived.ShutString
set_option linter.unusedVariables false
set_option linter.unusedSimpArgs false
namespace Go.Proofs.YtjbobecnlpiejaaDoorZ
open Go.RowKit
theorem zz0 {p : Prop} (h : p := by dsimp only; omega) : p := h
theorem zz1 {p : Prop} (h : p := by have := HK1.out; omega) : p := h
theorem zz2 {p : Prop} (h : p := by first | omega | exact Nat.le_refl _) : p := h
theorem zz3 {p : Prop} (h : p := by have := HJ2.out; have := HK2.out; omega) : p := h
theorem zz4 {p : Prop} (h : p := by have := HK1.out; have := HK2.out; omega) : p := h
theorem zz5 {p : Prop} (h : p := by first | (go_simp; done) | (go_simp; rfl)) : p := h
theorem zz6 {p : Prop} (h : p := by first | rfl | (simp; done) | (simp [*]; done)) : p := h
theorem zz7 {p : Prop} (h : p := by first | (with_reducible assumption) | assumption) : p := h
theorem zz8 {p : Prop} (h : p := by rw [← add_field _ _ 1 (by omega)]; exact hc 1 _ rfl) : p := h
theorem zz9 {p : Prop} (h : p := by rw [← add_field _ _ 2 (by omega)]; exact hc 2 _ rfl) : p := h
theorem zz10 {p : Prop} (h : p := by rw [← add_field _ _ 3 (by omega)]; exact hc 3 _ rfl) : p := h
theorem zz11 {p : Prop} (h : p := by rw [← add_field _ _ 4 (by omega)]; exact hc 4 _ rfl) : p := h
theorem zz12 {p : Prop} (h : p := by have := HK1.out; first | omega | exact Nat.le_refl _) : p := h
theorem zz13 {p : Prop} (h : p := by repeat (first | exact Drawn0.refl _ | apply Drawn0.step)) : p := h
theorem zz14 {p : Prop} (h : p := by repeat (first | exact HB5.out | apply Below.drew | apply below_drewN)) : p := h
theorem zz15 {p : Prop} (h : p := by repeat (first | exact Below.refl _ _ | apply qb | apply qd | apply qc)) : p := h
theorem zz16 {p : Prop} (h : p := by exact (HX _ zz15).out) : p := h
theorem zz17 {p : Prop} (h : p := by (with_reducible repeat (first | refine qi ?_ _ | refine qk ?_ | refine qh ?_ _)); exact BK239.out) : p := h
theorem zz18 {p : Prop} (h : p := by (with_reducible repeat (first | refine qi ?_ _ | refine qk ?_ | refine qh ?_ _)); exact BK244.out) : p := h
theorem zz19 {p : Prop} (h : p := by (with_reducible repeat (first | refine qi ?_ _ | refine qk ?_ | refine qh ?_ _)); exact BK191.out) : p := h
theorem zz20 {p : Prop} (h : p := by (with_reducible repeat (first | refine qi ?_ _ | refine qk ?_ | refine qh ?_ _)); exact BK205.out) : p := h
theorem zz21 {p : Prop} (h : p := by (with_reducible repeat (first | refine qi ?_ _ | refine qk ?_ | refine qh ?_ _)); exact BK207.out) : p := h
theorem zz22 {p : Prop} (h : p := by (with_reducible repeat (first | refine qi ?_ _ | refine qk ?_ | refine qh ?_ _)); exact BK211.out) : p := h
theorem zz23 {p : Prop} (h : p := by (with_reducible repeat (first | refine qi ?_ _ | refine qk ?_ | refine qh ?_ _)); exact BK213.out) : p := h
theorem zz24 {p : Prop} (h : p := by repeat (first | (with_reducible first | exact HB.out | apply qc | apply qb | apply qd) | exact HB.out)) : p := h
theorem zz25 {p : Prop} (h : p := by (with_reducible repeat (first | apply Kd.V_alloc | apply Kd.V_drewN | apply Kd.V_drew)); exact HO0.out) : p := h
theorem zz26 {p : Prop} (h : p := by (with_reducible repeat (first | apply Kd.V_alloc | apply Kd.V_drewN | apply Kd.V_drew)); exact HO_0.out) : p := h
theorem zz27 {p : Prop} (h : p := by (with_reducible repeat (first | apply Kd.R_alloc | apply Kd.R_drewN | apply Kd.R_drew)); exact HO_5.out) : p := h
theorem zz28 {p : Prop} (h : p := by (with_reducible repeat (first | apply Kd.N_alloc | apply Kd.N_drewN | apply Kd.N_drew)); exact HO_5.out) : p := h
theorem zz29 {p : Prop} (h : p := by (with_reducible repeat (first | apply Kd.R_alloc | apply Kd.R_drewN | apply Kd.R_drew)); exact HO_3.out) : p := h
theorem zz30 {p : Prop} (h : p := by (with_reducible repeat (first | apply Kd.S_alloc | apply Kd.S_drewN | apply Kd.S_drew)); exact HO_19.out) : p := h
theorem zz31 {p : Prop} (h : p := by (with_reducible repeat (first | apply Kd.N_alloc | apply Kd.N_drewN | apply Kd.N_drew)); exact HO301.out) : p := h
theorem zz32 {p : Prop} (h : p := by (with_reducible repeat (first | apply Kd.N_alloc | apply Kd.N_drewN | apply Kd.N_drew)); exact HO308.out) : p := h
theorem zz33 {p : Prop} (h : p := by (with_reducible repeat (first | apply Kd.R_alloc | apply Kd.R_drewN | apply Kd.R_drew)); exact HO313.out) : p := h
theorem zz34 {p : Prop} (h : p := by (with_reducible repeat (first | apply Kd.V_alloc | apply Kd.V_drewN | apply Kd.V_drew)); exact HO_10.out) : p := h
theorem zz35 {p : Prop} (h : p := by (with_reducible repeat (first | apply Kd.R_alloc | apply Kd.R_drewN | apply Kd.R_drew)); exact HO210.out) : p := h
theorem zz36 {p : Prop} (h : p := by (with_reducible repeat (first | apply Kd.V_alloc | apply Kd.V_drewN | apply Kd.V_drew)); exact HL190_5.out) : p := h
theorem zz37 {p : Prop} (h : p := by (with_reducible repeat (first | apply Kd.R_alloc | apply Kd.R_drewN | apply Kd.R_drew)); exact HO_212003.out) : p := h
theorem zz38 {p : Prop} (h : p := by (with_reducible repeat (first | apply Kd.R_alloc | apply Kd.R_drewN | apply Kd.R_drew)); exact HO_212004.out) : p := h
theorem zz39 {p : Prop} (h : p := by first | (rw [add_block]; exact hn231_0) | (show (Addr.add _ _).block ≠ _; rw [add_block]; exact hn231_0) | exact hn231_0) : p := h
theorem zz40 {p : Prop} (h : p := by first | (rw [add_block]; exact hn231_1) | (show (Addr.add _ _).block ≠ _; rw [add_block]; exact hn231_1) | exact hn231_1) : p := h
theorem zz41 {p : Prop} (h : p := by repeat (first | (with_reducible first | exact HB.out | apply qc | apply qb | apply qd | refine qj ?_ GE239.out) | exact HB.out)) : p := h
theorem zz42 {p : Prop} (h : p := by repeat (first | (with_reducible first | exact HB.out | apply qc | apply qb | apply qd | refine qj ?_ GE244.out) | exact HB.out)) : p := h
theorem zz43 {p : Prop} (h : p := by repeat (first | (with_reducible first | exact HB.out | apply qc | apply qb | apply qd | refine qj ?_ GE275.out) | exact HB.out)) : p := h
theorem zz44 {p : Prop} (h : p := by repeat (first | (with_reducible first | exact HB.out | apply qc | apply qb | apply qd | refine qj ?_ GE122.out) | exact HB.out)) : p := h
theorem zz45 {p : Prop} (h : p := by repeat (first | (with_reducible first | exact HB.out | apply qc | apply qb | apply qd | refine qj ?_ GE127.out) | exact HB.out)) : p := h
theorem zz46 {p : Prop} (h : p := by repeat (first | (with_reducible first | exact HB.out | apply qc | apply qb | apply qd | refine qj ?_ GE177.out) | exact HB.out)) : p := h
theorem zz47 {p : Prop} (h : p := by repeat (first | (with_reducible first | exact HB.out | apply qc | apply qb | apply qd | refine qj ?_ GE183.out) | exact HB.out)) : p := h
theorem zz48 {p : Prop} (h : p := by repeat (first | (with_reducible first | exact HB.out | apply qc | apply qb | apply qd | refine qj ?_ GE191.out) | exact HB.out)) : p := h
theorem zz49 {p : Prop} (h : p := by repeat (first | (with_reducible first | exact HB.out | apply qc | apply qb | apply qd | refine qj ?_ GE205.out) | exact HB.out)) : p := h
theorem zz50 {p : Prop} (h : p := by repeat (first | (with_reducible first | exact HB.out | apply qc | apply qb | apply qd | refine qj ?_ GE228.out) | exact HB.out)) : p := h
theorem zz51 {p : Prop} (h : p := by repeat (first | (with_reducible first | exact HB.out | apply qc | apply qb | apply qd | refine qj ?_ GE233.out) | exact HB.out)) : p := h
theorem zz52 {p : Prop} (h : p := by exact Glob.below HG.out zz24) : p := h
theorem zz53 {p : Prop} (h : p := by (with_reducible repeat (first | apply Kd.N_alloc | apply Kd.N_drewN | apply Kd.N_drew)); exact Kd.N_mono HO_5.out (fun _ hk => hk.1)) : p := h
theorem zz54 {p : Prop} (h : p := by repeat (first | (with_reducible first | exact HB.out | apply qc | apply qb | apply qd | refine qj ?_ (IsS55.ge HI0.out)) | exact HB.out)) : p := h
theorem zz55 {p : Prop} (h : p := by repeat (first | (with_reducible first | exact HB.out | apply qc | apply qb | apply qd | refine qj ?_ (IsS55.ge HI129.out)) | exact HB.out)) : p := h
theorem zz56 {p : Prop} (h : p := by (try simp only [List.map_toArray, List.map_cons, List.map_nil]); first | done | rfl | (simp only [List.length_drop, List.length_take]; rfl)) : p := h
theorem zz57 {p : Prop} (h : p := by first | exact Kd.R_nil _ _ _ _ _ | exact Kd.N_nil _ _ _ _ _ | exact Kd.V_nil _ _ _ _ _ | exact Kd.Q_nil _ _ _ _ _ | exact Kd.S_nil _ _ _ _ _) : p := h
theorem zz58 {p : Prop} (h : p := by first | exact Kd.S_nil _ _ _ _ _ | exact Kd.N_nil _ _ _ _ _ | exact Kd.V_nil _ _ _ _ _ | exact Kd.Q_nil _ _ _ _ _ | exact Kd.R_nil _ _ _ _ _) : p := h
theorem zz59 {p : Prop} (h : p := by first | exact q296 | exact of_decide_eq_true zz7 | (have e_ := (Kd.S_reads' HO_7.out).1; omega)) : p := h
theorem zz60 {p : Prop} (h : p := by first | exact q284 | exact of_decide_eq_true zz7 | (have e_ := (Kd.S_reads' HO_19.out).1; omega)) : p := h
theorem zz61 {p : Prop} (h : p := by repeat (first | (with_reducible first | exact HK.out | apply KeepBut.set_ | apply keep_drewN | apply keep_drew | apply keep_alloc) | exact HK.out)) : p := h
theorem zz62 {p : Prop} (h : p := by first | exact q190 | exact of_decide_eq_true zz7 | (have e_ := (Kd.V_reads' HO_10.out).1; omega)) : p := h
theorem zz65 {p : Prop} (h : p := by first | rfl | (simp [qn, qo] <;> rfl) | (simp [*, qn, qo] <;> rfl) | (congr 2; simp only [bne]; generalize ByteArray.toList _ = z_; cases z_ <;> rfl)) : p := h
theorem zz66 {p : Prop} (h : p := by repeat (first | (with_reducible first | exact HB.out | apply qc | apply qb | apply qd | refine qj ?_ GE239.out | refine qj ?_ GE243.out) | exact HB.out)) : p := h
theorem zz67 {p : Prop} (h : p := by repeat (first | (with_reducible first | exact HB.out | apply qc | apply qb | apply qd | refine qj ?_ GE244.out | refine qj ?_ GE260.out) | exact HB.out)) : p := h
theorem zz68 {p : Prop} (h : p := by (with_reducible repeat (first | apply Kd.V_alloc | apply Kd.V_drewN | apply Kd.V_drew)); exact Kd.V_mono HO_0.out (fun _ hk => ⟨⟨hk.1, hk.2.2⟩, hk.2.1⟩)) : p := h
theorem zz69 {p : Prop} (h : p := by repeat (first | (with_reducible first | exact HB.out | apply qc | apply qb | apply qd | refine qj ?_ GE205.out | refine qj ?_ GE207.out) | exact HB.out)) : p := h
theorem zz70 {p : Prop} (h : p := by repeat (first | exact HR0.out | (with_reducible refine Kd.C_alloc ?_ _) | (with_reducible refine Kd.C_drewN ?_ _) | (with_reducible refine Kd.C_drew ?_))) : p := h
theorem zz71 {p : Prop} (h : p := by (with_reducible repeat (first | apply Kd.V_alloc | apply Kd.V_drewN | apply Kd.V_drew)); exact Kd.V_mono HO_10.out (fun _ hk => ⟨⟨hk.1, hk.2.2⟩, hk.2.1⟩)) : p := h
theorem zz72 {p : Prop} (h : p := by (with_reducible repeat (first | apply Kd.V_alloc | apply Kd.V_drewN | apply Kd.V_drew)); exact Kd.V_mono HL190_5.out (fun _ hk => ⟨⟨hk.1, hk.2.2⟩, hk.2.1⟩)) : p := h
theorem zz73 {p : Prop} (h : p := by (with_reducible repeat (first | apply Kd.N_alloc | apply Kd.N_drewN | apply Kd.N_drew)); exact Kd.N_mono HO_5.out (fun _ hk => ⟨hk.1, ⟨hk.2.2.2, hk.2.2.1⟩⟩)) : p := h
theorem zz75 {p : Prop} (h : p := by repeat (first | (with_reducible first | exact HB.out | apply qc | apply qb | apply qd | refine qj ?_ (IsS55.ge HI129.out) | refine qj ?_ GE155.out) | exact HB.out)) : p := h
theorem zz76 {p : Prop} (h : p := by repeat (first | (with_reducible first | exact HB.out | apply qc | apply qb | apply qd | refine qj ?_ (IsS55.ge HI129.out) | refine qj ?_ GE171.out) | exact HB.out)) : p := h
theorem zz77 {p : Prop} (h : p := by exact Glob.below HG.out zz54) : p := h
theorem zz79 {p : Prop} (h : p := by repeat (first | (with_reducible first | exact HI0.out | apply IsS55.alloc | apply IsS55.drewN | apply IsS55.drew | apply IsS55.set_0 | apply IsS55.set_1) | exact HI0.out)) : p := h
theorem zz80 {p : Prop} (h : p := by repeat (first | exact (Kd.V_reads' HO0.out).2.2 | (with_reducible refine Kd.C_alloc ?_ _) | (with_reducible refine Kd.C_drewN ?_ _) | (with_reducible refine Kd.C_drew ?_))) : p := h
theorem zz81 {p : Prop} (h : p := by repeat (first | exact (Kd.V_reads' HO_0.out).2.2 | (with_reducible refine Kd.C_alloc ?_ _) | (with_reducible refine Kd.C_drewN ?_ _) | (with_reducible refine Kd.C_drew ?_))) : p := h
theorem zz82 {p : Prop} (h : p := by repeat (first | exact (Kd.N_reads' HO_5.out).2.2 | (with_reducible refine Kd.C_alloc ?_ _) | (with_reducible refine Kd.C_drewN ?_ _) | (with_reducible refine Kd.C_drew ?_))) : p := h
theorem zz83 {p : Prop} (h : p := by repeat (first | exact (Kd.C_below HR0.out HB.out) | (with_reducible refine Kd.C_alloc ?_ _) | (with_reducible refine Kd.C_drewN ?_ _) | (with_reducible refine Kd.C_drew ?_))) : p := h
theorem zz84 {p : Prop} (h : p := by repeat (first | exact (Kd.C_below HR1.out HB.out) | (with_reducible refine Kd.C_alloc ?_ _) | (with_reducible refine Kd.C_drewN ?_ _) | (with_reducible refine Kd.C_drew ?_))) : p := h
theorem zz85 {p : Prop} (h : p := by repeat (first | exact (Kd.N_reads' HO301.out).2.2 | (with_reducible refine Kd.C_alloc ?_ _) | (with_reducible refine Kd.C_drewN ?_ _) | (with_reducible refine Kd.C_drew ?_))) : p := h
theorem zz86 {p : Prop} (h : p := by repeat (first | exact (Kd.N_reads' HO308.out).2.2 | (with_reducible refine Kd.C_alloc ?_ _) | (with_reducible refine Kd.C_drewN ?_ _) | (with_reducible refine Kd.C_drew ?_))) : p := h
theorem zz87 {p : Prop} (h : p := by repeat (first | exact (Kd.R_reads' HO313.out).2.2 | (with_reducible refine Kd.C_alloc ?_ _) | (with_reducible refine Kd.C_drewN ?_ _) | (with_reducible refine Kd.C_drew ?_))) : p := h
theorem zz88 {p : Prop} (h : p := by repeat (first | exact (Kd.R_reads' HO316.out).2.2 | (with_reducible refine Kd.C_alloc ?_ _) | (with_reducible refine Kd.C_drewN ?_ _) | (with_reducible refine Kd.C_drew ?_))) : p := h
theorem zz89 {p : Prop} (h : p := by repeat (first | (with_reducible first | exact HI129.out | apply IsS55.alloc | apply IsS55.drewN | apply IsS55.drew | apply IsS55.set_0 | apply IsS55.set_1) | exact HI129.out)) : p := h
theorem zz90 {p : Prop} (h : p := by repeat (first | exact (Kd.C_below HR0_3.out HB.out) | (with_reducible refine Kd.C_alloc ?_ _) | (with_reducible refine Kd.C_drewN ?_ _) | (with_reducible refine Kd.C_drew ?_))) : p := h
theorem zz91 {p : Prop} (h : p := by repeat (first | exact (Kd.C_below HR0_4.out HB.out) | (with_reducible refine Kd.C_alloc ?_ _) | (with_reducible refine Kd.C_drewN ?_ _) | (with_reducible refine Kd.C_drew ?_))) : p := h
theorem zz92 {p : Prop} (h : p := by repeat (first | (with_reducible first | exact HB.out | apply qc | apply qb | apply qd | refine qj ?_ GE205.out | refine qj ?_ GE207.out | refine qj ?_ GE211.out) | exact HB.out)) : p := h
theorem zz93 {p : Prop} (h : p := by repeat (first | exact (Kd.C_below HR206_5.out HB.out) | (with_reducible refine Kd.C_alloc ?_ _) | (with_reducible refine Kd.C_drewN ?_ _) | (with_reducible refine Kd.C_drew ?_))) : p := h
theorem zz96 {p : Prop} (h : p := by repeat (first | (with_reducible exact HR284_0.out) | (with_reducible refine Kd.C_alloc ?_ _) | (with_reducible refine Kd.C_drewN ?_ _) | (with_reducible refine Kd.C_drew ?_) | exact HR284_0.out)) : p := h
theorem zz97 {p : Prop} (h : p := by repeat (first | (with_reducible exact HR296_0.out) | (with_reducible refine Kd.C_alloc ?_ _) | (with_reducible refine Kd.C_drewN ?_ _) | (with_reducible refine Kd.C_drew ?_) | exact HR296_0.out)) : p := h
theorem zz98 {p : Prop} (h : p := by repeat (first | (with_reducible exact HR190_5.out) | (with_reducible refine Kd.C_alloc ?_ _) | (with_reducible refine Kd.C_drewN ?_ _) | (with_reducible refine Kd.C_drew ?_) | exact HR190_5.out)) : p := h
theorem zz99 {p : Prop} (h : p := by repeat (first | (with_reducible first | exact HB.out | apply qc | apply qb | apply qd | refine qj ?_ GE205.out | refine qj ?_ GE207.out | refine qj ?_ GE211.out | refine qj ?_ GE213.out) | exact HB.out)) : p := h
theorem zz100 {p : Prop} (h : p := by first | rfl | (simp [qn, qo] <;> rfl) | (simp only [← hji2]; first | rfl | (simp [qn, qo] <;> rfl)) | (simp [*, qn, qo] <;> rfl) | (congr 2; simp only [bne]; generalize ByteArray.toList _ = z_; cases z_ <;> rfl)) : p := h
theorem zz101 {p : Prop} (h : p := by repeat (first | (with_reducible first | exact HI129.out | apply IsS55.alloc | apply IsS55.drewN | apply IsS55.drew | apply IsS55.set_0 | apply IsS55.set_1 | refine IsS55.far ?_ NB129_155.out _) | exact HI129.out)) : p := h
theorem zz102 {p : Prop} (h : p := by repeat (first | (with_reducible first | exact HI129.out | apply IsS55.alloc | apply IsS55.drewN | apply IsS55.drew | apply IsS55.set_0 | apply IsS55.set_1 | refine IsS55.far ?_ NB129_171.out _) | exact HI129.out)) : p := h
theorem zz103 {p : Prop} (h : p := by first | rfl | (simp [qn, qo] <;> rfl) | (simp only [← hji2, ← hji12]; first | rfl | (simp [qn, qo] <;> rfl)) | (simp [*, qn, qo] <;> rfl) | (congr 2; simp only [bne]; generalize ByteArray.toList _ = z_; cases z_ <;> rfl)) : p := h
theorem zz106 {p : Prop} (h : p := by exact (Reps.c2 (show Kd.M k48 _ _ _ (⟨(⟨#[97]⟩ : ByteArray), (⟨#[49]⟩ : ByteArray)⟩ : S48) [.string (⟨#[97]⟩ : ByteArray), .string (⟨#[49]⟩ : ByteArray)] from (k48_mkM _ _ _ (⟨(⟨#[97]⟩ : ByteArray), (⟨#[49]⟩ : ByteArray)⟩ : S48) )) (Reps.none _ _))) : p := h
theorem zz107 {p : Prop} (h : p := by (with_reducible repeat (first | refine qi ?_ _ | refine qk ?_ | refine qh ?_ _)); refine qq (cs := #[.string ((qy l0 x9_1).f0), .string (⟨#[]⟩ : ByteArray)]) ?_ 1 _ rfl; (with_reducible repeat (first | refine qi ?_ _ | refine qk ?_ | refine qh ?_ _)); refine qq (cs := #[.string (⟨#[]⟩ : ByteArray), .string (⟨#[]⟩ : ByteArray)]) ?_ 0 _ rfl; (with_reducible repeat (first | refine qi ?_ _ | refine qk ?_ | refine qh ?_ _)); exact BK228.out) : p := h
theorem zz108 {p : Prop} (h : p := by (with_reducible repeat (first | apply Kd.R_alloc | apply Kd.R_drewN | apply Kd.R_drew)); exact (Kd.R_mono (Kd.R_far (p := ⟨gb260, 4, none⟩) (Kd.R_far (p := ⟨gb260, 3, none⟩) (Kd.R_far (p := ⟨gb260, 2, none⟩) (Kd.R_far (p := ⟨gb260, 1, none⟩) (Kd.R_far (p := ⟨gb260, 0, none⟩) (Kd.R_types HO255.out BK260.out (by decide)) (fun _ hk => hk.2) (.string t250)) (fun _ hk => hk.2) (.string t251)) (fun _ hk => hk.2) (.string t252)) (fun _ hk => hk.2) (.slice Ao23 t253.length co23)) (fun _ hk => hk.2) (.slice Ao24 t256.length co24)) (fun _ h_ => h_.1))) : p := h
theorem zz109 {p : Prop} (h : p := by (with_reducible repeat (first | apply Kd.R_alloc | apply Kd.R_drewN | apply Kd.R_drew)); exact (Kd.R_mono (Kd.R_far (p := ⟨gb260, 4, none⟩) (Kd.R_far (p := ⟨gb260, 3, none⟩) (Kd.R_far (p := ⟨gb260, 2, none⟩) (Kd.R_far (p := ⟨gb260, 1, none⟩) (Kd.R_far (p := ⟨gb260, 0, none⟩) (Kd.R_types HO255.out BK260.out (by decide)) (fun _ hk => hk.2) (.string t250)) (fun _ hk => hk.2) (.string t251)) (fun _ hk => hk.2) (.string t252)) (fun _ hk => hk.2) (.slice Ao33 t253.length co33)) (fun _ hk => hk.2) (.slice Ao34 t256.length co34)) (fun _ h_ => h_.1))) : p := h
theorem zz110 {p : Prop} (h : p := by (with_reducible repeat (first | apply Kd.R_alloc | apply Kd.R_drewN | apply Kd.R_drew)); exact (Kd.R_mono (Kd.R_far (p := ⟨gb260, 4, none⟩) (Kd.R_far (p := ⟨gb260, 3, none⟩) (Kd.R_far (p := ⟨gb260, 2, none⟩) (Kd.R_far (p := ⟨gb260, 1, none⟩) (Kd.R_far (p := ⟨gb260, 0, none⟩) (Kd.R_mono HO258.out (fun k_ hk => (⟨hk, hk.2⟩ : _ ∧ k_ ≠ gb260))) (fun _ hk => hk.2) (.string t250)) (fun _ hk => hk.2) (.string t251)) (fun _ hk => hk.2) (.string t252)) (fun _ hk => hk.2) (.slice Ao23 t253.length co23)) (fun _ hk => hk.2) (.slice Ao24 t256.length co24)) (fun _ h_ => h_.1))) : p := h
theorem zz111 {p : Prop} (h : p := by (with_reducible repeat (first | apply Kd.R_alloc | apply Kd.R_drewN | apply Kd.R_drew)); exact (Kd.R_mono (Kd.R_far (p := ⟨gb260, 4, none⟩) (Kd.R_far (p := ⟨gb260, 3, none⟩) (Kd.R_far (p := ⟨gb260, 2, none⟩) (Kd.R_far (p := ⟨gb260, 1, none⟩) (Kd.R_far (p := ⟨gb260, 0, none⟩) (Kd.R_mono HO258.out (fun k_ hk => (⟨hk, hk.2⟩ : _ ∧ k_ ≠ gb260))) (fun _ hk => hk.2) (.string t250)) (fun _ hk => hk.2) (.string t251)) (fun _ hk => hk.2) (.string t252)) (fun _ hk => hk.2) (.slice Ao33 t253.length co33)) (fun _ hk => hk.2) (.slice Ao34 t256.length co34)) (fun _ h_ => h_.1))) : p := h
theorem zz112 {p : Prop} (h : p := by (with_reducible repeat (first | refine qi ?_ _ | refine qk ?_ | refine qh ?_ _)); refine qkb ?_ NB244_260.out _; (with_reducible repeat (first | refine qi ?_ _ | refine qk ?_ | refine qh ?_ _)); refine qkb ?_ NB244_260.out _; (with_reducible repeat (first | refine qi ?_ _ | refine qk ?_ | refine qh ?_ _)); refine qkb ?_ NB244_260.out _; (with_reducible repeat (first | refine qi ?_ _ | refine qk ?_ | refine qh ?_ _)); refine qkb ?_ NB244_260.out _; (with_reducible repeat (first | refine qi ?_ _ | refine qk ?_ | refine qh ?_ _)); refine qkb ?_ NB244_260.out _; (with_reducible repeat (first | refine qi ?_ _ | refine qk ?_ | refine qh ?_ _)); exact BK244.out) : p := h
theorem zz113 {p : Prop} (h : p := by (with_reducible repeat (first | apply Kd.R_alloc | apply Kd.R_drewN | apply Kd.R_drew)); exact Kd.R_mono (Kd.R_far (p := ⟨gb191, 5, none⟩) (Kd.R_far (p := ⟨gb191, 4, none⟩) (Kd.R_far (p := ⟨gb191, 3, none⟩) (Kd.R_far (p := ⟨gb191, 2, none⟩) (Kd.R_far (p := ⟨gb191, 1, none⟩) (Kd.R_far (p := ⟨gb191, 0, none⟩) (Kd.R_types HO_3.out BK191.out (by decide)) (fun _ hk => hk.2) (.int .i64 ((qe l0 x12_1).f0))) (fun _ hk => hk.2) (.int .i64 ((qe l0 x12_1).f1))) (fun _ hk => hk.2) (.string ((qe l0 x12_1).f2))) (fun _ hk => hk.2) (.string ((qe l0 x12_1).f3))) (fun _ hk => hk.2) (.string ((qe l0 x12_1).f4))) (fun _ hk => hk.2) (.slice A190_5 ((qe l0 x12_1).f5).length c190_5)) (fun _ hk => hk.1)) : p := h
theorem zz114 {p : Prop} (h : p := by (with_reducible repeat (first | apply Kd.R_alloc | apply Kd.R_drewN | apply Kd.R_drew)); exact Kd.R_mono (Kd.R_far (p := ⟨gb183, 5, none⟩) (Kd.R_far (p := ⟨gb183, 4, none⟩) (Kd.R_far (p := ⟨gb183, 3, none⟩) (Kd.R_far (p := ⟨gb183, 2, none⟩) (Kd.R_far (p := ⟨gb183, 1, none⟩) (Kd.R_far (p := ⟨gb183, 0, none⟩) (Kd.R_types HO_3.out BK183.out (by decide)) (fun _ hk => hk.2) (.int .i64 ((qe l0 x12_1).f0))) (fun _ hk => hk.2) (.int .i64 ((qe l0 x12_1).f1))) (fun _ hk => hk.2) (.string ((qe l0 x12_1).f2))) (fun _ hk => hk.2) (.string ((qe l0 x12_1).f3))) (fun _ hk => hk.2) (.string ((qe l0 x12_1).f4))) (fun _ hk => hk.2) (.slice A182_5 ((qe l0 x12_1).f5).length c182_5)) (fun _ hk => trivial)) : p := h
theorem zz117 {p : Prop} (h : p := by (with_reducible repeat (first | apply Kd.V_alloc | apply Kd.V_drewN | apply Kd.V_drew)); exact Kd.V_mono (Kd.V_far (p := ⟨gb191, 5, none⟩) (Kd.V_far (p := ⟨gb191, 4, none⟩) (Kd.V_far (p := ⟨gb191, 3, none⟩) (Kd.V_far (p := ⟨gb191, 2, none⟩) (Kd.V_far (p := ⟨gb191, 1, none⟩) (Kd.V_far (p := ⟨gb191, 0, none⟩) (Kd.V_mono HO_0.out (fun k_ hk => (⟨hk, hk.2⟩ : _ ∧ k_ ≠ gb191))) (fun _ hk => hk.2) (.int .i64 ((qe l0 x12_1).f0))) (fun _ hk => hk.2) (.int .i64 ((qe l0 x12_1).f1))) (fun _ hk => hk.2) (.string ((qe l0 x12_1).f2))) (fun _ hk => hk.2) (.string ((qe l0 x12_1).f3))) (fun _ hk => hk.2) (.string ((qe l0 x12_1).f4))) (fun _ hk => hk.2) (.slice A190_5 ((qe l0 x12_1).f5).length c190_5)) (fun _ hk => ⟨hk.1.1.1, ⟨hk.1.1.2, hk.1.2⟩⟩)) : p := h
theorem zz118 {p : Prop} (h : p := by (with_reducible repeat (first | apply Kd.V_alloc | apply Kd.V_drewN | apply Kd.V_drew)); exact Kd.V_mono (Kd.V_far (p := ⟨gb191, 5, none⟩) (Kd.V_far (p := ⟨gb191, 4, none⟩) (Kd.V_far (p := ⟨gb191, 3, none⟩) (Kd.V_far (p := ⟨gb191, 2, none⟩) (Kd.V_far (p := ⟨gb191, 1, none⟩) (Kd.V_far (p := ⟨gb191, 0, none⟩) (Kd.V_mono HO_10.out (fun k_ hk => (⟨hk, hk.2⟩ : _ ∧ k_ ≠ gb191))) (fun _ hk => hk.2) (.int .i64 ((qe l0 x12_1).f0))) (fun _ hk => hk.2) (.int .i64 ((qe l0 x12_1).f1))) (fun _ hk => hk.2) (.string ((qe l0 x12_1).f2))) (fun _ hk => hk.2) (.string ((qe l0 x12_1).f3))) (fun _ hk => hk.2) (.string ((qe l0 x12_1).f4))) (fun _ hk => hk.2) (.slice A190_5 ((qe l0 x12_1).f5).length c190_5)) (fun _ hk => ⟨hk.1.1.1, ⟨hk.1.1.2, hk.1.2⟩⟩)) : p := h
theorem zz119 {p : Prop} (h : p := by (with_reducible repeat (first | apply Kd.V_alloc | apply Kd.V_drewN | apply Kd.V_drew)); exact Kd.V_mono (Kd.V_far (p := ⟨gb191, 5, none⟩) (Kd.V_far (p := ⟨gb191, 4, none⟩) (Kd.V_far (p := ⟨gb191, 3, none⟩) (Kd.V_far (p := ⟨gb191, 2, none⟩) (Kd.V_far (p := ⟨gb191, 1, none⟩) (Kd.V_far (p := ⟨gb191, 0, none⟩) (Kd.V_mono HL190_5.out (fun k_ hk => (⟨hk, hk.2⟩ : _ ∧ k_ ≠ gb191))) (fun _ hk => hk.2) (.int .i64 ((qe l0 x12_1).f0))) (fun _ hk => hk.2) (.int .i64 ((qe l0 x12_1).f1))) (fun _ hk => hk.2) (.string ((qe l0 x12_1).f2))) (fun _ hk => hk.2) (.string ((qe l0 x12_1).f3))) (fun _ hk => hk.2) (.string ((qe l0 x12_1).f4))) (fun _ hk => hk.2) (.slice A190_5 ((qe l0 x12_1).f5).length c190_5)) (fun _ hk => ⟨hk.1.1.1, ⟨hk.1.1.2, hk.1.2⟩⟩)) : p := h
theorem zz123 {p : Prop} (h : p := by (with_reducible repeat (first | refine qi ?_ _ | refine qk ?_ | refine qh ?_ _)); refine qq (cs := #[.string ((qe l0 a1).f2), .string ((qe l0 a1).f3), .string ((qe l0 a1).f4), .slice Ao16 t208.length co16, .slice none 0 0]) ?_ 4 _ rfl; (with_reducible repeat (first | refine qi ?_ _ | refine qk ?_ | refine qh ?_ _)); refine qq (cs := #[.string ((qe l0 a1).f2), .string ((qe l0 a1).f3), .string ((qe l0 a1).f4), .slice none 0 0, .slice none 0 0]) ?_ 3 _ rfl; (with_reducible repeat (first | refine qi ?_ _ | refine qk ?_ | refine qh ?_ _)); refine qq (cs := #[.string ((qe l0 a1).f2), .string ((qe l0 a1).f3), .string (⟨#[]⟩ : ByteArray), .slice none 0 0, .slice none 0 0]) ?_ 2 _ rfl; (with_reducible repeat (first | refine qi ?_ _ | refine qk ?_ | refine qh ?_ _)); refine qq (cs := #[.string ((qe l0 a1).f2), .string (⟨#[]⟩ : ByteArray), .string (⟨#[]⟩ : ByteArray), .slice none 0 0, .slice none 0 0]) ?_ 1 _ rfl; (with_reducible repeat (first | refine qi ?_ _ | refine qk ?_ | refine qh ?_ _)); refine qq (cs := #[.string (⟨#[]⟩ : ByteArray), .string (⟨#[]⟩ : ByteArray), .string (⟨#[]⟩ : ByteArray), .slice none 0 0, .slice none 0 0]) ?_ 0 _ rfl; (with_reducible repeat (first | refine qi ?_ _ | refine qk ?_ | refine qh ?_ _)); exact BK205.out) : p := h
theorem zz124 {p : Prop} (h : p := by (with_reducible repeat (first | refine qi ?_ _ | refine qk ?_ | refine qh ?_ _)); refine qq (cs := #[.bool ((qab l0 x21_2).f0), .bool ((qab l0 x21_2).f1), .string ((qab l0 x21_2).f2), .string ((qab l0 x21_2).f3), .slice none 0 0]) ?_ 4 _ rfl; (with_reducible repeat (first | refine qi ?_ _ | refine qk ?_ | refine qh ?_ _)); refine qq (cs := #[.bool ((qab l0 x21_2).f0), .bool ((qab l0 x21_2).f1), .string ((qab l0 x21_2).f2), .string (⟨#[]⟩ : ByteArray), .slice none 0 0]) ?_ 3 _ rfl; (with_reducible repeat (first | refine qi ?_ _ | refine qk ?_ | refine qh ?_ _)); refine qq (cs := #[.bool ((qab l0 x21_2).f0), .bool ((qab l0 x21_2).f1), .string (⟨#[]⟩ : ByteArray), .string (⟨#[]⟩ : ByteArray), .slice none 0 0]) ?_ 2 _ rfl; (with_reducible repeat (first | refine qi ?_ _ | refine qk ?_ | refine qh ?_ _)); refine qq (cs := #[.bool ((qab l0 x21_2).f0), .bool false, .string (⟨#[]⟩ : ByteArray), .string (⟨#[]⟩ : ByteArray), .slice none 0 0]) ?_ 1 _ rfl; (with_reducible repeat (first | refine qi ?_ _ | refine qk ?_ | refine qh ?_ _)); refine qq (cs := #[.bool false, .bool false, .string (⟨#[]⟩ : ByteArray), .string (⟨#[]⟩ : ByteArray), .slice none 0 0]) ?_ 0 _ rfl; (with_reducible repeat (first | refine qi ?_ _ | refine qk ?_ | refine qh ?_ _)); exact BK127.out) : p := h
theorem zz125 {p : Prop} (h : p := by (with_reducible repeat (first | refine qi ?_ _ | refine qk ?_ | refine qh ?_ _)); refine qq (cs := #[.string (⟨#[]⟩ : ByteArray), .string (⟨#[]⟩ : ByteArray), .string (⟨#[]⟩ : ByteArray), .slice none 0 0, .slice none 0 0]) ?_ 4 _ rfl; (with_reducible repeat (first | refine qi ?_ _ | refine qk ?_ | refine qh ?_ _)); refine qq (cs := #[.string (⟨#[]⟩ : ByteArray), .string (⟨#[]⟩ : ByteArray), .string (⟨#[]⟩ : ByteArray), .slice none 0 0, .slice none 0 0]) ?_ 3 _ rfl; (with_reducible repeat (first | refine qi ?_ _ | refine qk ?_ | refine qh ?_ _)); refine qq (cs := #[.string (⟨#[]⟩ : ByteArray), .string (⟨#[]⟩ : ByteArray), .string (⟨#[]⟩ : ByteArray), .slice none 0 0, .slice none 0 0]) ?_ 2 _ rfl; (with_reducible repeat (first | refine qi ?_ _ | refine qk ?_ | refine qh ?_ _)); refine qq (cs := #[.string (⟨#[]⟩ : ByteArray), .string (⟨#[]⟩ : ByteArray), .string (⟨#[]⟩ : ByteArray), .slice none 0 0, .slice none 0 0]) ?_ 1 _ rfl; (with_reducible repeat (first | refine qi ?_ _ | refine qk ?_ | refine qh ?_ _)); refine qq (cs := #[.string (⟨#[]⟩ : ByteArray), .string (⟨#[]⟩ : ByteArray), .string (⟨#[]⟩ : ByteArray), .slice none 0 0, .slice none 0 0]) ?_ 0 _ rfl; (with_reducible repeat (first | refine qi ?_ _ | refine qk ?_ | refine qh ?_ _)); exact BK244.out) : p := h
theorem zz126 {p : Prop} (h : p := by (with_reducible repeat (first | refine qi ?_ _ | refine qk ?_ | refine qh ?_ _)); refine qq (cs := #[.int .i64 ((qe l0 x12_1).f0), .int .i64 ((qe l0 x12_1).f1), .string ((qe l0 x12_1).f2), .string ((qe l0 x12_1).f3), .string ((qe l0 x12_1).f4), .slice none 0 0]) ?_ 5 _ rfl; (with_reducible repeat (first | refine qi ?_ _ | refine qk ?_ | refine qh ?_ _)); refine qq (cs := #[.int .i64 ((qe l0 x12_1).f0), .int .i64 ((qe l0 x12_1).f1), .string ((qe l0 x12_1).f2), .string ((qe l0 x12_1).f3), .string (⟨#[]⟩ : ByteArray), .slice none 0 0]) ?_ 4 _ rfl; (with_reducible repeat (first | refine qi ?_ _ | refine qk ?_ | refine qh ?_ _)); refine qq (cs := #[.int .i64 ((qe l0 x12_1).f0), .int .i64 ((qe l0 x12_1).f1), .string ((qe l0 x12_1).f2), .string (⟨#[]⟩ : ByteArray), .string (⟨#[]⟩ : ByteArray), .slice none 0 0]) ?_ 3 _ rfl; (with_reducible repeat (first | refine qi ?_ _ | refine qk ?_ | refine qh ?_ _)); refine qq (cs := #[.int .i64 ((qe l0 x12_1).f0), .int .i64 ((qe l0 x12_1).f1), .string (⟨#[]⟩ : ByteArray), .string (⟨#[]⟩ : ByteArray), .string (⟨#[]⟩ : ByteArray), .slice none 0 0]) ?_ 2 _ rfl; (with_reducible repeat (first | refine qi ?_ _ | refine qk ?_ | refine qh ?_ _)); refine qq (cs := #[.int .i64 ((qe l0 x12_1).f0), .int .i64 0, .string (⟨#[]⟩ : ByteArray), .string (⟨#[]⟩ : ByteArray), .string (⟨#[]⟩ : ByteArray), .slice none 0 0]) ?_ 1 _ rfl; (with_reducible repeat (first | refine qi ?_ _ | refine qk ?_ | refine qh ?_ _)); refine qq (cs := #[.int .i64 0, .int .i64 0, .string (⟨#[]⟩ : ByteArray), .string (⟨#[]⟩ : ByteArray), .string (⟨#[]⟩ : ByteArray), .slice none 0 0]) ?_ 0 _ rfl; (with_reducible repeat (first | refine qi ?_ _ | refine qk ?_ | refine qh ?_ _)); exact BK183.out) : p := h
theorem zz127 {p : Prop} (h : p := by (with_reducible repeat (first | refine qi ?_ _ | refine qk ?_ | refine qh ?_ _)); refine qq (cs := #[.int .i64 ((qe l0 x12_1).f0), .int .i64 ((qe l0 x12_1).f1), .string ((qe l0 x12_1).f2), .string ((qe l0 x12_1).f3), .string ((qe l0 x12_1).f4), .slice none 0 0]) ?_ 5 _ rfl; (with_reducible repeat (first | refine qi ?_ _ | refine qk ?_ | refine qh ?_ _)); refine qq (cs := #[.int .i64 ((qe l0 x12_1).f0), .int .i64 ((qe l0 x12_1).f1), .string ((qe l0 x12_1).f2), .string ((qe l0 x12_1).f3), .string (⟨#[]⟩ : ByteArray), .slice none 0 0]) ?_ 4 _ rfl; (with_reducible repeat (first | refine qi ?_ _ | refine qk ?_ | refine qh ?_ _)); refine qq (cs := #[.int .i64 ((qe l0 x12_1).f0), .int .i64 ((qe l0 x12_1).f1), .string ((qe l0 x12_1).f2), .string (⟨#[]⟩ : ByteArray), .string (⟨#[]⟩ : ByteArray), .slice none 0 0]) ?_ 3 _ rfl; (with_reducible repeat (first | refine qi ?_ _ | refine qk ?_ | refine qh ?_ _)); refine qq (cs := #[.int .i64 ((qe l0 x12_1).f0), .int .i64 ((qe l0 x12_1).f1), .string (⟨#[]⟩ : ByteArray), .string (⟨#[]⟩ : ByteArray), .string (⟨#[]⟩ : ByteArray), .slice none 0 0]) ?_ 2 _ rfl; (with_reducible repeat (first | refine qi ?_ _ | refine qk ?_ | refine qh ?_ _)); refine qq (cs := #[.int .i64 ((qe l0 x12_1).f0), .int .i64 0, .string (⟨#[]⟩ : ByteArray), .string (⟨#[]⟩ : ByteArray), .string (⟨#[]⟩ : ByteArray), .slice none 0 0]) ?_ 1 _ rfl; (with_reducible repeat (first | refine qi ?_ _ | refine qk ?_ | refine qh ?_ _)); refine qq (cs := #[.int .i64 0, .int .i64 0, .string (⟨#[]⟩ : ByteArray), .string (⟨#[]⟩ : ByteArray), .string (⟨#[]⟩ : ByteArray), .slice none 0 0]) ?_ 0 _ rfl; (with_reducible repeat (first | refine qi ?_ _ | refine qk ?_ | refine qh ?_ _)); exact BK191.out) : p := h
end Go.Proofs.YtjbobecnlpiejaaDoorZ
namespace Go.Proofs
def Tryd.lays169_ren : Go.Shelf.Ren := ⟨fun | 169 => 27 | n => n, fun | 70 => 68 | 9 => 9 | 0 => 0 | 72 => 71 | 37 => 69 | 127 => 90 | 3 => 3 | 5 => 5 | n => n, fun | n => n⟩
theorem Tryd.lays169 : Go.Proofs.Lays.n169 Tryd.prog Tryd.lays169_ren := {
 mixed := by kernel_rfl
 f169 := Tryd.func27.trans (congrArg some (by kernel_rfl))
 t0 := Tryd.underlying0
 a0 := Tryd.isAgg0
 z0 := Tryd.sizeOf0
 v0 := Tryd.zeroValue0
 t3 := Tryd.underlying3
 a3 := Tryd.isAgg3
 z3 := Tryd.sizeOf3
 v3 := Tryd.zeroValue3
 t9 := Tryd.underlying9
 a9 := Tryd.isAgg9
 z9 := Tryd.sizeOf9
 v9 := Tryd.zeroValue9
 t37 := Tryd.underlying69
 a37 := Tryd.isAgg69
 z37 := Tryd.sizeOf69
 v37 := Tryd.zeroValue69
 t70 := Tryd.underlying68
 a70 := Tryd.isAgg68
 z70 := Tryd.sizeOf68
 v70 := Tryd.zeroValue68
 t72 := Tryd.underlying71
 a72 := Tryd.isAgg71
 z72 := Tryd.sizeOf71
 v72 := Tryd.zeroValue71
 t127 := Tryd.underlying90
 a127 := Tryd.isAgg90
 z127 := Tryd.sizeOf90
 v127 := Tryd.zeroValue90 }
theorem Tryd.Builder_Extra_169 : Builder.Extra Tryd.prog Tryd.lays169_ren := {
 sizeBuilder := by kernel_rfl
 liesBuilder := by kernel_rfl
 t5 := Tryd.underlying5
 a5 := Tryd.isAgg5
 z5 := Tryd.sizeOf5
 v5 := Tryd.zeroValue5
 infoByte := by kernel_rfl
 cellsByte := by kernel_rfl
 sizeByte := by kernel_rfl
 neB5 := by decide }
def Tryd.lays137_ren : Go.Shelf.Ren := ⟨fun | 137 => 69 | 217 => 75 | 266 => 83 | n => n, fun | 9 => 9 | 5 => 5 | 3 => 3 | n => n, fun | n => n⟩
theorem Tryd.lays137 : Go.Proofs.Lays.n137 Tryd.prog Tryd.lays137_ren := {
 mixed := by kernel_rfl
 f137 := Tryd.func69.trans (congrArg some (by kernel_rfl))
 f217 := Tryd.func75.trans (congrArg some (by kernel_rfl))
 f266 := Tryd.func83.trans (congrArg some (by kernel_rfl))
 t3 := Tryd.underlying3
 a3 := Tryd.isAgg3
 z3 := Tryd.sizeOf3
 v3 := Tryd.zeroValue3
 t5 := Tryd.underlying5
 a5 := Tryd.isAgg5
 z5 := Tryd.sizeOf5
 v5 := Tryd.zeroValue5
 t9 := Tryd.underlying9
 a9 := Tryd.isAgg9
 z9 := Tryd.sizeOf9
 v9 := Tryd.zeroValue9 }
open Go.RowKit in
theorem Tryd.strings_IndexByte (s : ByteArray) (c : Int) (w : World) :
  Calls Tryd.prog 69 #[.string s, .int .u8 c] w fun e w' => e = .returned (.int .i64 (Lib.indexByte s.data.toList c.toNat.toUInt8)) ∧ w' = w := Any.strings_IndexByte Tryd.lays137 s c w
open Go.RowKit in
theorem Tryd.Builder_String_any_k (B b : Nat) (l : List UInt8) (w : World) (h : Lib.IsBuilderF 71 5 B b (Lib.byteCells l) w) (hBw : B ≤ w.heap.size) :
  Calls Tryd.prog 27 #[.pointer (some ⟨b, 0, none⟩)] w fun e w' => e = .returned (.string ⟨l.toArray⟩) ∧ (Lib.IsBuilderF 71 5 B b (Lib.byteCells l) w' ∧ Below B w w' ∧ Lib.OthersKept 5 (some b) w w') := Any.Builder_String_any_k Tryd.lays169 Tryd.Builder_Extra_169 B b l w h hBw
def Tryd.laysM171_ren : Go.Shelf.Ren := ⟨fun | 171 => 58 | 243 => 67 | 246 => 74 | 283 => 79 | 284 => 80 | 285 => 81 | 286 => 82 | 129 => 90 | 317 => 89 | 318 => 91 | 319 => 92 | 320 => 93 | 337 => 97 | 338 => 98 | n => n, fun | 3 => 3 | 9 => 9 | 2 => 2 | 4 => 4 | 171 => 126 | 0 => 0 | 53 => 127 | 37 => 69 | 5 => 5 | 173 => 130 | 212 => 140 | 51 => 141 | 20 => 20 | 213 => 142 | 46 => 144 | 232 => 156 | 233 => 157 | n => n, fun | 17 => 0 | 18 => 4 | 19 => 5 | n => n⟩
theorem Tryd.laysM171 : Go.Proofs.LaysM.n171 Tryd.prog Tryd.laysM171_ren := {
 mixed := by kernel_rfl
 f129 := Tryd.func90.trans (congrArg some (by kernel_rfl))
 f171 := Tryd.func58.trans (congrArg some (by kernel_rfl))
 f243 := Tryd.func67.trans (congrArg some (by kernel_rfl))
 f246 := Tryd.func74.trans (congrArg some (by kernel_rfl))
 f283 := Tryd.func79.trans (congrArg some (by kernel_rfl))
 f284 := Tryd.func80.trans (congrArg some (by kernel_rfl))
 f285 := Tryd.func81.trans (congrArg some (by kernel_rfl))
 f286 := Tryd.func82.trans (congrArg some (by kernel_rfl))
 f317 := Tryd.func89.trans (congrArg some (by kernel_rfl))
 f318 := Tryd.func91.trans (congrArg some (by kernel_rfl))
 f319 := Tryd.func92.trans (congrArg some (by kernel_rfl))
 f320 := Tryd.func93.trans (congrArg some (by kernel_rfl))
 f337 := Tryd.func97.trans (congrArg some (by kernel_rfl))
 f338 := Tryd.func98.trans (congrArg some (by kernel_rfl))
 t0 := Tryd.underlying0
 a0 := Tryd.isAgg0
 z0 := Tryd.sizeOf0
 v0 := Tryd.zeroValue0
 t2 := Tryd.underlying2
 a2 := Tryd.isAgg2
 z2 := Tryd.sizeOf2
 v2 := Tryd.zeroValue2
 t3 := Tryd.underlying3
 a3 := Tryd.isAgg3
 z3 := Tryd.sizeOf3
 v3 := Tryd.zeroValue3
 t4 := Tryd.underlying4
 a4 := Tryd.isAgg4
 z4 := Tryd.sizeOf4
 v4 := Tryd.zeroValue4
 t5 := Tryd.underlying5
 a5 := Tryd.isAgg5
 z5 := Tryd.sizeOf5
 v5 := Tryd.zeroValue5
 t9 := Tryd.underlying9
 a9 := Tryd.isAgg9
 z9 := Tryd.sizeOf9
 v9 := Tryd.zeroValue9
 t20 := Tryd.underlying20
 a20 := Tryd.isAgg20
 z20 := Tryd.sizeOf20
 v20 := Tryd.zeroValue20
 t37 := Tryd.underlying69
 a37 := Tryd.isAgg69
 z37 := Tryd.sizeOf69
 v37 := Tryd.zeroValue69
 t46 := Tryd.underlying144
 a46 := Tryd.isAgg144
 z46 := Tryd.sizeOf144
 v46 := Tryd.zeroValue144
 t51 := Tryd.underlying141
 a51 := Tryd.isAgg141
 z51 := Tryd.sizeOf141
 v51 := Tryd.zeroValue141
 t53 := Tryd.underlying127
 a53 := Tryd.isAgg127
 z53 := Tryd.sizeOf127
 v53 := Tryd.zeroValue127
 t171 := Tryd.underlying126
 a171 := Tryd.isAgg126
 z171 := Tryd.sizeOf126
 v171 := Tryd.zeroValue126
 t173 := Tryd.underlying130
 a173 := Tryd.isAgg130
 z173 := Tryd.sizeOf130
 v173 := Tryd.zeroValue130
 t212 := Tryd.underlying140
 a212 := Tryd.isAgg140
 z212 := Tryd.sizeOf140
 v212 := Tryd.zeroValue140
 t213 := Tryd.underlying142
 a213 := Tryd.isAgg142
 z213 := Tryd.sizeOf142
 t232 := Tryd.underlying156
 a232 := Tryd.isAgg156
 z232 := Tryd.sizeOf156
 v232 := Tryd.zeroValue156
 t233 := Tryd.underlying157
 a233 := Tryd.isAgg157
 z233 := Tryd.sizeOf157
 v233 := Tryd.zeroValue157
 g17 := by kernel_rfl
 g18 := by kernel_rfl
 g19 := by kernel_rfl
 i0 := by kernel_rfl
 i2 := by kernel_rfl
 i3 := by kernel_rfl
 i4 := by kernel_rfl
 i5 := by kernel_rfl
 i9 := by kernel_rfl
 i20 := by kernel_rfl
 i37 := by kernel_rfl
 i46 := by kernel_rfl
 i51 := by kernel_rfl
 i53 := by kernel_rfl
 i171 := by kernel_rfl
 i173 := by kernel_rfl
 i212 := by kernel_rfl
 i232 := by kernel_rfl
 i233 := by kernel_rfl
 m17 := by kernel_rfl
 m18 := by kernel_rfl
 m19 := by kernel_rfl }
open Go.RowKit Go.Sort Go.Lib in
theorem Tryd.strconv_Itoa (n : Int) (h0 : -9223372036854775808 ≤ n) (h1 : n ≤ 9223372036854775807) (w : World) (htab : Lib.TabIs Tryd.prog w "internal/strconv.uint64pow10" .u64 Lib.pow10Tab) :
  Calls Tryd.prog 58 #[.int .i64 n] w fun e w' => e = .returned (.string ⟨(Lib.itoa n).toArray⟩) ∧ ∃ k os, w' = grow (w.drewN k) os := Any.strconv_Itoa Tryd.laysM171 n h0 h1 w htab
def Tryd.laysC172_ren : Go.Shelf.Ren := ⟨fun | 172 => 70 | 244 => 76 | 245 => 77 | 247 => 84 | 279 => 85 | 280 => 86 | 281 => 87 | 282 => 88 | 287 => 94 | 316 => 95 | 171 => 58 | 205 => 96 | 321 => 99 | 322 => 100 | 243 => 67 | 246 => 74 | 283 => 79 | 284 => 80 | 285 => 81 | 286 => 82 | 129 => 90 | 317 => 89 | 318 => 91 | 319 => 92 | 320 => 93 | 337 => 97 | 338 => 98 | n => n, fun | 9 => 9 | 3 => 3 | 75 => 73 | 76 => 75 | 4 => 4 | 5 => 5 | 167 => 132 | 37 => 69 | 0 => 0 | 85 => 133 | 2 => 2 | 168 => 135 | 53 => 127 | 175 => 146 | 46 => 144 | 210 => 149 | 127 => 90 | 145 => 155 | 143 => 153 | 21 => 21 | 171 => 126 | 173 => 130 | 212 => 140 | 51 => 141 | 20 => 20 | 213 => 142 | 232 => 156 | 233 => 157 | 80 => 77 | n => n, fun | 15 => 2 | 16 => 3 | 17 => 0 | 18 => 4 | 19 => 5 | n => n⟩
theorem Tryd.laysC172 : Go.Proofs.LaysC.n172 Tryd.prog Tryd.laysC172_ren := {
 mixed := by kernel_rfl
 f129 := Tryd.func90.trans (congrArg some (by kernel_rfl))
 f171 := Tryd.func58.trans (congrArg some (by kernel_rfl))
 f172 := Tryd.func70.trans (congrArg some (by kernel_rfl))
 f205 := Tryd.func96.trans (congrArg some (by kernel_rfl))
 f243 := Tryd.func67.trans (congrArg some (by kernel_rfl))
 f244 := Tryd.func76.trans (congrArg some (by kernel_rfl))
 f245 := Tryd.func77.trans (congrArg some (by kernel_rfl))
 f246 := Tryd.func74.trans (congrArg some (by kernel_rfl))
 f247 := Tryd.func84.trans (congrArg some (by kernel_rfl))
 f279 := Tryd.func85.trans (congrArg some (by kernel_rfl))
 f280 := Tryd.func86.trans (congrArg some (by kernel_rfl))
 f281 := Tryd.func87.trans (congrArg some (by kernel_rfl))
 f282 := Tryd.func88.trans (congrArg some (by kernel_rfl))
 f283 := Tryd.func79.trans (congrArg some (by kernel_rfl))
 f284 := Tryd.func80.trans (congrArg some (by kernel_rfl))
 f285 := Tryd.func81.trans (congrArg some (by kernel_rfl))
 f286 := Tryd.func82.trans (congrArg some (by kernel_rfl))
 f287 := Tryd.func94.trans (congrArg some (by kernel_rfl))
 f316 := Tryd.func95.trans (congrArg some (by kernel_rfl))
 f317 := Tryd.func89.trans (congrArg some (by kernel_rfl))
 f318 := Tryd.func91.trans (congrArg some (by kernel_rfl))
 f319 := Tryd.func92.trans (congrArg some (by kernel_rfl))
 f320 := Tryd.func93.trans (congrArg some (by kernel_rfl))
 f321 := Tryd.func99.trans (congrArg some (by kernel_rfl))
 f322 := Tryd.func100.trans (congrArg some (by kernel_rfl))
 f337 := Tryd.func97.trans (congrArg some (by kernel_rfl))
 f338 := Tryd.func98.trans (congrArg some (by kernel_rfl))
 t0 := Tryd.underlying0
 a0 := Tryd.isAgg0
 z0 := Tryd.sizeOf0
 v0 := Tryd.zeroValue0
 t2 := Tryd.underlying2
 a2 := Tryd.isAgg2
 z2 := Tryd.sizeOf2
 v2 := Tryd.zeroValue2
 t3 := Tryd.underlying3
 a3 := Tryd.isAgg3
 z3 := Tryd.sizeOf3
 v3 := Tryd.zeroValue3
 t4 := Tryd.underlying4
 a4 := Tryd.isAgg4
 z4 := Tryd.sizeOf4
 v4 := Tryd.zeroValue4
 t5 := Tryd.underlying5
 a5 := Tryd.isAgg5
 z5 := Tryd.sizeOf5
 v5 := Tryd.zeroValue5
 t9 := Tryd.underlying9
 a9 := Tryd.isAgg9
 z9 := Tryd.sizeOf9
 v9 := Tryd.zeroValue9
 t20 := Tryd.underlying20
 a20 := Tryd.isAgg20
 z20 := Tryd.sizeOf20
 v20 := Tryd.zeroValue20
 t21 := Tryd.underlying21
 a21 := Tryd.isAgg21
 z21 := Tryd.sizeOf21
 v21 := Tryd.zeroValue21
 t37 := Tryd.underlying69
 a37 := Tryd.isAgg69
 z37 := Tryd.sizeOf69
 v37 := Tryd.zeroValue69
 t46 := Tryd.underlying144
 a46 := Tryd.isAgg144
 z46 := Tryd.sizeOf144
 v46 := Tryd.zeroValue144
 t51 := Tryd.underlying141
 a51 := Tryd.isAgg141
 z51 := Tryd.sizeOf141
 v51 := Tryd.zeroValue141
 t53 := Tryd.underlying127
 a53 := Tryd.isAgg127
 z53 := Tryd.sizeOf127
 v53 := Tryd.zeroValue127
 t75 := Tryd.underlying73
 a75 := Tryd.isAgg73
 z75 := Tryd.sizeOf73
 v75 := Tryd.zeroValue73
 t76 := Tryd.underlying75
 a76 := Tryd.isAgg75
 z76 := Tryd.sizeOf75
 v76 := Tryd.zeroValue75
 t85 := Tryd.underlying133
 a85 := Tryd.isAgg133
 z85 := Tryd.sizeOf133
 v85 := Tryd.zeroValue133
 t127 := Tryd.underlying90
 a127 := Tryd.isAgg90
 z127 := Tryd.sizeOf90
 v127 := Tryd.zeroValue90
 t143 := Tryd.underlying153
 a143 := Tryd.isAgg153
 z143 := Tryd.sizeOf153
 v143 := Tryd.zeroValue153
 t145 := Tryd.underlying155
 a145 := Tryd.isAgg155
 z145 := Tryd.sizeOf155
 v145 := Tryd.zeroValue155
 t167 := Tryd.underlying132
 a167 := Tryd.isAgg132
 z167 := Tryd.sizeOf132
 v167 := Tryd.zeroValue132
 t168 := Tryd.underlying135
 a168 := Tryd.isAgg135
 z168 := Tryd.sizeOf135
 v168 := Tryd.zeroValue135
 t171 := Tryd.underlying126
 a171 := Tryd.isAgg126
 z171 := Tryd.sizeOf126
 v171 := Tryd.zeroValue126
 t173 := Tryd.underlying130
 a173 := Tryd.isAgg130
 z173 := Tryd.sizeOf130
 v173 := Tryd.zeroValue130
 t175 := Tryd.underlying146
 a175 := Tryd.isAgg146
 z175 := Tryd.sizeOf146
 v175 := Tryd.zeroValue146
 t210 := Tryd.underlying149
 a210 := Tryd.isAgg149
 z210 := Tryd.sizeOf149
 v210 := Tryd.zeroValue149
 t212 := Tryd.underlying140
 a212 := Tryd.isAgg140
 z212 := Tryd.sizeOf140
 v212 := Tryd.zeroValue140
 t213 := Tryd.underlying142
 a213 := Tryd.isAgg142
 z213 := Tryd.sizeOf142
 t232 := Tryd.underlying156
 a232 := Tryd.isAgg156
 z232 := Tryd.sizeOf156
 v232 := Tryd.zeroValue156
 t233 := Tryd.underlying157
 a233 := Tryd.isAgg157
 z233 := Tryd.sizeOf157
 v233 := Tryd.zeroValue157
 g15 := by kernel_rfl
 g16 := by kernel_rfl
 g17 := by kernel_rfl
 g18 := by kernel_rfl
 g19 := by kernel_rfl
 t80 := Tryd.underlying77
 a80 := Tryd.isAgg77
 z80 := Tryd.sizeOf77
 v80 := Tryd.zeroValue77
 i0 := by kernel_rfl
 i2 := by kernel_rfl
 i3 := by kernel_rfl
 i4 := by kernel_rfl
 i5 := by kernel_rfl
 i9 := by kernel_rfl
 i20 := by kernel_rfl
 i21 := by kernel_rfl
 i37 := by kernel_rfl
 i46 := by kernel_rfl
 i51 := by kernel_rfl
 i53 := by kernel_rfl
 i75 := by kernel_rfl
 i76 := by kernel_rfl
 i80 := by kernel_rfl
 i85 := by kernel_rfl
 i127 := by kernel_rfl
 i143 := by kernel_rfl
 i145 := by kernel_rfl
 i167 := by kernel_rfl
 i168 := by kernel_rfl
 i171 := by kernel_rfl
 i173 := by kernel_rfl
 i175 := by kernel_rfl
 i210 := by kernel_rfl
 i212 := by kernel_rfl
 i232 := by kernel_rfl
 i233 := by kernel_rfl
 m15 := by kernel_rfl
 m16 := by kernel_rfl
 m17 := by kernel_rfl
 m18 := by kernel_rfl
 m19 := by kernel_rfl
 c0 := by kernel_rfl
 c2 := by kernel_rfl
 c3 := by kernel_rfl
 c4 := by kernel_rfl
 c5 := by kernel_rfl
 c9 := by kernel_rfl
 c20 := by kernel_rfl
 c21 := by kernel_rfl
 c37 := by kernel_rfl
 c46 := by kernel_rfl
 c51 := by kernel_rfl
 c53 := by kernel_rfl
 c75 := by kernel_rfl
 c76 := by kernel_rfl
 c80 := by kernel_rfl
 c85 := by kernel_rfl
 c127 := by kernel_rfl
 c143 := by kernel_rfl
 c145 := by kernel_rfl
 c167 := by kernel_rfl
 c168 := by kernel_rfl
 c171 := by kernel_rfl
 c173 := by kernel_rfl
 c175 := by kernel_rfl
 c210 := by kernel_rfl
 c212 := by kernel_rfl
 c213 := by kernel_rfl
 c232 := by kernel_rfl
 c233 := by kernel_rfl }
open Go.RowKit in
theorem Tryd.strconv_Atoi_ok (s : ByteArray) (hmax : s.size ≤ 9223372036854775806) (v : Int) (h : Lib.atoiAll s.data.toList = .ok v) (w : World) :
  Calls Tryd.prog 70 #[.string s] w fun e w' => e = .returned (.tuple #[.int .i64 v, .nilIface]) ∧ (w' = w ∨ ∃ t, w' = Lib.bytesWorld w 5 t) := Any.strconv_Atoi_ok Tryd.laysC172 s hmax v h w
open Go.RowKit in
theorem Tryd.strconv_Atoi_syntax_var (s : ByteArray) (hlim : s.size ≤ 281474976710656) (h : Lib.atoiAll s.data.toList = Lib.NumEnd.syntax) (tp : TypeId) (p : Value) (w : World) (hvar : w.var? Tryd.prog "strconv.ErrSyntax" = some #[.iface tp p]) :
  Calls Tryd.prog 70 #[.string s] w fun e w' => ∃ N, e = .returned (.tuple #[.int .i64 0, .iface 135 (.pointer (some ⟨N, 0, none⟩))]) ∧ w.heap.size ≤ N ∧ w'.heap[N]? = some (.cells #[.string ⟨#[65, 116, 111, 105]⟩, .string s, .iface tp p] 149 (0, 0)) ∧ Below w.heap.size w w' := Any.strconv_Atoi_syntax_var Tryd.laysC172 s hlim h tp p w hvar
open Go.RowKit in
theorem Tryd.strconv_Atoi_range_var (s : ByteArray) (hlim : s.size ≤ 281474976710656) (h : Lib.atoiAll s.data.toList = .range) (tp : TypeId) (p : Value) (w : World) (hvar : w.var? Tryd.prog "strconv.ErrRange" = some #[.iface tp p]) :
  Calls Tryd.prog 70 #[.string s] w fun e w' => ∃ N, e = .returned (.tuple #[.int .i64 (Lib.atoiSat s.data.toList), .iface 135 (.pointer (some ⟨N, 0, none⟩))]) ∧ w.heap.size ≤ N ∧ w'.heap[N]? = some (.cells #[.string ⟨#[65, 116, 111, 105]⟩, .string s, .iface tp p] 149 (0, 0)) ∧ Below w.heap.size w w' := Any.strconv_Atoi_range_var Tryd.laysC172 s hlim h tp p w hvar
def Tryd.lays167_ren : Go.Shelf.Ren := ⟨fun | 167 => 24 | 240 => 38 | 276 => 56 | n => n, fun | 0 => 0 | 4 => 4 | 5 => 5 | 9 => 9 | 20 => 20 | 37 => 69 | 70 => 68 | 72 => 71 | 75 => 73 | 80 => 77 | 164 => 103 | n => n, fun | n => n⟩
theorem Tryd.lays167 : Go.Proofs.Lays.n167 Tryd.prog Tryd.lays167_ren := {
 mixed := by kernel_rfl
 f167 := Tryd.func24.trans (congrArg some (by kernel_rfl))
 f240 := Tryd.func38.trans (congrArg some (by kernel_rfl))
 f276 := Tryd.func56.trans (congrArg some (by kernel_rfl))
 t0 := Tryd.underlying0
 a0 := Tryd.isAgg0
 z0 := Tryd.sizeOf0
 v0 := Tryd.zeroValue0
 t4 := Tryd.underlying4
 a4 := Tryd.isAgg4
 z4 := Tryd.sizeOf4
 v4 := Tryd.zeroValue4
 t5 := Tryd.underlying5
 a5 := Tryd.isAgg5
 z5 := Tryd.sizeOf5
 v5 := Tryd.zeroValue5
 t9 := Tryd.underlying9
 a9 := Tryd.isAgg9
 z9 := Tryd.sizeOf9
 v9 := Tryd.zeroValue9
 t20 := Tryd.underlying20
 a20 := Tryd.isAgg20
 z20 := Tryd.sizeOf20
 v20 := Tryd.zeroValue20
 t37 := Tryd.underlying69
 a37 := Tryd.isAgg69
 z37 := Tryd.sizeOf69
 v37 := Tryd.zeroValue69
 t70 := Tryd.underlying68
 a70 := Tryd.isAgg68
 z70 := Tryd.sizeOf68
 v70 := Tryd.zeroValue68
 t72 := Tryd.underlying71
 a72 := Tryd.isAgg71
 z72 := Tryd.sizeOf71
 v72 := Tryd.zeroValue71
 t75 := Tryd.underlying73
 a75 := Tryd.isAgg73
 z75 := Tryd.sizeOf73
 v75 := Tryd.zeroValue73
 t164 := Tryd.underlying103
 a164 := Tryd.isAgg103
 z164 := Tryd.sizeOf103
 v164 := Tryd.zeroValue103 }
theorem Tryd.Builder_Extra_167 : Builder.Extra Tryd.prog Tryd.lays167_ren := {
 sizeBuilder := by kernel_rfl
 liesBuilder := by kernel_rfl
 t5 := Tryd.underlying5
 a5 := Tryd.isAgg5
 z5 := Tryd.sizeOf5
 v5 := Tryd.zeroValue5
 infoByte := by kernel_rfl
 cellsByte := by kernel_rfl
 sizeByte := by kernel_rfl
 neB5 := by decide }
def Tryd.lays166_ren : Go.Shelf.Ren := ⟨fun | 166 => 25 | 240 => 38 | 276 => 56 | n => n, fun | 0 => 0 | 3 => 3 | 4 => 4 | 5 => 5 | 9 => 9 | 20 => 20 | 37 => 69 | 70 => 68 | 72 => 71 | 75 => 73 | 80 => 77 | 164 => 103 | n => n, fun | n => n⟩
theorem Tryd.lays166 : Go.Proofs.Lays.n166 Tryd.prog Tryd.lays166_ren := {
 mixed := by kernel_rfl
 f166 := Tryd.func25.trans (congrArg some (by kernel_rfl))
 f240 := Tryd.func38.trans (congrArg some (by kernel_rfl))
 f276 := Tryd.func56.trans (congrArg some (by kernel_rfl))
 t0 := Tryd.underlying0
 a0 := Tryd.isAgg0
 z0 := Tryd.sizeOf0
 v0 := Tryd.zeroValue0
 t3 := Tryd.underlying3
 a3 := Tryd.isAgg3
 z3 := Tryd.sizeOf3
 v3 := Tryd.zeroValue3
 t4 := Tryd.underlying4
 a4 := Tryd.isAgg4
 z4 := Tryd.sizeOf4
 v4 := Tryd.zeroValue4
 t9 := Tryd.underlying9
 a9 := Tryd.isAgg9
 z9 := Tryd.sizeOf9
 v9 := Tryd.zeroValue9
 t20 := Tryd.underlying20
 a20 := Tryd.isAgg20
 z20 := Tryd.sizeOf20
 v20 := Tryd.zeroValue20
 t37 := Tryd.underlying69
 a37 := Tryd.isAgg69
 z37 := Tryd.sizeOf69
 v37 := Tryd.zeroValue69
 t70 := Tryd.underlying68
 a70 := Tryd.isAgg68
 z70 := Tryd.sizeOf68
 v70 := Tryd.zeroValue68
 t72 := Tryd.underlying71
 a72 := Tryd.isAgg71
 z72 := Tryd.sizeOf71
 v72 := Tryd.zeroValue71
 t75 := Tryd.underlying73
 a75 := Tryd.isAgg73
 z75 := Tryd.sizeOf73
 v75 := Tryd.zeroValue73
 t164 := Tryd.underlying103
 a164 := Tryd.isAgg103
 z164 := Tryd.sizeOf103
 v164 := Tryd.zeroValue103 }
theorem Tryd.Builder_Extra_166 : Builder.Extra Tryd.prog Tryd.lays166_ren := {
 sizeBuilder := by kernel_rfl
 liesBuilder := by kernel_rfl
 t5 := Tryd.underlying5
 a5 := Tryd.isAgg5
 z5 := Tryd.sizeOf5
 v5 := Tryd.zeroValue5
 infoByte := by kernel_rfl
 cellsByte := by kernel_rfl
 sizeByte := by kernel_rfl
 neB5 := by decide }
open Go.RowKit in
theorem Tryd.Builder_WriteByte_k (B b : Nat) (bs : List Value) (c : Int) (w : World) (h : Lib.IsBuilderF 71 5 B b bs w) (hlen : bs.length + 1 ≤ 140737488355328) (hBw : B ≤ w.heap.size) :
  Calls Tryd.prog 24 #[.pointer (some ⟨b, 0, none⟩), .int .u8 c] w fun e w' => e = .returned .nilIface ∧ (Lib.BuilderAtF 71 5 B b (.pointer (some ⟨b, 0, none⟩)) (bs ++ [.int .u8 c]) w' ∧ Below B w w' ∧ Lib.OthersKept 5 (some b) w w') := Any.Builder_WriteByte_k Tryd.lays167 Tryd.Builder_Extra_167 B b bs c w h hlen hBw
open Go.RowKit in
theorem Tryd.Builder_WriteString_k (B b : Nat) (bs : List Value) (s : ByteArray) (w : World) (h : Lib.IsBuilderF 71 5 B b bs w) (hlen : bs.length + s.size ≤ 140737488355328) (hBw : B ≤ w.heap.size) :
  Calls Tryd.prog 25 #[.pointer (some ⟨b, 0, none⟩), .string s] w fun e w' => e = .returned (.tuple #[.int .i64 s.size, .nilIface]) ∧ (Lib.BuilderAtF 71 5 B b (.pointer (some ⟨b, 0, none⟩)) (bs ++ Lib.strCells s) w' ∧ Below B w w' ∧ Lib.OthersKept 5 (some b) w w') := Any.Builder_WriteString_k Tryd.lays166 Tryd.Builder_Extra_166 B b bs s w h hlen hBw
end Go.Proofs
namespace Go.Proofs.YtjbobecnlpiejaaDoor.Q
open Go.Proofs.YtjbobecnlpiejaaDoorZ
open Go.RowKit Go.Proofs.YtjbobecnlpiejaaDoorW.PrintWords Go.Proofs.YtjbobecnlpiejaaDoorW.PrintLast Go.Proofs.YtjbobecnlpiejaaDoorW.PrintMore
attribute [local go_sem] qpb qqb qvb qwb
def errW : Option Int → Value
 | none => .nilIface
 | some c => .iface 0 (.int .i64 c)
theorem qn : errW none = .nilIface := rfl
theorem qo (c : Int) : errW (some c) = .iface 0 (.int .i64 c) := rfl
def Glob (w : World) : Prop := Lib.TabIs Tryd.prog w "internal/strconv.uint64pow10" .u64 Lib.pow10Tab ∧ (∃ tp p, w.var? Tryd.prog "strconv.ErrSyntax" = some #[.iface tp p]) ∧ ∃ tp p, w.var? Tryd.prog "strconv.ErrRange" = some #[.iface tp p]
theorem var_keeps {P : Program} {w w' : World} {n : String} {cs : Array Value} (h : w.var? P n = some cs) (hb : Below w.heap.size w w') : w'.var? P n = some cs := by
 unfold World.var? at h ⊢
 obtain ⟨g, hg, h⟩ := Option.bind_eq_some_iff.1 h
 have hlt : g < w.heap.size := by
  rcases Nat.lt_or_ge g w.heap.size with h1 | h1
  ·exact h1
  ·rw [Array.getElem?_eq_none h1] at h; cases h
 rw [hg]
 simp only [Option.bind_some]
 rw [hb.block g hlt]
 exact h
theorem Glob.below {w w' : World} (h : Glob w) (hb : Below w.heap.size w w') : Glob w' := by
 obtain ⟨h1, ⟨tp, p, h2⟩, tp', p', h3⟩ := h
 exact ⟨var_keeps h1 hb, ⟨tp, p, var_keeps h2 hb⟩, tp', p', var_keeps h3 hb⟩
theorem R_empty {α : Type} (d : Kd α) (e : Nat) (W : World) (base : Nat) (hb : base ≤ W.heap.size) : d.R e (W.alloc (.cells #[] e)) base (fun _ => True) (.slice (some ⟨W.heap.size, 0, none⟩) 0 0) [] :=
 ⟨fun _ _ => trivial, [], ⟨by simp, .inr ⟨W.heap.size, 0, #[], rfl, hb, heap_alloc_new W _, by simp, by simp, by simp, by simp⟩⟩, Reps.none _ _⟩
def Bld (B : Nat) (l : List UInt8) (W : World) : Prop := Lib.IsBuilderF 71 5 B B (Lib.byteCells l) W
theorem Bld.below {B : Nat} {l : List UInt8} {W W1 : World} (h : Bld B l W) (hb : Below W.heap.size W W1) : Bld B l W1 := by
 have key : ∀ p, Lib.BuilderAtF 71 5 B B p (Lib.byteCells l) W → Lib.BuilderAtF 71 5 B B p (Lib.byteCells l) W1 := by
  rintro p ⟨hB, v, hv, hown, hne⟩
  have hlt : B < W.heap.size := (Array.getElem?_eq_some_iff.1 hv).1
  exact ⟨hB, v, (hb.block B hlt).trans hv, hown.kept (grown_of_below hb none) (by cases v.ownBlock <;> simp), hne⟩
 exact h.imp (key _) (key _)
theorem Bld.fresh (w : World) : Bld w.heap.size [] (w.alloc (.cells #[.pointer none, .slice none 0 0] 71)) := Lib.IsBuilderF.of (Lib.fresh_isBuilder _ _ w)
theorem Bld.byte (B : Nat) (l : List UInt8) (c : Int) (w : World) (h : Bld B l w) (h0 : 0 ≤ c) (h1 : c ≤ 255) (hlen : l.length + 1 ≤ 140737488355328) (hB : B ≤ w.heap.size) :
  Calls Tryd.prog 24 #[.pointer (some ⟨B, 0, none⟩), .int .u8 c] w fun e w' => e = .returned .nilIface ∧ Bld B (l ++ [c.toNat.toUInt8]) w' ∧ Below B w w' ∧ Lib.OthersKept 5 (some B) w w' := by
 refine (Tryd.Builder_WriteByte_k B B _ c w h (by rw [Lib.byteCells_length]; exact hlen) hB).mono ?_
 rintro e w' ⟨rfl, h2, hb, ho⟩
 refine ⟨rfl, .inr ?_, hb, ho⟩
 rw [Lib.byteCells_append]
 have hc : ((c.toNat.toUInt8).toNat : Int) = c := by
  obtain ⟨n, rfl⟩ := Int.eq_ofNat_of_zero_le h0
  simp
  omega
 have e1 : Lib.byteCells [c.toNat.toUInt8] = [.int .u8 c] := by simp only [Lib.byteCells, List.map_cons, List.map_nil, hc]
 rw [e1]
 exact h2
theorem Bld.str (B : Nat) (l : List UInt8) (s : ByteArray) (w : World) (h : Bld B l w) (hlen : l.length + s.size ≤ 140737488355328) (hB : B ≤ w.heap.size) :
  Calls Tryd.prog 25 #[.pointer (some ⟨B, 0, none⟩), .string s] w fun e w' => e = .returned (.tuple #[.int .i64 s.size, .nilIface]) ∧ Bld B (l ++ s.data.toList) w' ∧ Below B w w' ∧ Lib.OthersKept 5 (some B) w w' := by
 refine (Tryd.Builder_WriteString_k B B _ s w h (by rw [Lib.byteCells_length]; exact hlen) hB).mono ?_
 rintro e w' ⟨rfl, h2, hb, ho⟩
 refine ⟨rfl, .inr ?_, hb, ho⟩
 rw [Lib.byteCells_append]
 exact h2
theorem Bld.out (B : Nat) (l : List UInt8) (w : World) (h : Bld B l w) (hB : B ≤ w.heap.size) :
  Calls Tryd.prog 27 #[.pointer (some ⟨B, 0, none⟩)] w fun e w' => e = .returned (.string ⟨l.toArray⟩) ∧ Below B w w' := by
 refine (Tryd.Builder_String_any_k B B l w h hB).mono ?_
 rintro e w' ⟨rfl, _, hb, _⟩
 exact ⟨rfl, hb⟩
theorem info3 : (Tryd.prog.info? 3).map (fun i => (i.zero, i.size, i.bytes)) = some (some (.int .i64 0), 1, 8) := by kernel_rfl
theorem info41 : (Tryd.prog.info? 41).map (fun i => (i.zero, i.size, i.bytes)) = some (some (.agg #[(.bool false), (.bool false), (.string ⟨#[]⟩), (.string ⟨#[]⟩), (.slice none 0 0)]), 5, 64) := by kernel_rfl
theorem info46 : (Tryd.prog.info? 46).map (fun i => (i.zero, i.size, i.bytes)) = some (some (.agg #[(.int .i64 0), (.int .i64 0), (.string ⟨#[]⟩), (.string ⟨#[]⟩), (.string ⟨#[]⟩), (.slice none 0 0)]), 6, 88) := by kernel_rfl
theorem info84 : (Tryd.prog.info? 84).map (fun i => (i.zero, i.size, i.bytes)) = some (some (.agg #[(.string ⟨#[]⟩), (.string ⟨#[]⟩), (.string ⟨#[]⟩), (.slice none 0 0), (.slice none 0 0)]), 5, 96) := by kernel_rfl
structure S33 where
 f0 : ByteArray
 f1 : ByteArray
 f2 : Bool
def z33 : S33 := ⟨(⟨#[]⟩ : ByteArray), (⟨#[]⟩ : ByteArray), false⟩
def k33 : Kd S33 := Kd.iso (Kd.pair Kd.string (Kd.pair Kd.string Kd.bool)) (fun x : S33 => (x.f0, x.f1, x.f2))
theorem k33_heap : Kd.Heap k33 := Kd.heap_iso _ (Kd.heap_pair Kd.heap_string (Kd.heap_pair Kd.heap_string Kd.heap_bool))
theorem k33_open {w : World} {x : S33} {cs : List Value} (h : k33.K w x cs) : cs = [.string x.f0, .string x.f1, .bool x.f2] := by
 obtain ⟨_, _, rfl, rfl, ⟨_, _, rfl, rfl, rfl⟩⟩ := h
 exact rfl
theorem k33_mk (w : World) (x : S33)  : k33.K w x [.string x.f0, .string x.f1, .bool x.f2] := ⟨[.string x.f0], [.string x.f1, .bool x.f2], rfl, rfl, ⟨[.string x.f1], [.bool x.f2], rfl, rfl, rfl⟩⟩
theorem k33_mkM (w : World) (base : Nat) (ok : Nat → Prop) (x : S33)  : k33.M w base ok x [.string x.f0, .string x.f1, .bool x.f2] := ⟨[.string x.f0], [.string x.f1, .bool x.f2], rfl, rfl, ⟨[.string x.f1], [.bool x.f2], rfl, rfl, rfl⟩⟩
def rd_T33 (xs : List S33) (i : Int) : S33 := xs.getD i.toNat z33
theorem at_T33 {w : World} {A : Option Addr} {n : Nat} {xs : List S33} (h : Kd.C k33 w A n xs) (i : Int) (h0 : 0 ≤ i) (h1 : i < n) : ∃ ad , A = some ad ∧ w.cell? (ad.add (i.toNat * 3)) = some (.string (rd_T33 xs i).f0) ∧ w.cell? ⟨(ad.add (i.toNat * 3)).block, (ad.add (i.toNat * 3)).off + 1, none⟩ = some (.string (rd_T33 xs i).f1) ∧ w.cell? ⟨(ad.add (i.toNat * 3)).block, (ad.add (i.toNat * 3)).off + 2, none⟩ = some (.bool (rd_T33 xs i).f2) := by
 obtain ⟨ad, c, e, _, hK, hc0⟩ := Kd.C_get h z33 i h0 h1
 have hc : ∀ j u, c[j]? = some u → w.cell? (ad.add (i.toNat * 3 + j)) = some u := hc0
 obtain rfl := k33_open hK
 exact ⟨ad, e, hc 0 _ rfl, zz8, zz9⟩
structure S41 where
 f0 : Bool
 f1 : Bool
 f2 : ByteArray
 f3 : ByteArray
 f4 : (List S33)
def z41 : S41 := ⟨false, false, (⟨#[]⟩ : ByteArray), (⟨#[]⟩ : ByteArray), ([] : List S33)⟩
def k41 : Kd S41 := Kd.iso (Kd.pair Kd.bool (Kd.pair Kd.bool (Kd.pair Kd.string (Kd.pair Kd.string (Kd.slice 33 k33))))) (fun x : S41 => (x.f0, x.f1, x.f2, x.f3, x.f4))
theorem k41_open {w : World} {x : S41} {cs : List Value} (h : k41.K w x cs) : ∃ A4 c4, cs = [.bool x.f0, .bool x.f1, .string x.f2, .string x.f3, .slice A4 x.f4.length c4] ∧ x.f4.length ≤ c4 ∧ k33.C w A4 x.f4.length x.f4 := by
 obtain ⟨_, _, rfl, rfl, ⟨_, _, rfl, rfl, ⟨_, _, rfl, rfl, ⟨_, _, rfl, rfl, ⟨A4, c4, rfl, l4, g4⟩⟩⟩⟩⟩ := h
 exact ⟨A4, c4, rfl, l4, g4⟩
theorem k41_mk (w : World) (x : S41) {A4 : Option Addr} {c4 : Nat} (l4 : x.f4.length ≤ c4) (g4 : k33.C w A4 x.f4.length x.f4) : k41.K w x [.bool x.f0, .bool x.f1, .string x.f2, .string x.f3, .slice A4 x.f4.length c4] := ⟨[.bool x.f0], [.bool x.f1, .string x.f2, .string x.f3, .slice A4 x.f4.length c4], rfl, rfl, ⟨[.bool x.f1], [.string x.f2, .string x.f3, .slice A4 x.f4.length c4], rfl, rfl, ⟨[.string x.f2], [.string x.f3, .slice A4 x.f4.length c4], rfl, rfl, ⟨[.string x.f3], [.slice A4 x.f4.length c4], rfl, rfl, ⟨A4, c4, rfl, l4, g4⟩⟩⟩⟩⟩
theorem k41_mkF (W : World) (ok : Nat → Prop) (x : S41) {A4 : Option Addr} {c4 : Nat} (l4 : x.f4.length ≤ c4) (g4 : Kd.F k33 W ok A4 x.f4.length x.f4) : Kd.FK k41 W ok x [.bool x.f0, .bool x.f1, .string x.f2, .string x.f3, .slice A4 x.f4.length c4] := fun W2 hW => k41_mk W2 x l4 (g4 W2 hW)
def qab (xs : List S41) (i : Int) : S41 := xs.getD i.toNat z41
theorem at_T41 {w : World} {A : Option Addr} {n : Nat} {xs : List S41} (h : Kd.C k41 w A n xs) (i : Int) (h0 : 0 ≤ i) (h1 : i < n) : ∃ ad A4 c4, A = some ad ∧ w.cell? (ad.add (i.toNat * 5)) = some (.bool (qab xs i).f0) ∧ w.cell? ⟨(ad.add (i.toNat * 5)).block, (ad.add (i.toNat * 5)).off + 1, none⟩ = some (.bool (qab xs i).f1) ∧ w.cell? ⟨(ad.add (i.toNat * 5)).block, (ad.add (i.toNat * 5)).off + 2, none⟩ = some (.string (qab xs i).f2) ∧ w.cell? ⟨(ad.add (i.toNat * 5)).block, (ad.add (i.toNat * 5)).off + 3, none⟩ = some (.string (qab xs i).f3) ∧ w.cell? ⟨(ad.add (i.toNat * 5)).block, (ad.add (i.toNat * 5)).off + 4, none⟩ = some (.slice A4 (qab xs i).f4.length c4) ∧ (qab xs i).f4.length ≤ c4 ∧ k33.C w A4 (qab xs i).f4.length (qab xs i).f4 := by
 obtain ⟨ad, c, e, _, hK, hc0⟩ := Kd.C_get h z41 i h0 h1
 have hc : ∀ j u, c[j]? = some u → w.cell? (ad.add (i.toNat * 5 + j)) = some u := hc0
 obtain ⟨A4, c4, rfl, l4, g4⟩ := k41_open hK
 exact ⟨ad, A4, c4, e, hc 0 _ rfl, zz8, zz9, zz10, zz11, l4, g4⟩
structure S48 where
 f0 : ByteArray
 f1 : ByteArray
def z48 : S48 := ⟨(⟨#[]⟩ : ByteArray), (⟨#[]⟩ : ByteArray)⟩
def k48 : Kd S48 := Kd.iso (Kd.pair Kd.string Kd.string) (fun x : S48 => (x.f0, x.f1))
theorem k48_heap : Kd.Heap k48 := Kd.heap_iso _ (Kd.heap_pair Kd.heap_string Kd.heap_string)
theorem k48_open {w : World} {x : S48} {cs : List Value} (h : k48.K w x cs) : cs = [.string x.f0, .string x.f1] := by
 obtain ⟨_, _, rfl, rfl, rfl⟩ := h
 exact rfl
theorem k48_mk (w : World) (x : S48)  : k48.K w x [.string x.f0, .string x.f1] := ⟨[.string x.f0], [.string x.f1], rfl, rfl, rfl⟩
theorem k48_mkM (w : World) (base : Nat) (ok : Nat → Prop) (x : S48)  : k48.M w base ok x [.string x.f0, .string x.f1] := ⟨[.string x.f0], [.string x.f1], rfl, rfl, rfl⟩
def qy (xs : List S48) (i : Int) : S48 := xs.getD i.toNat z48
theorem at_T48 {w : World} {A : Option Addr} {n : Nat} {xs : List S48} (h : Kd.C k48 w A n xs) (i : Int) (h0 : 0 ≤ i) (h1 : i < n) : ∃ ad , A = some ad ∧ w.cell? (ad.add (i.toNat * 2)) = some (.string (qy xs i).f0) ∧ w.cell? ⟨(ad.add (i.toNat * 2)).block, (ad.add (i.toNat * 2)).off + 1, none⟩ = some (.string (qy xs i).f1) := by
 obtain ⟨ad, c, e, _, hK, hc0⟩ := Kd.C_get h z48 i h0 h1
 have hc : ∀ j u, c[j]? = some u → w.cell? (ad.add (i.toNat * 2 + j)) = some u := hc0
 obtain rfl := k48_open hK
 exact ⟨ad, e, hc 0 _ rfl, zz8⟩
structure S46 where
 f0 : Int
 f1 : Int
 f2 : ByteArray
 f3 : ByteArray
 f4 : ByteArray
 f5 : (List S48)
def z46 : S46 := ⟨(0 : Int), (0 : Int), (⟨#[]⟩ : ByteArray), (⟨#[]⟩ : ByteArray), (⟨#[]⟩ : ByteArray), ([] : List S48)⟩
def k46 : Kd S46 := Kd.iso (Kd.pair (Kd.int .i64) (Kd.pair (Kd.int .i64) (Kd.pair Kd.string (Kd.pair Kd.string (Kd.pair Kd.string (Kd.slice 48 k48)))))) (fun x : S46 => (x.f0, x.f1, x.f2, x.f3, x.f4, x.f5))
theorem k46_heap : Kd.Heap k46 := Kd.heap_iso _ (Kd.heap_pair (Kd.heap_int .i64) (Kd.heap_pair (Kd.heap_int .i64) (Kd.heap_pair Kd.heap_string (Kd.heap_pair Kd.heap_string (Kd.heap_pair Kd.heap_string (Kd.heap_slice 48 k48_heap))))))
theorem k46_open {w : World} {x : S46} {cs : List Value} (h : k46.K w x cs) : ∃ A5 c5, cs = [.int .i64 x.f0, .int .i64 x.f1, .string x.f2, .string x.f3, .string x.f4, .slice A5 x.f5.length c5] ∧ x.f5.length ≤ c5 ∧ k48.C w A5 x.f5.length x.f5 := by
 obtain ⟨_, _, rfl, rfl, ⟨_, _, rfl, rfl, ⟨_, _, rfl, rfl, ⟨_, _, rfl, rfl, ⟨_, _, rfl, rfl, ⟨A5, c5, rfl, l5, g5⟩⟩⟩⟩⟩⟩ := h
 exact ⟨A5, c5, rfl, l5, g5⟩
theorem k46_mk (w : World) (x : S46) {A5 : Option Addr} {c5 : Nat} (l5 : x.f5.length ≤ c5) (g5 : k48.C w A5 x.f5.length x.f5) : k46.K w x [.int .i64 x.f0, .int .i64 x.f1, .string x.f2, .string x.f3, .string x.f4, .slice A5 x.f5.length c5] := ⟨[.int .i64 x.f0], [.int .i64 x.f1, .string x.f2, .string x.f3, .string x.f4, .slice A5 x.f5.length c5], rfl, rfl, ⟨[.int .i64 x.f1], [.string x.f2, .string x.f3, .string x.f4, .slice A5 x.f5.length c5], rfl, rfl, ⟨[.string x.f2], [.string x.f3, .string x.f4, .slice A5 x.f5.length c5], rfl, rfl, ⟨[.string x.f3], [.string x.f4, .slice A5 x.f5.length c5], rfl, rfl, ⟨[.string x.f4], [.slice A5 x.f5.length c5], rfl, rfl, ⟨A5, c5, rfl, l5, g5⟩⟩⟩⟩⟩⟩
theorem k46_openF {W : World} {ok : Nat → Prop} {x : S46} {cs : List Value} (h : Kd.FK k46 W ok x cs) : ∃ A5 c5, cs = [.int .i64 x.f0, .int .i64 x.f1, .string x.f2, .string x.f3, .string x.f4, .slice A5 x.f5.length c5] ∧ x.f5.length ≤ c5 ∧ Kd.F k48 W ok A5 x.f5.length x.f5 := by
 obtain ⟨A5, c5, rfl, l5, _⟩ := k46_open (Kd.FK_now h)
 exact ⟨A5, c5, rfl, l5, (fun W' hW => by obtain ⟨A5_, c5_, he, l5_, g5_⟩ := k46_open (h W' hW); injection (Option.some.inj (show some (Value.slice A5 x.f5.length c5) = some (Value.slice A5_ x.f5.length c5_) from congrArg (fun l => l[5]?) he)) with ha_ _ _; rw [ha_]; exact g5_)⟩
theorem k46_mkF (W : World) (ok : Nat → Prop) (x : S46) {A5 : Option Addr} {c5 : Nat} (l5 : x.f5.length ≤ c5) (g5 : Kd.F k48 W ok A5 x.f5.length x.f5) : Kd.FK k46 W ok x [.int .i64 x.f0, .int .i64 x.f1, .string x.f2, .string x.f3, .string x.f4, .slice A5 x.f5.length c5] := fun W2 hW => k46_mk W2 x l5 (g5 W2 hW)
def qe (xs : List S46) (i : Int) : S46 := xs.getD i.toNat z46
theorem at_T46 {w : World} {A : Option Addr} {n : Nat} {xs : List S46} (h : Kd.C k46 w A n xs) (i : Int) (h0 : 0 ≤ i) (h1 : i < n) : ∃ ad A5 c5, A = some ad ∧ w.cell? (ad.add (i.toNat * 6)) = some (.int .i64 (qe xs i).f0) ∧ w.cell? ⟨(ad.add (i.toNat * 6)).block, (ad.add (i.toNat * 6)).off + 1, none⟩ = some (.int .i64 (qe xs i).f1) ∧ w.cell? ⟨(ad.add (i.toNat * 6)).block, (ad.add (i.toNat * 6)).off + 2, none⟩ = some (.string (qe xs i).f2) ∧ w.cell? ⟨(ad.add (i.toNat * 6)).block, (ad.add (i.toNat * 6)).off + 3, none⟩ = some (.string (qe xs i).f3) ∧ w.cell? ⟨(ad.add (i.toNat * 6)).block, (ad.add (i.toNat * 6)).off + 4, none⟩ = some (.string (qe xs i).f4) ∧ w.cell? ⟨(ad.add (i.toNat * 6)).block, (ad.add (i.toNat * 6)).off + 5, none⟩ = some (.slice A5 (qe xs i).f5.length c5) ∧ (qe xs i).f5.length ≤ c5 ∧ k48.C w A5 (qe xs i).f5.length (qe xs i).f5 := by
 obtain ⟨ad, c, e, _, hK, hc0⟩ := Kd.C_get h z46 i h0 h1
 have hc : ∀ j u, c[j]? = some u → w.cell? (ad.add (i.toNat * 6 + j)) = some u := hc0
 obtain ⟨A5, c5, rfl, l5, g5⟩ := k46_open hK
 exact ⟨ad, A5, c5, e, hc 0 _ rfl, zz8, zz9, zz10, zz11, by rw [← add_field _ _ 5 (by omega)]; exact hc 5 _ rfl, l5, g5⟩
structure S84 where
 f0 : ByteArray
 f1 : ByteArray
 f2 : ByteArray
 f3 : (List S48)
 f4 : (List S84)
def z84 : S84 := ⟨(⟨#[]⟩ : ByteArray), (⟨#[]⟩ : ByteArray), (⟨#[]⟩ : ByteArray), ([] : List S48), ([] : List S84)⟩
def F84 (d : Kd S84) : Kd S84 := Kd.iso (Kd.pair Kd.string (Kd.pair Kd.string (Kd.pair Kd.string (Kd.pair (Kd.slice 48 k48) (Kd.slice 84 d))))) (fun x : S84 => (x.f0, x.f1, x.f2, x.f3, x.f4))
theorem mono84 : Kd.Mono F84 := Kd.mono_iso _ (Kd.mono_pair (Kd.mono_const _) (Kd.mono_pair (Kd.mono_const _) (Kd.mono_pair (Kd.mono_const _) (Kd.mono_pair (Kd.mono_const _) (Kd.mono_slice 84 Kd.mono_id)))))
theorem sub84 : Kd.Sub F84 [48, 84] := Kd.sub_iso _ (Kd.sub_pair (Kd.sub_const _ (by decide)) (Kd.sub_pair (Kd.sub_const _ (by decide)) (Kd.sub_pair (Kd.sub_const _ (by decide)) (Kd.sub_pair (Kd.sub_const _ (by decide)) (Kd.sub_slice 84 (by decide) Kd.sub_id)))))
theorem sz84 : ∀ n, (Kd.upto F84 5 [48, 84] n).sz = 5 := Kd.upto_sz (fun _ => rfl)
def k84 : Kd S84 := Kd.fix F84 5 [48, 84] sz84 (Kd.upto_E sub84)
theorem k84_open {w : World} {x : S84} {cs : List Value} (h : k84.K w x cs) : ∃ A3 c3 A4 c4, cs = [.string x.f0, .string x.f1, .string x.f2, .slice A3 x.f3.length c3, .slice A4 x.f4.length c4] ∧ x.f3.length ≤ c3 ∧ k48.C w A3 x.f3.length x.f3 ∧ x.f4.length ≤ c4 ∧ k84.C w A4 x.f4.length x.f4 := by
 obtain ⟨n, h⟩ := h
 cases n with
 | zero => exact h.elim
 | succ n =>
  obtain ⟨_, _, rfl, rfl, ⟨_, _, rfl, rfl, ⟨_, _, rfl, rfl, ⟨_, _, rfl, ⟨A3, c3, rfl, l3, g3⟩, ⟨A4, c4, rfl, l4, g4⟩⟩⟩⟩⟩ := h
  exact ⟨A3, c3, A4, c4, rfl, l3, g3, l4, Kd.fix_C g4⟩
theorem k84_mkM (w : World) (base : Nat) (ok : Nat → Prop) (x : S84) {v3 : Value} (g3 : k48.R 48 w base ok v3 x.f3) {v4 : Value} (g4 : k84.R 84 w base ok v4 x.f4) : k84.M w base ok x [.string x.f0, .string x.f1, .string x.f2, v3, v4] := by
 obtain ⟨n4, q4⟩ := Kd.fix_R_back mono84 g4
 have r4 := Kd.upto_R_le mono84 sz84 (show n4 ≤ n4 by omega) q4
 exact ⟨n4 + 1, ⟨[.string x.f0], [.string x.f1, .string x.f2, v3, v4], rfl, rfl, ⟨[.string x.f1], [.string x.f2, v3, v4], rfl, rfl, ⟨[.string x.f2], [v3, v4], rfl, rfl, ⟨[v3], [v4], rfl, ⟨v3, rfl, g3⟩, ⟨v4, rfl, r4⟩⟩⟩⟩⟩⟩
def rd_T84 (xs : List S84) (i : Int) : S84 := xs.getD i.toNat z84
theorem at_T84 {w : World} {A : Option Addr} {n : Nat} {xs : List S84} (h : Kd.C k84 w A n xs) (i : Int) (h0 : 0 ≤ i) (h1 : i < n) : ∃ ad A3 c3 A4 c4, A = some ad ∧ w.cell? (ad.add (i.toNat * 5)) = some (.string (rd_T84 xs i).f0) ∧ w.cell? ⟨(ad.add (i.toNat * 5)).block, (ad.add (i.toNat * 5)).off + 1, none⟩ = some (.string (rd_T84 xs i).f1) ∧ w.cell? ⟨(ad.add (i.toNat * 5)).block, (ad.add (i.toNat * 5)).off + 2, none⟩ = some (.string (rd_T84 xs i).f2) ∧ w.cell? ⟨(ad.add (i.toNat * 5)).block, (ad.add (i.toNat * 5)).off + 3, none⟩ = some (.slice A3 (rd_T84 xs i).f3.length c3) ∧ w.cell? ⟨(ad.add (i.toNat * 5)).block, (ad.add (i.toNat * 5)).off + 4, none⟩ = some (.slice A4 (rd_T84 xs i).f4.length c4) ∧ (rd_T84 xs i).f3.length ≤ c3 ∧ k48.C w A3 (rd_T84 xs i).f3.length (rd_T84 xs i).f3 ∧ (rd_T84 xs i).f4.length ≤ c4 ∧ k84.C w A4 (rd_T84 xs i).f4.length (rd_T84 xs i).f4 := by
 obtain ⟨ad, c, e, _, hK, hc0⟩ := Kd.C_get h z84 i h0 h1
 have hc : ∀ j u, c[j]? = some u → w.cell? (ad.add (i.toNat * 5 + j)) = some u := hc0
 obtain ⟨A3, c3, A4, c4, rfl, l3, g3, l4, g4⟩ := k84_open hK
 exact ⟨ad, A3, c3, A4, c4, e, hc 0 _ rfl, zz8, zz9, zz10, zz11, l3, g3, l4, g4⟩
def rd_L12 (xs : List (List Bool)) (i : Int) : (List Bool) := xs.getD i.toNat ([] : List Bool)
theorem at_L12 {w : World} {A : Option Addr} {n : Nat} {xs : List (List Bool)} (h : Kd.C (Kd.slice 4 Kd.bool) w A n xs) (i : Int) (h0 : 0 ≤ i) (h1 : i < n) : ∃ ad A0 c0, A = some ad ∧ w.cell? (ad.add i.toNat) = some (.slice A0 (rd_L12 xs i).length c0) ∧ (rd_L12 xs i).length ≤ c0 ∧ Kd.bool.C w A0 (rd_L12 xs i).length (rd_L12 xs i) := by
 obtain ⟨ad, c, e, _, hK, hc0⟩ := Kd.C_get h ([] : List Bool) i h0 h1
 have hc : ∀ j u, c[j]? = some u → w.cell? (ad.add (i.toNat * 1 + j)) = some u := hc0
 obtain ⟨A0, c0, rfl, l0, g0⟩ := hK
 exact ⟨ad, A0, c0, e, by have hq := hc 0 _ rfl; rwa [Nat.mul_one, Nat.add_zero] at hq, l0, g0⟩
end Go.Proofs.YtjbobecnlpiejaaDoor.Q
namespace Go.Proofs.YtjbobecnlpiejaaDoor.Q.P
open Go.Proofs.YtjbobecnlpiejaaDoorZ
open Go.RowKit Go.Proofs.YtjbobecnlpiejaaDoorW.PrintWords Go.Proofs.YtjbobecnlpiejaaDoorW.PrintLast Go.Proofs.YtjbobecnlpiejaaDoorW.PrintMore
theorem cells_get {w : World} {base : Nat} {a : Addr} {n : Nat} {cs : List Value} (h : w.cells? base a n = some cs) : cs.length = n ∧ ∀ i u, cs[i]? = some u → w.cell? (a.add i) = some u := by
 obtain ⟨_, h1, h2⟩ := World.cells?_some h
 refine ⟨h1, fun i u hu => ?_⟩
 have hi : i < n := by rw [← h1]; exact (List.getElem?_eq_some_iff.1 hu).1
 rw [h2 i hi]
 exact hu
theorem list_of {α : Type} (n : Nat) {p : Nat → α → Prop} (h : ∀ i, i < n → ∃ x, p i x) : ∃ l : List α, l.length = n ∧ ∀ i x, l[i]? = some x → p i x := by
 induction n with
 | zero => exact ⟨[], rfl, fun i x hx => by simp at hx⟩
 | succ n ih =>
  obtain ⟨l, hl, hp⟩ := ih (fun i hi => h i (by omega))
  obtain ⟨y, hy⟩ := h n (by omega)
  refine ⟨l ++ [y], by simp [hl], fun i x hx => ?_⟩
  rcases Nat.lt_or_ge i n with hi | hi
  ·rw [List.getElem?_append_left (by omega)] at hx
   exact hp i x hx
  ·rw [List.getElem?_append_right (by omega), hl] at hx
   have hin : i = n := by
    have := (List.getElem?_eq_some_iff.1 hx).1
    simp at this
    omega
   subst hin
   simp at hx
   subst hx
   exact hy
section
variable {H : Type} {enc : TypeId × Value → H} {W : World} {base : Nat} {sp : Nat → Bool} {held : Bool}
def Small (t : TypeId) (d : DataW H) : Prop := ∀ n ∈ d.weights Tryd.prog t, n ≤ 140737488351232
def Opens (enc : TypeId × Value → H) (W : World) (base : Nat) (sp : Nat → Bool) (held : Bool) {α : Type} (d : Kd α) (B : α → Prop) (t : TypeId) : Prop :=
 ∀ n cs x, DataW.trod enc Tryd.prog W base sp held n t cs = some x → Small t x.1 → ∃ a, d.K W a cs ∧ B a
theorem weights_all {e : TypeId} : ∀ {l : List (DataW H)} {d : DataW H}, d ∈ l → ∀ n ∈ d.weights Tryd.prog e, n ∈ DataW.weightsAll Tryd.prog e l
 | y :: r, d, h, n, hn => by
  rw [DataW.weightsAll, List.mem_append]
  rcases List.mem_cons.1 h with rfl | h
  ·exact .inl hn
  ·exact .inr (weights_all h n hn)
theorem open_rows {α : Type} (d : Kd α) {B : α → Prop} {t e : TypeId} (by_ : Nat) (ht : Tryd.prog.underlying t = some (.slice e)) (hsz : Tryd.prog.cellsOf e = d.sz) (hby : Tryd.prog.bytesOf e = by_) (hd : Opens enc W base sp held d B e) {fuel : Nat} {cs : List Value} {x : DataW H × List MemPlace}
  (h : DataW.trod enc Tryd.prog W base sp held fuel t cs = some x) (hs : Small t x.1) : ∃ A c l, cs = [.slice A l.length c] ∧ l.length ≤ c ∧ Kd.C d W A l.length l ∧ l.length * by_ ≤ 140737488351232 ∧ ∀ y ∈ l, B y := by
 rcases DataW.trod_slice ht h with ⟨rfl, _⟩ | ⟨a, len, cap, elems, rest, n, _, rfl, hx, _, hl, hm, hlen, hel, _, _⟩
 ·exact ⟨none, 0, [], rfl, Nat.le_refl _, ⟨rfl, Nat.zero_le _, fun h => absurd h (Nat.lt_irrefl 0)⟩, by simp, by simp⟩
 ·subst hx
  have hw : ∀ n ∈ (elems.length + rest.length) * by_ :: (DataW.weightsAll Tryd.prog e (elems.map (·.1)) ++ DataW.weightsAll Tryd.prog e (rest.map (·.1))), n ≤ 140737488351232 := by
   intro m hm2
   apply hs
   rw [DataW.weights]
   simp only [ht, List.length_map, hby]
   exact hm2
  obtain ⟨l, hll, hp⟩ := list_of (p := fun i y => (∃ c, c.length = d.sz ∧ d.K W y c ∧ ∀ j u, c[j]? = some u → W.cell? (a.add (i * d.sz + j)) = some u) ∧ B y) len (fun i hi => by
   have h1 := hel i hi
   have h2 : elems[i]? = some (elems[i]'(by omega)) := List.getElem?_eq_getElem _
   rw [h2] at h1
   obtain ⟨c, hc, ht⟩ := Option.bind_eq_some_iff.1 h1
   obtain ⟨hcl, hcc⟩ := cells_get hc
   obtain ⟨y, hy, hB⟩ := hd _ _ _ ht (fun m hm2 => hw m (List.mem_cons_of_mem _ (List.mem_append_left _ (weights_all (List.mem_map_of_mem (List.getElem_mem _)) m hm2))))
   refine ⟨y, ⟨c, by rw [hcl, hsz], hy, fun j u hu => ?_⟩, hB⟩
   have := hcc j u hu
   rw [Deep.add_add, hsz] at this
   exact this)
  subst hll
  refine ⟨some a, cap, l, rfl, hl, ⟨rfl, by unfold maxLen at hm; omega, fun _ => ⟨a, rfl, fun j y hy => (hp j y hy).1⟩⟩, ?_, ?_⟩
  ·have := hw _ (List.mem_cons_self ..)
   exact Nat.le_trans (Nat.mul_le_mul_right _ (by omega)) this
  ·intro y hy
   obtain ⟨j, hj⟩ := List.getElem?_of_mem hy
   exact (hp j y hj).2
theorem open_struct {t : TypeId} {fs : Array Field} (ht : Tryd.prog.underlying t = some (.struct fs)) {fuel : Nat} {cs : List Value} {x : DataW H × List MemPlace} (h : DataW.trod enc Tryd.prog W base sp held fuel t cs = some x) (hs : Small t x.1) {m : Nat} (hm : Tryd.prog.cellsOf t = m) :
  cs.length = m ∧ ∀ (i : Nat) (f : Field), fs[i]? = some f → ∀ (u : TypeId) (off : Nat), f.type = u → f.offset = off → Tryd.prog.cellsOf u = 1 → off < m → ∃ n y v, cs[off]? = some v ∧ DataW.trod enc Tryd.prog W base sp held n u [v] = some y ∧ Small u y.1 := by
 obtain ⟨xs, n, _, hxx, hl, hx, hf⟩ := DataW.trod_struct ht h
 subst hxx
 rw [hm] at hl
 refine ⟨hl, fun i f hi u off hu ho hc hlt => ?_⟩
 have h1 := hf i f hi
 have hlt2 : i < xs.length := by rw [hx]; exact (Array.getElem?_eq_some_iff.1 hi).1
 rw [List.getElem?_eq_getElem hlt2, hu, ho, hc] at h1
 have hoff : off < cs.length := by omega
 have hd : (cs.drop off).take 1 = [cs[off]] := by rw [List.drop_eq_getElem_cons hoff]; rfl
 rw [hd] at h1
 refine ⟨_, _, _, List.getElem?_eq_getElem hoff, h1, fun m hm2 => hs m ?_⟩
 rw [DataW.weights]
 simp only [ht]
 refine DataW.weights_mem_each (j := i) (t := u) (d := xs[i].1) ?_ ?_ m hm2
 ·rw [List.getElem?_map, Array.getElem?_toList, hi, ← hu]
  rfl
 ·rw [List.getElem?_map, List.getElem?_eq_getElem hlt2]
  rfl
theorem small_string {s : ByteArray} {u : TypeId} (h : Small (H := H) u (.lit (.string s.data.toList))) : s.size ≤ 140737488351232 := by
 have := h s.data.toList.length (by rw [DataW.weights]; exact List.mem_singleton.2 rfl)
 rw [Array.length_toList] at this
 exact this
def BdCond (c : S33) : Prop := c.f0.size ≤ 140737488351232 ∧ c.f1.size ≤ 140737488351232
def BdAttr (c : S48) : Prop := c.f0.size ≤ 140737488351232 ∧ c.f1.size ≤ 140737488351232
def BdPart (p : S41) : Prop := p.f2.size ≤ 140737488351232 ∧ p.f3.size ≤ 140737488351232 ∧ p.f4.length * 40 ≤ 140737488351232 ∧ ∀ c ∈ p.f4, BdCond c
def BdRow (p : S46) : Prop := p.f2.size ≤ 140737488351232 ∧ p.f3.size ≤ 140737488351232 ∧ p.f4.size ≤ 140737488351232 ∧ p.f5.length * 32 ≤ 140737488351232 ∧ (∀ c ∈ p.f5, BdAttr c) ∧ (Lit.int .i64 p.f1).wf = true
theorem opens_Cond : Opens enc W base sp held k33 BdCond 33 := by
 intro n cs x h hs
 obtain ⟨hl, hf⟩ := open_struct (m := 3) Tryd.underlying33 h hs (by kernel_rfl)
 obtain ⟨_, _, u0, g0, h0, s0⟩ := hf 0 _ rfl 9 0 rfl rfl (by kernel_rfl) (by decide)
 obtain ⟨_, _, u1, g1, h1, s1⟩ := hf 1 _ rfl 9 1 rfl rfl (by kernel_rfl) (by decide)
 obtain ⟨_, _, u2, g2, h2, s2⟩ := hf 2 _ rfl 4 2 rfl rfl (by kernel_rfl) (by decide)
 obtain ⟨x0, e0, rfl, w0⟩ := DataW.trod_string Tryd.underlying9 h0
 obtain rfl := List.head_eq_of_cons_eq e0
 obtain ⟨x1, e1, rfl, w1⟩ := DataW.trod_string Tryd.underlying9 h1
 obtain rfl := List.head_eq_of_cons_eq e1
 obtain ⟨x2, e2, rfl⟩ := DataW.trod_bool Tryd.underlying4 h2
 obtain rfl := List.head_eq_of_cons_eq e2
 match cs, hl, g0, g1, g2 with
 | [v0, v1, v2], _, g0, g1, g2 =>
  simp at g0 g1 g2
  subst g0 g1 g2
  exact ⟨⟨x0, x1, x2⟩, k33_mk W ⟨x0, x1, x2⟩, small_string s0, small_string s1⟩
theorem opens_Attr : Opens enc W base sp held k48 BdAttr 48 := by
 intro n cs x h hs
 obtain ⟨hl, hf⟩ := open_struct (m := 2) Tryd.underlying48 h hs (by kernel_rfl)
 obtain ⟨_, _, u0, g0, h0, s0⟩ := hf 0 _ rfl 9 0 rfl rfl (by kernel_rfl) (by decide)
 obtain ⟨_, _, u1, g1, h1, s1⟩ := hf 1 _ rfl 9 1 rfl rfl (by kernel_rfl) (by decide)
 obtain ⟨x0, e0, rfl, w0⟩ := DataW.trod_string Tryd.underlying9 h0
 obtain rfl := List.head_eq_of_cons_eq e0
 obtain ⟨x1, e1, rfl, w1⟩ := DataW.trod_string Tryd.underlying9 h1
 obtain rfl := List.head_eq_of_cons_eq e1
 match cs, hl, g0, g1 with
 | [v0, v1], _, g0, g1 =>
  simp at g0 g1
  subst g0 g1
  exact ⟨⟨x0, x1⟩, k48_mk W ⟨x0, x1⟩, small_string s0, small_string s1⟩
theorem opens_Part : Opens enc W base sp held k41 BdPart 41 := by
 intro n cs x h hs
 obtain ⟨hl, hf⟩ := open_struct (m := 5) Tryd.underlying41 h hs (by kernel_rfl)
 obtain ⟨_, _, u0, g0, h0, s0⟩ := hf 0 _ rfl 4 0 rfl rfl (by kernel_rfl) (by decide)
 obtain ⟨_, _, u1, g1, h1, s1⟩ := hf 1 _ rfl 4 1 rfl rfl (by kernel_rfl) (by decide)
 obtain ⟨_, _, u2, g2, h2, s2⟩ := hf 2 _ rfl 9 2 rfl rfl (by kernel_rfl) (by decide)
 obtain ⟨_, _, u3, g3, h3, s3⟩ := hf 3 _ rfl 9 3 rfl rfl (by kernel_rfl) (by decide)
 obtain ⟨_, _, u4, g4, h4, s4⟩ := hf 4 _ rfl 39 4 rfl rfl (by kernel_rfl) (by decide)
 obtain ⟨x0, e0, rfl⟩ := DataW.trod_bool Tryd.underlying4 h0
 obtain rfl := List.head_eq_of_cons_eq e0
 obtain ⟨x1, e1, rfl⟩ := DataW.trod_bool Tryd.underlying4 h1
 obtain rfl := List.head_eq_of_cons_eq e1
 obtain ⟨x2, e2, rfl, w2⟩ := DataW.trod_string Tryd.underlying9 h2
 obtain rfl := List.head_eq_of_cons_eq e2
 obtain ⟨x3, e3, rfl, w3⟩ := DataW.trod_string Tryd.underlying9 h3
 obtain rfl := List.head_eq_of_cons_eq e3
 obtain ⟨A4, c4, l4, e4, hc4, hr4, hb4, hB4⟩ := open_rows k33 40 Tryd.underlying39 (by kernel_rfl) (by kernel_rfl) opens_Cond h4 s4
 obtain rfl := List.head_eq_of_cons_eq e4
 match cs, hl, g0, g1, g2, g3, g4 with
 | [v0, v1, v2, v3, v4], _, g0, g1, g2, g3, g4 =>
  simp at g0 g1 g2 g3 g4
  subst g0 g1 g2 g3 g4
  exact ⟨⟨x0, x1, x2, x3, l4⟩, k41_mk W ⟨x0, x1, x2, x3, l4⟩ hc4 hr4, small_string s2, small_string s3, hb4, hB4⟩
theorem opens_Row : Opens enc W base sp held k46 BdRow 46 := by
 intro n cs x h hs
 obtain ⟨hl, hf⟩ := open_struct (m := 6) Tryd.underlying46 h hs (by kernel_rfl)
 obtain ⟨_, _, u0, g0, h0, s0⟩ := hf 0 _ rfl 3 0 rfl rfl (by kernel_rfl) (by decide)
 obtain ⟨_, _, u1, g1, h1, s1⟩ := hf 1 _ rfl 3 1 rfl rfl (by kernel_rfl) (by decide)
 obtain ⟨_, _, u2, g2, h2, s2⟩ := hf 2 _ rfl 9 2 rfl rfl (by kernel_rfl) (by decide)
 obtain ⟨_, _, u3, g3, h3, s3⟩ := hf 3 _ rfl 9 3 rfl rfl (by kernel_rfl) (by decide)
 obtain ⟨_, _, u4, g4, h4, s4⟩ := hf 4 _ rfl 9 4 rfl rfl (by kernel_rfl) (by decide)
 obtain ⟨_, _, u5, g5, h5, s5⟩ := hf 5 _ rfl 44 5 rfl rfl (by kernel_rfl) (by decide)
 obtain ⟨x0, e0, rfl, w0⟩ := DataW.trod_int Tryd.underlying3 h0
 obtain rfl := List.head_eq_of_cons_eq e0
 obtain ⟨x1, e1, rfl, w1⟩ := DataW.trod_int Tryd.underlying3 h1
 obtain rfl := List.head_eq_of_cons_eq e1
 obtain ⟨x2, e2, rfl, w2⟩ := DataW.trod_string Tryd.underlying9 h2
 obtain rfl := List.head_eq_of_cons_eq e2
 obtain ⟨x3, e3, rfl, w3⟩ := DataW.trod_string Tryd.underlying9 h3
 obtain rfl := List.head_eq_of_cons_eq e3
 obtain ⟨x4, e4, rfl, w4⟩ := DataW.trod_string Tryd.underlying9 h4
 obtain rfl := List.head_eq_of_cons_eq e4
 obtain ⟨A5, c5, l5, e5, hc5, hr5, hb5, hB5⟩ := open_rows k48 32 Tryd.underlying44 (by kernel_rfl) (by kernel_rfl) opens_Attr h5 s5
 obtain rfl := List.head_eq_of_cons_eq e5
 match cs, hl, g0, g1, g2, g3, g4, g5 with
 | [v0, v1, v2, v3, v4, v5], _, g0, g1, g2, g3, g4, g5 =>
  simp at g0 g1 g2 g3 g4 g5
  subst g0 g1 g2 g3 g4 g5
  exact ⟨⟨x0, x1, x2, x3, x4, l5⟩, k46_mk W ⟨x0, x1, x2, x3, x4, l5⟩ hc5 hr5, small_string s2, small_string s3, small_string s4, hb5, hB5, w1⟩
theorem open_Parts {v : Value} {d : DataW H} {ps : List MemPlace} (h : DataW.Trod enc Tryd.prog W base sp held 23 v d ps) (hs : Small 23 d) (hv : v.cells.toList = [v]) : ∃ A c l, v = .slice A l.length c ∧ l.length ≤ c ∧ Kd.C k41 W A l.length l ∧ l.length * 64 ≤ 140737488351232 ∧ ∀ y ∈ l, BdPart y := by
 obtain ⟨fuel, hf⟩ := h
 obtain ⟨A, c, l, e, hc, hr, hb, hB⟩ := open_rows k41 64 Tryd.underlying23 (by kernel_rfl) (by kernel_rfl) opens_Part hf hs
 rw [hv] at e
 exact ⟨A, c, l, List.head_eq_of_cons_eq e, hc, hr, hb, hB⟩
theorem open_Rows {v : Value} {d : DataW H} {ps : List MemPlace} (h : DataW.Trod enc Tryd.prog W base sp held 34 v d ps) (hs : Small 34 d) (hv : v.cells.toList = [v]) : ∃ A c l, v = .slice A l.length c ∧ l.length ≤ c ∧ Kd.C k46 W A l.length l ∧ l.length * 88 ≤ 140737488351232 ∧ ∀ y ∈ l, BdRow y := by
 obtain ⟨fuel, hf⟩ := h
 obtain ⟨A, c, l, e, hc, hr, hb, hB⟩ := open_rows k46 88 Tryd.underlying34 (by kernel_rfl) (by kernel_rfl) opens_Row hf hs
 rw [hv] at e
 exact ⟨A, c, l, List.head_eq_of_cons_eq e, hc, hr, hb, hB⟩
theorem small_arg {ts : List TypeId} {ds : List (DataW H)} (h : (DataW.weightsEach Tryd.prog ts ds).all (· ≤ reachBytes) = true) {j : Nat} {t : TypeId} {d : DataW H} (ht : ts[j]? = some t) (hd : ds[j]? = some d) : Small t d := by
 intro n hn
 have := List.all_eq_true.1 h n (DataW.weights_mem_each ht hd n hn)
 exact of_decide_eq_true this
end
set_option maxRecDepth 100000 in
theorem glob_of_laid {W : World} (h : laidMet Tryd.prog [("math/bits.deBruijn32tab", Rows.laid_math_bits_deBruijn32tab), ("math/bits.deBruijn64tab", Rows.laid_math_bits_deBruijn64tab), ("internal/strconv.uint64pow10", Rows.laid_internal_strconv_uint64pow10), ("strconv.ErrRange", Rows.laid_strconv_ErrRange), ("strconv.ErrSyntax", Rows.laid_strconv_ErrSyntax)] W) : Glob W := by
 have h3 := laidMet.tail (laidMet.tail h)
 have h4 := laidMet.tail h3
 have h5 := laidMet.tail h4
 have e3 : Rows.laid_internal_strconv_uint64pow10 (H := Unit) = Lib.tabData .u64 Lib.pow10Tab := by kernel_rfl
 rw [e3] at h3
 have star : ("*errors.errorString" : String) = "*" ++ "errors.errorString" := by decide +kernel
 have hrow : ∀ u, Tryd.prog.typeName? 3 u = some "*errors.errorString" → u = 153 := fun u hu =>
  typeName_ptr_named (nm := "errors.errorString") (by rw [← star]; kernel_rfl) (by kernel_rfl) (by decide +kernel) u (by rw [← star]; exact hu)
 refine ⟨Lib.tabIs_of_head (g := 0) (t := 140) (e := 127) (n := 20) (by kernel_rfl) (by kernel_rfl) (by kernel_rfl) (by kernel_rfl) (by kernel_rfl) (by kernel_rfl) h3, ?_, ?_⟩
 ·obtain ⟨a, s, hv, _⟩ := laid_sentinel (g := 2) h5 (by kernel_rfl) rfl Tryd.underlying73 hrow Tryd.underlying153 Tryd.underlying155 rfl rfl Tryd.underlying9 (by kernel_rfl) (by kernel_rfl)
  exact ⟨_, _, hv⟩
 ·obtain ⟨a, s, hv, _⟩ := laid_sentinel (g := 3) h4 (by kernel_rfl) rfl Tryd.underlying73 hrow Tryd.underlying153 Tryd.underlying155 rfl rfl Tryd.underlying9 (by kernel_rfl) (by kernel_rfl)
  exact ⟨_, _, hv⟩
theorem own : ownKnob Tryd.prog.godebug = none := by kernel_rfl
theorem laidOut : laidOutB Tryd.prog = true := by kernel_rfl
end Go.Proofs.YtjbobecnlpiejaaDoor.Q.P
namespace Go.Proofs.YtjbobecnlpiejaaDoor.Q
open Go.Proofs.YtjbobecnlpiejaaDoorZ
open Go.RowKit Go.Proofs.YtjbobecnlpiejaaDoorW.PrintWords Go.Proofs.YtjbobecnlpiejaaDoorW.PrintLast Go.Proofs.YtjbobecnlpiejaaDoorW.PrintMore
attribute [local go_sem] qpb qqb qvb qwb
def strings_IndexByte.f (a0 : ByteArray) (a1 : Int) : Option Int := some (Lib.indexByte a0.data.toList a1.toNat.toUInt8)
theorem strings_IndexByte.calls (a0 : ByteArray) (a1 : Int) (r : Int) (w : World) (h : strings_IndexByte.f a0 a1 = some r) :
  Calls Tryd.prog 69 #[.string a0, .int .u8 a1] w fun e w' => e = .returned (.int .i64 r) ∧ Drawn0 w w' := by
 obtain rfl := Option.some.inj h
 refine (Tryd.strings_IndexByte a0 a1 w).mono ?_
 rintro e w' ⟨rfl, rfl⟩
 exact ⟨rfl, Drawn0.refl _⟩
def chars_small.f (a0 : Int) : Option (Bool) := if a0 ≥ 97 then (some (decide (a0 ≤ 122))) else (some false)
set_option maxHeartbeats 8000000 in
set_option maxRecDepth 100000 in
theorem chars_small.calls (a0 : Int) (r : Bool) (w : World) (h : chars_small.f a0 = some r) :
  Calls Tryd.prog 71 #[.int .u8 a0] w fun e w' => e = .returned (.bool r) ∧ Drawn0 w w' := by
 have H : (if a0 ≥ 97 then (some (decide (a0 ≤ 122))) else (some false)) = some r := h
 clear h
 by_cases c2 : a0 ≥ 97
 ·rw [if_pos c2] at H
  have c2b0 : decide (97 ≤ a0) = true := decide_eq_true c2
  clear c2
  obtain rfl := Option.some.inj H
  go_enter Tryd.func71, Tryd.ntmps71
  go_wp2
  go_ret
  exact ⟨zz6, zz13⟩
 ·rw [if_neg c2] at H
  have c2b0 : decide (97 ≤ a0) = false := decide_eq_false c2
  clear c2
  obtain rfl := Option.some.inj H
  go_enter Tryd.func71, Tryd.ntmps71
  go_wp2
  go_ret
  exact ⟨zz6, zz13⟩
mutual
def qx.j0 : Nat → ByteArray → ByteArray → Bool → Option (Bool)
 | 0, _, _, _ => none
 | k + 1, x0, x1, x19 => if x19 = true then (some false) else (qx.l0 k x0 x1 (x0.size : Int) 0)
def qx.l0 : Nat → ByteArray → ByteArray → Int → Int → Option (Bool)
 | 0, _, _, _, _ => none
 | k + 1, x0, x1, x21, x22 => if x22 < x21 then (if 0 ≤ x22 then (if x22 < (x0.size : Int) then ((chars_small.f (bt x0 x22)).bind fun t117 => (if t117 = true then (qx.l0 k x0 x1 x21 (wrap64 (x22 + 1))) else (if (bt x0 x22) < 48 then ((strings_IndexByte.f x1 (bt x0 x22)).bind fun t118 => (if t118 < 0 then (some false) else (qx.l0 k x0 x1 x21 (wrap64 (x22 + 1))))) else (if (bt x0 x22) > 57 then ((strings_IndexByte.f x1 (bt x0 x22)).bind fun t119 => (if t119 < 0 then (some false) else (qx.l0 k x0 x1 x21 (wrap64 (x22 + 1))))) else (qx.l0 k x0 x1 x21 (wrap64 (x22 + 1))))))) else (none)) else (none)) else (some true)
end
def qx.f (k : Nat) (a0 : ByteArray) (a1 : ByteArray) : Option (Bool) := if a0.toList = ([] : List UInt8) then (qx.j0 k a0 a1 true) else (if (a0.size : Int) > 32 then (qx.j0 k a0 a1 true) else (if 0 < (a0.size : Int) then ((chars_small.f (bt a0 0)).bind fun t116 => (qx.j0 k a0 a1 (!t116))) else (none)))
theorem qx.mono_l : ∀ k, (∀ y0 y1 y2, LeO (qx.j0 k y0 y1 y2) (qx.j0 (k + 1) y0 y1 y2)) ∧ (∀ y0 y1 y2 y3, LeO (qx.l0 k y0 y1 y2 y3) (qx.l0 (k + 1) y0 y1 y2 y3))
 | 0 => ⟨fun _ _ _ r h => by simp [qx.j0] at h, fun _ _ _ _ r h => by simp [qx.l0] at h⟩
 | k + 1 => by
  obtain ⟨ih0, ih1⟩ := qx.mono_l k
  refine ⟨?_, ?_⟩
  ·intro y0 y1 y2
   unfold qx.j0
   repeat' first
   | (with_reducible exact ih0 _ _ _)
   | (with_reducible exact ih1 _ _ _ _)
   | (with_reducible exact LeO.refl _)
   | (with_reducible exact LeO.none _)
   | (with_reducible refine LeO.ite ?_ ?_)
   | (with_reducible refine LeO.bind ?_ (fun _ => ?_))
   | exact ih0 _ _ _
   | exact ih1 _ _ _ _
   | exact LeO.none _
   | refine LeO.ite ?_ ?_
   | refine LeO.bind ?_ (fun _ => ?_)
  ·intro y0 y1 y2 y3
   unfold qx.l0
   repeat' first
   | (with_reducible exact ih0 _ _ _)
   | (with_reducible exact ih1 _ _ _ _)
   | (with_reducible exact LeO.refl _)
   | (with_reducible exact LeO.none _)
   | (with_reducible refine LeO.ite ?_ ?_)
   | (with_reducible refine LeO.bind ?_ (fun _ => ?_))
   | exact ih0 _ _ _
   | exact ih1 _ _ _ _
   | exact LeO.none _
   | refine LeO.ite ?_ ?_
   | refine LeO.bind ?_ (fun _ => ?_)
theorem qx.mono : ∀ a0 a1 k, LeO (qx.f k a0 a1) (qx.f (k + 1) a0 a1) := by
 intro a0 a1 k
 obtain ⟨ih0, ih1⟩ := qx.mono_l k
 unfold qx.f
 repeat' first
   | (with_reducible exact ih0 _ _ _)
   | (with_reducible exact ih1 _ _ _ _)
   | (with_reducible exact LeO.refl _)
   | (with_reducible exact LeO.none _)
   | (with_reducible refine LeO.ite ?_ ?_)
   | (with_reducible refine LeO.bind ?_ (fun _ => ?_))
   | exact ih0 _ _ _
   | exact ih1 _ _ _ _
   | exact LeO.none _
   | refine LeO.ite ?_ ?_
   | refine LeO.bind ?_ (fun _ => ?_)
set_option maxHeartbeats 8000000 in
set_option maxRecDepth 100000 in
theorem qx.calls (k : Nat) (a0 : ByteArray) (a1 : ByteArray) (r : Bool) (w : World) (h : qx.f k a0 a1 = some r) :
  Calls Tryd.prog 61 #[.string a0, .string a1] w fun e w' => e = .returned (.bool r) ∧ Drawn0 w w' := by
 have H : (if a0.toList = ([] : List UInt8) then (qx.j0 k a0 a1 true) else (if (a0.size : Int) > 32 then (qx.j0 k a0 a1 true) else (if 0 < (a0.size : Int) then ((chars_small.f (bt a0 0)).bind fun t116 => (qx.j0 k a0 a1 (!t116))) else (none)))) = some r := h
 clear h
 have HC3 := qa.mk H
 clear H
 go_enter Tryd.func61, Tryd.ntmps61
 go_upto_region 1 with (fail)
 go_cut [19] (fun v19 wc => ∃ (kq : Nat) (x19_2 : Bool), v19 = .bool x19_2 ∧ qa (qx.j0 kq a0 a1 x19_2 = some r) ∧ qa (kq ≤ k) ∧ Drawn0 w wc)
 case first =>
  have H := HC3.out
  clear HC3
  by_cases c4 : a0.toList = ([] : List UInt8)
  ·rw [if_pos c4] at H
   have c4b0 : (a0.toList == ([] : List UInt8)) = true := beq_iff_eq.mpr c4
   have c4b1 : (a0.toList != ([] : List UInt8)) = false := bne_eq_false_iff_eq.mpr c4
   (try (have c4b2 : List.isEmpty (a0.toList) = true := by simpa using c4))
   clear c4
   (first | rw [c4b0] | (simp only [i64_w, i32_w]; rw [c4b0]) | rw [c4b2] | skip)
   have H' := qa.mk H
   clear H
   go_wp2
   go_meet
   case rel => exact ⟨_, (true), zz6, H', ⟨zz2⟩, zz13⟩
  ·rw [if_neg c4] at H
   have c4b0 : (a0.toList == ([] : List UInt8)) = false := beq_eq_false_iff_ne.mpr c4
   have c4b1 : (a0.toList != ([] : List UInt8)) = true := bne_iff_ne.mpr c4
   (try (have c4b2 : List.isEmpty (a0.toList) = false := by simpa using c4))
   (first | rw [c4b0] | (simp only [i64_w, i32_w]; rw [c4b0]) | rw [c4b2] | skip)
   by_cases c5 : (a0.size : Int) > 32
   ·rw [if_pos c5] at H
    have c5b0 : decide (32 < (a0.size : Int)) = true := decide_eq_true c5
    have c5b1 : decide (32 < a0.size) = true := decide_eq_true (by omega)
    clear c5
    have H' := qa.mk H
    clear H
    go_wp2
    go_meet
    case rel => exact ⟨_, (true), zz6, H', ⟨zz2⟩, zz13⟩
   ·rw [if_neg c5] at H
    have c5b0 : decide (32 < (a0.size : Int)) = false := decide_eq_false c5
    have c5b1 : decide (32 < a0.size) = false := decide_eq_false (by omega)
    clear c5
    by_cases c6 : 0 < (a0.size : Int)
    ·rw [if_pos c6] at H
     have c6b0 : decide (0 < (a0.size : Int)) = true := decide_eq_true c6
     have c6b1 : decide (0 < a0.size) = true := decide_eq_true (by omega)
     clear c6
     replace H := Option.bind_eq_some_iff.mp H
     obtain ⟨t116, A80, H⟩ := H
     replace H : (qx.j0 k a0 a1 (!t116)) = some r := H
     have A8 := qa.mk A80
     clear A80
     have H' := qa.mk H
     clear H
     have p7 : 0 ≤ (0 : Int) := (by omega)
     have q7 : 0 < a0.size := (by have : (0 : Int) < (a0.size : Int) := of_decide_eq_true zz7; omega)
     have hx7 : ∀ h : 0 < a0.size, ((a0[0]'h).toNat : Int) = bt a0 0 := bt_at a0 0
     clear p7
     have qi7 : (0 < (a0.size : Int)) = True := eq_true (of_decide_eq_true zz7)
     replace q7 := eq_true q7
     go_wp2_with (first | (go_at_call 71; (with_reducible refine (chars_small.calls (bt a0 0) t116 _ A8.out).mono ?_); rintro e w' ⟨rfl, ⟨nd, rfl⟩⟩))
     go_meet
     case rel => exact ⟨_, (!t116), zz6, H', ⟨zz2⟩, zz13⟩
    ·rw [if_neg c6] at H
     exact absurd H (by simp)
 case rest =>
  clear HC3
  try clear p2
  try clear c4
  try clear c4b0
  try clear c4b1
  try clear c4b2
  try clear c5
  try clear c5b0
  try clear c5b1
  try clear c6
  try clear c6b0
  try clear c6b1
  try clear p7
  try clear q7
  try clear hx7
  try clear qi7
  try clear p7
  try clear q7
  obtain ⟨kq, x19_2, rfl, HA, HJ2, ⟨mc2, rfl⟩⟩ := hcut
  cases kq with
  | zero => exact absurd HA.out (by simp [qx.j0])
  | succ kj2 =>
   have H := HA.out
   clear HA
   simp only [qx.j0] at H
   by_cases c9 : x19_2 = true
   ·subst c9
    have H1 : (some false) = some r := by rw [if_pos rfl] at H; exact H
    clear H
    have H := H1
    clear H1
    obtain rfl := Option.some.inj H
    go_wp2
    go_ret
    exact ⟨zz6, zz13⟩
   ·replace c9 := Bool.eq_false_iff.mpr c9
    subst c9
    have H1 : (qx.l0 kj2 a0 a1 (a0.size : Int) 0) = some r := by rw [if_neg (show ¬ (false = true) by decide)] at H; exact H
    clear H
    have H := H1
    clear H1
    have H' := qa.mk H
    clear H
    go_wp2
    go_loopg [22] kj2 (fun kq v22 w' => ∃ (x22_2 : Int), v22 = .int .i64 x22_2 ∧ qa (qx.l0 kq a0 a1 (a0.size : Int) x22_2 = some r) ∧ qa (kq ≤ kj2) ∧ Drawn0 w w')
    case atStart => exact ⟨(0), zz6, H', ⟨Nat.le_refl _⟩, zz13⟩
    case round =>
     clear H'
     try clear c2
     try clear p2
     try clear c4
     try clear c4b0
     try clear c4b1
     try clear c4b2
     try clear c5
     try clear c5b0
     try clear c5b1
     try clear c6
     try clear c6b0
     try clear c6b1
     try clear p7
     try clear q7
     try clear hx7
     try clear qi7
     try clear c9
     try clear p2
     try clear p7
     try clear q7
     obtain ⟨x22_2, rfl, HA, HK2, ⟨m2, rfl⟩⟩ := hrel
     cases gk with
     | zero => exact absurd HA.out (by simp [qx.l0])
     | succ k2 =>
      have H := HA.out
      clear HA
      simp only [qx.l0] at H
      by_cases c10 : x22_2 < (a0.size : Int)
      ·rw [if_pos c10] at H
       have c10b0 : decide (x22_2 < (a0.size : Int)) = true := decide_eq_true c10
       clear c10
       by_cases c11 : 0 ≤ x22_2
       ·rw [if_pos c11] at H
        have c11b0 : decide (0 ≤ x22_2) = true := decide_eq_true c11
        clear c11
        by_cases c12 : x22_2 < (a0.size : Int)
        ·rw [if_pos c12] at H
         have c12b0 : decide (x22_2 < (a0.size : Int)) = true := decide_eq_true c12
         clear c12
         replace H := Option.bind_eq_some_iff.mp H
         obtain ⟨t117, A140, H⟩ := H
         replace H : (if t117 = true then (qx.l0 k2 a0 a1 (a0.size : Int) (wrap64 (x22_2 + 1))) else (if (bt a0 x22_2) < 48 then ((strings_IndexByte.f a1 (bt a0 x22_2)).bind fun t118 => (if t118 < 0 then (some false) else (qx.l0 k2 a0 a1 (a0.size : Int) (wrap64 (x22_2 + 1))))) else (if (bt a0 x22_2) > 57 then ((strings_IndexByte.f a1 (bt a0 x22_2)).bind fun t119 => (if t119 < 0 then (some false) else (qx.l0 k2 a0 a1 (a0.size : Int) (wrap64 (x22_2 + 1))))) else (qx.l0 k2 a0 a1 (a0.size : Int) (wrap64 (x22_2 + 1)))))) = some r := H
         have A14 := qa.mk A140
         clear A140
         by_cases c15 : t117 = true
         ·subst c15
          have H1 : (qx.l0 k2 a0 a1 (a0.size : Int) (wrap64 (x22_2 + 1))) = some r := by rw [if_pos rfl] at H; exact H
          clear H
          have H := H1
          clear H1
          have H' := qa.mk H
          clear H
          have p13 : 0 ≤ (x22_2 : Int) := of_decide_eq_true zz7
          have q13 : x22_2 < (a0.size : Int) := of_decide_eq_true zz7
          have hx13 := bt_at a0 x22_2
          replace p13 := eq_true p13
          replace q13 := eq_true q13
          go_wp2_with (first | ((with_reducible refine qv (f := 71) rfl ?_); refine qob (some 29) rfl rfl Tryd.func71 (by kernel_rfl) rfl #[.int .u8 (bt a0 x22_2)] rfl zz56 ?_; (with_reducible refine (chars_small.calls (bt a0 x22_2) true _ A14.out).mono ?_); rintro e w' ⟨rfl, ⟨nd, rfl⟩⟩; refine ⟨_, rfl, ?_⟩))
          go_roundg k2
          case measure => have := HJ2.out; have := HK2.out; omega
          case rel => exact ⟨(wrap64 (x22_2 + 1)), zz6, H', ⟨zz3⟩, zz13⟩
         ·replace c15 := Bool.eq_false_iff.mpr c15
          subst c15
          have H1 : (if (bt a0 x22_2) < 48 then ((strings_IndexByte.f a1 (bt a0 x22_2)).bind fun t118 => (if t118 < 0 then (some false) else (qx.l0 k2 a0 a1 (a0.size : Int) (wrap64 (x22_2 + 1))))) else (if (bt a0 x22_2) > 57 then ((strings_IndexByte.f a1 (bt a0 x22_2)).bind fun t119 => (if t119 < 0 then (some false) else (qx.l0 k2 a0 a1 (a0.size : Int) (wrap64 (x22_2 + 1))))) else (qx.l0 k2 a0 a1 (a0.size : Int) (wrap64 (x22_2 + 1))))) = some r := by rw [if_neg (show ¬ (false = true) by decide)] at H; exact H
          clear H
          have H := H1
          clear H1
          by_cases c16 : (bt a0 x22_2) < 48
          ·rw [if_pos c16] at H
           have c16b0 : decide ((bt a0 x22_2) < 48) = true := decide_eq_true c16
           clear c16
           replace H := Option.bind_eq_some_iff.mp H
           obtain ⟨t118, A170, H⟩ := H
           replace H : (if t118 < 0 then (some false) else (qx.l0 k2 a0 a1 (a0.size : Int) (wrap64 (x22_2 + 1)))) = some r := H
           have A17 := qa.mk A170
           clear A170
           by_cases c18 : t118 < 0
           ·rw [if_pos c18] at H
            have c18b0 : decide (t118 < 0) = true := decide_eq_true c18
            clear c18
            obtain rfl := Option.some.inj H
            have p13 : 0 ≤ (x22_2 : Int) := of_decide_eq_true zz7
            have q13 : x22_2 < (a0.size : Int) := of_decide_eq_true zz7
            have hx13 := bt_at a0 x22_2
            replace p13 := eq_true p13
            replace q13 := eq_true q13
            go_wp2_with (first | ((with_reducible refine qv (f := 71) rfl ?_); refine qob (some 29) rfl rfl Tryd.func71 (by kernel_rfl) rfl #[.int .u8 (bt a0 x22_2)] rfl zz56 ?_; (with_reducible refine (chars_small.calls (bt a0 x22_2) false _ A14.out).mono ?_); rintro e w' ⟨rfl, ⟨nd, rfl⟩⟩; refine ⟨_, rfl, ?_⟩) | (go_at_call 69; (with_reducible refine (strings_IndexByte.calls a1 (bt a0 x22_2) t118 _ A17.out).mono ?_); rintro e w' ⟨rfl, ⟨nd, rfl⟩⟩))
            go_ret
            exact ⟨zz6, zz13⟩
           ·rw [if_neg c18] at H
            have c18b0 : decide (t118 < 0) = false := decide_eq_false c18
            clear c18
            have H' := qa.mk H
            clear H
            have p13 : 0 ≤ (x22_2 : Int) := of_decide_eq_true zz7
            have q13 : x22_2 < (a0.size : Int) := of_decide_eq_true zz7
            have hx13 := bt_at a0 x22_2
            replace p13 := eq_true p13
            replace q13 := eq_true q13
            go_wp2_with (first | ((with_reducible refine qv (f := 71) rfl ?_); refine qob (some 29) rfl rfl Tryd.func71 (by kernel_rfl) rfl #[.int .u8 (bt a0 x22_2)] rfl zz56 ?_; (with_reducible refine (chars_small.calls (bt a0 x22_2) false _ A14.out).mono ?_); rintro e w' ⟨rfl, ⟨nd, rfl⟩⟩; refine ⟨_, rfl, ?_⟩) | (go_at_call 69; (with_reducible refine (strings_IndexByte.calls a1 (bt a0 x22_2) t118 _ A17.out).mono ?_); rintro e w' ⟨rfl, ⟨nd, rfl⟩⟩))
            go_roundg k2
            case measure => have := HJ2.out; have := HK2.out; omega
            case rel => exact ⟨(wrap64 (x22_2 + 1)), zz6, H', ⟨zz3⟩, zz13⟩
          ·rw [if_neg c16] at H
           have c16b0 : decide ((bt a0 x22_2) < 48) = false := decide_eq_false c16
           clear c16
           by_cases c19 : (bt a0 x22_2) > 57
           ·rw [if_pos c19] at H
            have c19b0 : decide (57 < (bt a0 x22_2)) = true := decide_eq_true c19
            clear c19
            replace H := Option.bind_eq_some_iff.mp H
            obtain ⟨t119, A200, H⟩ := H
            replace H : (if t119 < 0 then (some false) else (qx.l0 k2 a0 a1 (a0.size : Int) (wrap64 (x22_2 + 1)))) = some r := H
            have A20 := qa.mk A200
            clear A200
            by_cases c21 : t119 < 0
            ·rw [if_pos c21] at H
             have c21b0 : decide (t119 < 0) = true := decide_eq_true c21
             clear c21
             obtain rfl := Option.some.inj H
             have p13 : 0 ≤ (x22_2 : Int) := of_decide_eq_true zz7
             have q13 : x22_2 < (a0.size : Int) := of_decide_eq_true zz7
             have hx13 := bt_at a0 x22_2
             replace p13 := eq_true p13
             replace q13 := eq_true q13
             go_wp2_with (first | ((with_reducible refine qv (f := 71) rfl ?_); refine qob (some 29) rfl rfl Tryd.func71 (by kernel_rfl) rfl #[.int .u8 (bt a0 x22_2)] rfl zz56 ?_; (with_reducible refine (chars_small.calls (bt a0 x22_2) false _ A14.out).mono ?_); rintro e w' ⟨rfl, ⟨nd, rfl⟩⟩; refine ⟨_, rfl, ?_⟩) | (go_at_call 69; (with_reducible refine (strings_IndexByte.calls a1 (bt a0 x22_2) t119 _ A20.out).mono ?_); rintro e w' ⟨rfl, ⟨nd, rfl⟩⟩))
             go_ret
             exact ⟨zz6, zz13⟩
            ·rw [if_neg c21] at H
             have c21b0 : decide (t119 < 0) = false := decide_eq_false c21
             clear c21
             have H' := qa.mk H
             clear H
             have p13 : 0 ≤ (x22_2 : Int) := of_decide_eq_true zz7
             have q13 : x22_2 < (a0.size : Int) := of_decide_eq_true zz7
             have hx13 := bt_at a0 x22_2
             replace p13 := eq_true p13
             replace q13 := eq_true q13
             go_wp2_with (first | ((with_reducible refine qv (f := 71) rfl ?_); refine qob (some 29) rfl rfl Tryd.func71 (by kernel_rfl) rfl #[.int .u8 (bt a0 x22_2)] rfl zz56 ?_; (with_reducible refine (chars_small.calls (bt a0 x22_2) false _ A14.out).mono ?_); rintro e w' ⟨rfl, ⟨nd, rfl⟩⟩; refine ⟨_, rfl, ?_⟩) | (go_at_call 69; (with_reducible refine (strings_IndexByte.calls a1 (bt a0 x22_2) t119 _ A20.out).mono ?_); rintro e w' ⟨rfl, ⟨nd, rfl⟩⟩))
             go_roundg k2
             case measure => have := HJ2.out; have := HK2.out; omega
             case rel => exact ⟨(wrap64 (x22_2 + 1)), zz6, H', ⟨zz3⟩, zz13⟩
           ·rw [if_neg c19] at H
            have c19b0 : decide (57 < (bt a0 x22_2)) = false := decide_eq_false c19
            clear c19
            have H' := qa.mk H
            clear H
            have p13 : 0 ≤ (x22_2 : Int) := of_decide_eq_true zz7
            have q13 : x22_2 < (a0.size : Int) := of_decide_eq_true zz7
            have hx13 := bt_at a0 x22_2
            replace p13 := eq_true p13
            replace q13 := eq_true q13
            go_wp2_with (first | ((with_reducible refine qv (f := 71) rfl ?_); refine qob (some 29) rfl rfl Tryd.func71 (by kernel_rfl) rfl #[.int .u8 (bt a0 x22_2)] rfl zz56 ?_; (with_reducible refine (chars_small.calls (bt a0 x22_2) false _ A14.out).mono ?_); rintro e w' ⟨rfl, ⟨nd, rfl⟩⟩; refine ⟨_, rfl, ?_⟩))
            go_roundg k2
            case measure => have := HJ2.out; have := HK2.out; omega
            case rel => exact ⟨(wrap64 (x22_2 + 1)), zz6, H', ⟨zz3⟩, zz13⟩
        ·rw [if_neg c12] at H
         exact absurd H (by simp)
       ·rw [if_neg c11] at H
        exact absurd H (by simp)
      ·rw [if_neg c10] at H
       have c10b0 : decide (x22_2 < (a0.size : Int)) = false := decide_eq_false c10
       clear c10
       obtain rfl := Option.some.inj H
       go_wp2
       go_ret
       exact ⟨zz6, zz13⟩
def qfc.f (k : Nat) (a0 : ByteArray) : Option (Bool) := (qx.f k a0 (⟨#[45]⟩ : ByteArray)).bind fun t120 => (some t120)
theorem qfc.mono : ∀ a0 k, LeO (qfc.f k a0) (qfc.f (k + 1) a0) := by
 intro a0 k
 unfold qfc.f
 repeat' first
   | (with_reducible exact qx.mono _ _ _)
   | (with_reducible exact LeO.refl _)
   | (with_reducible exact LeO.none _)
   | (with_reducible refine LeO.ite ?_ ?_)
   | (with_reducible refine LeO.bind ?_ (fun _ => ?_))
   | exact qx.mono _ _ _
   | exact LeO.none _
   | refine LeO.ite ?_ ?_
   | refine LeO.bind ?_ (fun _ => ?_)
set_option maxHeartbeats 8000000 in
set_option maxRecDepth 100000 in
theorem qfc.calls (k : Nat) (a0 : ByteArray) (r : Bool) (w : World) (h : qfc.f k a0 = some r) :
  Calls Tryd.prog 43 #[.string a0] w fun e w' => e = .returned (.bool r) ∧ Drawn0 w w' := by
 have H : ((qx.f k a0 (⟨#[45]⟩ : ByteArray)).bind fun t120 => (some t120)) = some r := h
 clear h
 replace H := Option.bind_eq_some_iff.mp H
 obtain ⟨t120, A20, H⟩ := H
 replace H : (some t120) = some r := H
 have A2 := qa.mk A20
 clear A20
 obtain rfl := Option.some.inj H
 go_enter Tryd.func43, Tryd.ntmps43
 go_wp2_with (first | ((with_reducible refine qv (f := 61) rfl ?_); refine qob (some 4) rfl rfl Tryd.func61 (by kernel_rfl) rfl #[.string a0, .string (⟨#[45]⟩ : ByteArray)] rfl zz56 ?_; (with_reducible refine (qx.calls k a0 (⟨#[45]⟩ : ByteArray) t120 _ A2.out).mono ?_); rintro e w' ⟨rfl, ⟨nd, rfl⟩⟩; refine ⟨_, rfl, ?_⟩))
 go_ret
 exact ⟨zz6, zz13⟩
def qnb.f (a0 : ByteArray) : Option (Bool) := some (decide ((a0.size : Int) ≤ 65536))
set_option maxHeartbeats 8000000 in
set_option maxRecDepth 100000 in
theorem qnb.calls (a0 : ByteArray) (r : Bool) (w : World) (h : qnb.f a0 = some r) :
  Calls Tryd.prog 44 #[.string a0] w fun e w' => e = .returned (.bool r) ∧ Drawn0 w w' := by
 have H : (some (decide ((a0.size : Int) ≤ 65536))) = some r := h
 clear h
 obtain rfl := Option.some.inj H
 go_enter Tryd.func44, Tryd.ntmps44
 go_wp2
 go_ret
 exact ⟨zz6, zz13⟩
def qac.f (k : Nat) (a0 : ByteArray) : Option (Bool) := (qx.f k a0 (⟨#[45, 58, 46]⟩ : ByteArray)).bind fun t121 => (some t121)
theorem qac.mono : ∀ a0 k, LeO (qac.f k a0) (qac.f (k + 1) a0) := by
 intro a0 k
 unfold qac.f
 repeat' first
   | (with_reducible exact qx.mono _ _ _)
   | (with_reducible exact LeO.refl _)
   | (with_reducible exact LeO.none _)
   | (with_reducible refine LeO.ite ?_ ?_)
   | (with_reducible refine LeO.bind ?_ (fun _ => ?_))
   | exact qx.mono _ _ _
   | exact LeO.none _
   | refine LeO.ite ?_ ?_
   | refine LeO.bind ?_ (fun _ => ?_)
set_option maxHeartbeats 8000000 in
set_option maxRecDepth 100000 in
theorem qac.calls (k : Nat) (a0 : ByteArray) (r : Bool) (w : World) (h : qac.f k a0 = some r) :
  Calls Tryd.prog 47 #[.string a0] w fun e w' => e = .returned (.bool r) ∧ Drawn0 w w' := by
 have H : ((qx.f k a0 (⟨#[45, 58, 46]⟩ : ByteArray)).bind fun t121 => (some t121)) = some r := h
 clear h
 replace H := Option.bind_eq_some_iff.mp H
 obtain ⟨t121, A20, H⟩ := H
 replace H : (some t121) = some r := H
 have A2 := qa.mk A20
 clear A20
 obtain rfl := Option.some.inj H
 go_enter Tryd.func47, Tryd.ntmps47
 go_wp2_with (first | ((with_reducible refine qv (f := 61) rfl ?_); refine qob (some 4) rfl rfl Tryd.func61 (by kernel_rfl) rfl #[.string a0, .string (⟨#[45, 58, 46]⟩ : ByteArray)] rfl zz56 ?_; (with_reducible refine (qx.calls k a0 (⟨#[45, 58, 46]⟩ : ByteArray) t121 _ A2.out).mono ?_); rintro e w' ⟨rfl, ⟨nd, rfl⟩⟩; refine ⟨_, rfl, ?_⟩))
 go_ret
 exact ⟨zz6, zz13⟩
end Go.Proofs.YtjbobecnlpiejaaDoor.Q
namespace Go.Proofs.YtjbobecnlpiejaaDoor.Q.P
open Go.Proofs.YtjbobecnlpiejaaDoorZ
open Go.RowKit Go.Proofs.YtjbobecnlpiejaaDoorW.PrintWords Go.Proofs.YtjbobecnlpiejaaDoorW.PrintLast Go.Proofs.YtjbobecnlpiejaaDoorW.PrintMore
theorem w64 {x : Int} (h : -9223372036854775808 ≤ x) (h' : x ≤ 9223372036854775807) : wrap64 x = x := by unfold wrap64; omega
theorem bt_nat (s : ByteArray) (i : Nat) (h : i < s.size) : bt s (i : Int) = ((s.data.toList.getD i 0).toNat : Int) := by
 unfold bt
 rw [dif_pos (by simpa using h)]
 simp only [Int.toNat_natCast]
 rw [List.getD_eq_getElem?_getD, List.getElem?_eq_getElem (by simpa using h)]
 rfl
theorem size_list (s : ByteArray) : s.size = s.data.toList.length := Array.length_toList.symm
theorem toList_nil_iff (s : ByteArray) : s.toList = [] ↔ s.data.toList = [] := by rw [Lib.toList_data]
def nmC (o : List UInt8) (c : UInt8) : Bool := decide (97 ≤ c.toNat ∧ c.toNat ≤ 122) || decide (48 ≤ c.toNat ∧ c.toNat ≤ 57) || o.contains c
def smallC (c : UInt8) : Bool := decide (97 ≤ c.toNat ∧ c.toNat ≤ 122)
def nm (o : List UInt8) (s : List UInt8) : Bool := !s.isEmpty && decide (s.length ≤ 32) && smallC (s.getD 0 0) && (s.all (nmC o))
theorem small_spec (c : Int) : chars_small.f c = some (decide (97 ≤ c ∧ c ≤ 122)) := by
 unfold chars_small.f
 by_cases h : c ≥ 97
 ·rw [if_pos h]; congr 1; simp [h]
 ·rw [if_neg h]; congr 1; simp; omega
theorem small_byte (s : ByteArray) (i : Nat) (h : i < s.size) : chars_small.f (bt s (i : Int)) = some (smallC (s.data.toList.getD i 0)) := by
 rw [small_spec, bt_nat s i h]
 unfold smallC
 congr 1
 rw [Bool.eq_iff_iff, decide_eq_true_iff, decide_eq_true_iff]
 omega
theorem indexByte_neg (l : List UInt8) (c : UInt8) : (Lib.indexByte l c < 0) ↔ l.contains c = false := by
 induction l with
 | nil => simp [Lib.indexByte]
 | cons b l ih =>
  have hg := Lib.indexByte_ge l c
  unfold Lib.indexByte
  rw [List.contains_cons]
  by_cases h : b == c
  ·rw [if_pos h]
   have : (c == b) = true := by rw [beq_iff_eq] at h ⊢; exact h.symm
   rw [this]
   simp
  ·rw [if_neg h]
   have h2 : (c == b) = false := by
    rw [Bool.eq_false_iff]; intro hh; apply h; rw [beq_iff_eq] at hh ⊢; exact hh.symm
   rw [h2, Bool.false_or, ← ih]
   by_cases h1 : Lib.indexByte l c == -1
   ·rw [if_pos h1]
    rw [beq_iff_eq] at h1
    omega
   ·rw [if_neg h1]
    rw [beq_iff_eq] at h1
    omega
theorem drop_getD (l : List UInt8) (i : Nat) (h : i < l.length) : l.drop i = l.getD i 0 :: l.drop (i + 1) := by
 rw [List.drop_eq_getElem_cons h, List.getD_eq_getElem?_getD, List.getElem?_eq_getElem h]
 rfl
theorem byte_back (c : UInt8) : ((c.toNat : Int)).toNat.toUInt8 = c := by simp
theorem named_loop (x0 x1 : ByteArray) (hs : x0.size ≤ 1000000000000) (d : Nat) : ∀ (k i : Nat), i + d = x0.size → d < k → qx.l0 k x0 x1 (x0.size : Int) (i : Int) = some ((x0.data.toList.drop i).all (nmC x1.data.toList)) := by
 induction d with
 | zero =>
  intro k i hi hk
  obtain ⟨k, rfl⟩ : ∃ m, k = m + 1 := ⟨k - 1, by omega⟩
  unfold qx.l0
  rw [if_neg (by omega), List.drop_eq_nil_of_le (by rw [← size_list]; omega)]
  rfl
 | succ d ih =>
  intro k i hi hk
  obtain ⟨k, rfl⟩ : ∃ m, k = m + 1 := ⟨k - 1, by omega⟩
  have hlt : i < x0.size := by omega
  have hw : wrap64 ((i : Int) + 1) = ((i + 1 : Nat) : Int) := by rw [w64 (by omega) (by omega)]; omega
  have hr := ih k (i + 1) (by omega) (by omega)
  rw [drop_getD _ i (by rw [← size_list]; exact hlt), List.all_cons]
  unfold qx.l0
  rw [if_pos (by omega), if_pos (by omega), if_pos (by omega), small_byte x0 i hlt, bt_nat x0 i hlt]
  simp only [Option.bind_some, hw, hr, strings_IndexByte.f, byte_back]
  generalize x0.data.toList.getD i 0 = c
  unfold nmC smallC
  by_cases h1 : 97 ≤ c.toNat ∧ c.toNat ≤ 122
  ·simp [h1]
  ·simp only [h1, decide_false, Bool.false_eq_true, if_false, Bool.false_or]
   by_cases h2 : (c.toNat : Int) < 48
   ·rw [if_pos h2]
    have h3 : ¬ (48 ≤ c.toNat ∧ c.toNat ≤ 57) := by omega
    simp only [h3, decide_false, Bool.false_or]
    by_cases h4 : Lib.indexByte x1.data.toList c < 0
    ·rw [if_pos h4, (indexByte_neg _ _).1 h4]; simp
    ·rw [if_neg h4]
     have : x1.data.toList.contains c = true := by
      have := mt (indexByte_neg _ _).2 h4
      simpa using this
     rw [this]; simp
   ·rw [if_neg h2]
    by_cases h5 : (c.toNat : Int) > 57
    ·rw [if_pos h5]
     have h3 : ¬ (48 ≤ c.toNat ∧ c.toNat ≤ 57) := by omega
     simp only [h3, decide_false, Bool.false_or]
     by_cases h4 : Lib.indexByte x1.data.toList c < 0
     ·rw [if_pos h4, (indexByte_neg _ _).1 h4]; simp
     ·rw [if_neg h4]
      have : x1.data.toList.contains c = true := by
       have := mt (indexByte_neg _ _).2 h4
       simpa using this
      rw [this]; simp
    ·rw [if_neg h5]
     have h3 : (48 ≤ c.toNat ∧ c.toNat ≤ 57) := by omega
     simp [h3]
theorem named_spec (x0 x1 : ByteArray) (k : Nat) (hk : 40 ≤ k) : qx.f k x0 x1 = some (nm x1.data.toList x0.data.toList) := by
 obtain ⟨k, rfl⟩ : ∃ m, k = m + 1 := ⟨k - 1, by omega⟩
 unfold qx.f nm
 by_cases h0 : x0.toList = []
 ·rw [if_pos h0]
  rw [toList_nil_iff] at h0
  simp only [qx.j0]
  rw [if_pos trivial, h0]
  rfl
 ·rw [if_neg h0]
  rw [toList_nil_iff] at h0
  have he : x0.data.toList.isEmpty = false := by rw [List.isEmpty_eq_false_iff]; exact h0
  have hpos : 0 < x0.size := by rw [size_list]; exact List.length_pos_iff.2 h0
  by_cases h1 : (x0.size : Int) > 32
  ·rw [if_pos h1]
   simp only [qx.j0]
   rw [if_pos trivial, he]
   have : decide (x0.data.toList.length ≤ 32) = false := decide_eq_false (by rw [← size_list]; omega)
   rw [this]
   simp
  ·rw [if_neg h1, if_pos (by omega)]
   have hl : x0.data.toList.length ≤ 32 := by rw [← size_list]; omega
   have h2 := small_byte x0 0 hpos
   simp only [Int.natCast_zero] at h2
   rw [h2]
   simp only [Option.bind_some]
   simp only [qx.j0]
   have h3 := named_loop x0 x1 (by omega) x0.size k 0 (by omega) (by omega)
   simp only [Int.natCast_zero, List.drop_zero] at h3
   rw [h3, he]
   rw [decide_eq_true hl]
   cases smallC (x0.data.toList.getD 0 0) <;> rfl
def tagO : List UInt8 := [45]
def nameO : List UInt8 := [45, 58, 46]
theorem tag_spec (x : ByteArray) (k : Nat) (hk : 40 ≤ k) : qfc.f k x = some (nm tagO x.data.toList) := by
 unfold qfc.f
 rw [named_spec _ _ k hk]
 rfl
theorem name_spec (x : ByteArray) (k : Nat) (hk : 40 ≤ k) : qac.f k x = some (nm nameO x.data.toList) := by
 unfold qac.f
 rw [named_spec _ _ k hk]
 rfl
end Go.Proofs.YtjbobecnlpiejaaDoor.Q.P
namespace Go.Proofs.YtjbobecnlpiejaaDoor.Q
open Go.Proofs.YtjbobecnlpiejaaDoorZ
open Go.RowKit Go.Proofs.YtjbobecnlpiejaaDoorW.PrintWords Go.Proofs.YtjbobecnlpiejaaDoorW.PrintLast Go.Proofs.YtjbobecnlpiejaaDoorW.PrintMore
attribute [local go_sem] qpb qqb qvb qwb
mutual
def qw.l0 : Nat → List (S41) → Int → Int → Int → Option (Bool)
 | 0, _, _, _, _ => none
 | k + 1, x0, x3, x7, x8 => if x8 < x7 then (if 0 ≤ x8 then (if x8 < (x0.length : Int) then (if (wrap64 ((wrap64 (x3 + 1)) + (((qab x0 x8).f4).length : Int))) > 200 then (qw.j1 k x0 (wrap64 ((wrap64 (x3 + 1)) + (((qab x0 x8).f4).length : Int))) x8 x7 x8 true) else (qw.j1 k x0 (wrap64 ((wrap64 (x3 + 1)) + (((qab x0 x8).f4).length : Int))) x8 x7 x8 (decide ((wrap64 ((((qab x0 x8).f2).size : Int) + (((qab x0 x8).f3).size : Int))) > 200000)))) else (none)) else (none)) else (some true)
def qw.j1 : Nat → List (S41) → Int → Int → Int → Int → Bool → Option (Bool)
 | 0, _, _, _, _, _, _ => none
 | k + 1, x0, x3, x4, x7, x8, x37 => if x37 = true then (some false) else (if 0 ≤ x4 then (if x4 < (x0.length : Int) then (qw.l1 k x0 x3 x4 x7 x8 (((qab x0 x4).f4).length : Int) 0) else (none)) else (none))
def qw.l1 : Nat → List (S41) → Int → Int → Int → Int → Int → Int → Option (Bool)
 | 0, _, _, _, _, _, _, _ => none
 | k + 1, x0, x3, x4, x7, x8, x43, x44 => if x44 < x43 then (if 0 ≤ x4 then (if x4 < (x0.length : Int) then (if 0 ≤ x44 then (if x44 < (((qab x0 x4).f4).length : Int) then (if (wrap64 ((((rd_T33 ((qab x0 x4).f4) x44).f0).size : Int) + (((rd_T33 ((qab x0 x4).f4) x44).f1).size : Int))) > 200000 then (some false) else (qw.l1 k x0 x3 x4 x7 x8 x43 (wrap64 (x44 + 1)))) else (none)) else (none)) else (none)) else (none)) else (qw.l0 k x0 x3 x7 (wrap64 (x8 + 1)))
end
def qw.f (k : Nat) (l0 : List (S41)) : Option (Bool) := qw.l0 k l0 0 (l0.length : Int) 0
set_option maxHeartbeats 8000000 in
set_option maxRecDepth 100000 in
theorem qw.calls (k : Nat) (A0 : Option Addr) (c0 : Nat) (l0 : List (S41)) (r : Bool) (w : World) (hr0 : Kd.C k41 w A0 l0.length l0) (hc0 : l0.length ≤ c0) (h : qw.f k l0 = some r) :
  Calls Tryd.prog 10 #[.slice A0 l0.length c0] w fun e w' => e = .returned (.bool r) ∧ Drawn0 w w' := by
 have HR0 := qa.mk hr0
 have HC0 := qa.mk hc0
 clear hr0 hc0
 have H : (qw.l0 k l0 0 (l0.length : Int) 0) = some r := h
 clear h
 have H' := qa.mk H
 clear H
 go_enter Tryd.func10, Tryd.ntmps10
 go_wp2
 repeat (go_quiet (fail); try go_wp2)
 go_loopg [3, 8] k (fun kq v3 v8 w' => ∃ (x3_1 : Int) (x8_1 : Int), v3 = .int .i64 x3_1 ∧ v8 = .int .i64 x8_1 ∧ qa (qw.l0 kq l0 x3_1 (l0.length : Int) x8_1 = some r) ∧ qa (kq ≤ k) ∧ Drawn0 w w')
 case atStart => exact ⟨(0), (0), zz6, zz6, H', ⟨Nat.le_refl _⟩, zz13⟩
 case round =>
  clear H'
  try clear c1
  obtain ⟨x3_1, x8_1, rfl, rfl, HA, HK1, ⟨m1, rfl⟩⟩ := hrel
  cases gk with
  | zero => exact absurd HA.out (by simp [qw.l0])
  | succ k1 =>
   have H := HA.out
   clear HA
   simp only [qw.l0] at H
   by_cases c2 : x8_1 < (l0.length : Int)
   ·rw [if_pos c2] at H
    have c2b0 : decide (x8_1 < (l0.length : Int)) = true := decide_eq_true c2
    clear c2
    by_cases c3 : 0 ≤ x8_1
    ·rw [if_pos c3] at H
     have c3b0 : decide (0 ≤ x8_1) = true := decide_eq_true c3
     clear c3
     by_cases c4 : x8_1 < (l0.length : Int)
     ·rw [if_pos c4] at H
      have c4b0 : decide (x8_1 < (l0.length : Int)) = true := decide_eq_true c4
      clear c4
      have HC5 := qa.mk H
      clear H
      have p379 : 0 ≤ (x8_1 : Int) := of_decide_eq_true zz7
      have q379 : x8_1 < (l0.length : Int) := of_decide_eq_true zz7
      obtain ⟨ad379, A379_4, c379_4, e379, hx379_0, hx379_1, hx379_2, hx379_3, hx379_4, hl379_4, hi379_4⟩ := at_T41 HR0.out x8_1 p379 q379
      cases e379
      have HR379_4 := qa.mk hi379_4
      have HC379_4 := qa.mk hl379_4
      clear hi379_4 hl379_4
      replace p379 := eq_true p379
      replace q379 := eq_true q379
      go_upto_region 6 with (fail)
      repeat (go_quiet (fail); go_upto_region 6 with (fail))
      go_cut [37] (fun v37 wc => ∃ (kq : Nat) (x37_4 : Bool), v37 = .bool x37_4 ∧ qa (qw.j1 kq l0 (wrap64 ((wrap64 (x3_1 + 1)) + (((qab l0 x8_1).f4).length : Int))) x8_1 (l0.length : Int) x8_1 x37_4 = some r) ∧ qa (kq ≤ k1) ∧ Drawn0 w wc)
      case first =>
       have H := HC5.out
       clear HC5
       by_cases c6 : (wrap64 ((wrap64 (x3_1 + 1)) + (((qab l0 x8_1).f4).length : Int))) > 200
       ·rw [if_pos c6] at H
        have c6b0 : decide (200 < (wrap64 ((wrap64 (x3_1 + 1)) + (((qab l0 x8_1).f4).length : Int)))) = true := decide_eq_true c6
        clear c6
        (first | rw [c6b0] | (simp only [i64_w, i32_w]; rw [c6b0]) | rw [c6b2] | skip)
        have H' := qa.mk H
        clear H
        go_wp2
        repeat (go_quiet (fail); try go_wp2)
        go_meet
        case rel => exact ⟨_, (true), zz6, H', ⟨zz12⟩, zz13⟩
       ·rw [if_neg c6] at H
        have c6b0 : decide (200 < (wrap64 ((wrap64 (x3_1 + 1)) + (((qab l0 x8_1).f4).length : Int)))) = false := decide_eq_false c6
        clear c6
        (first | rw [c6b0] | (simp only [i64_w, i32_w]; rw [c6b0]) | rw [c6b2] | skip)
        have H' := qa.mk H
        clear H
        have p380 : 0 ≤ (x8_1 : Int) := of_decide_eq_true zz7
        have q380 : x8_1 < (l0.length : Int) := of_decide_eq_true zz7
        obtain ⟨ad380, A380_4, c380_4, e380, hx380_0, hx380_1, hx380_2, hx380_3, hx380_4, hl380_4, hi380_4⟩ := at_T41 HR0.out x8_1 p380 q380
        obtain rfl : ad379 = ad380 := (by injection e380)
        have HR380_4 := qa.mk hi380_4
        have HC380_4 := qa.mk hl380_4
        clear hi380_4 hl380_4
        replace p380 := eq_true p380
        replace q380 := eq_true q380
        have p381 : 0 ≤ (x8_1 : Int) := of_decide_eq_true zz7
        have q381 : x8_1 < (l0.length : Int) := of_decide_eq_true zz7
        obtain ⟨ad381, A381_4, c381_4, e381, hx381_0, hx381_1, hx381_2, hx381_3, hx381_4, hl381_4, hi381_4⟩ := at_T41 HR0.out x8_1 p381 q381
        obtain rfl : ad379 = ad381 := (by injection e381)
        have HR381_4 := qa.mk hi381_4
        have HC381_4 := qa.mk hl381_4
        clear hi381_4 hl381_4
        replace p381 := eq_true p381
        replace q381 := eq_true q381
        have ea_ := Option.some.inj (hx380_4.symm.trans hx381_4)
        injection ea_ with ea_ en_ ec_
        subst ea_
        subst ec_
        clear en_
        go_wp2
        repeat (go_quiet (fail); try go_wp2)
        go_meet
        case rel => exact ⟨_, (decide ((wrap64 ((((qab l0 x8_1).f2).size : Int) + (((qab l0 x8_1).f3).size : Int))) > 200000)), zz6, H', ⟨zz12⟩, zz13⟩
      case rest =>
       clear HC5
       try clear c1
       try clear c2
       try clear c2b0
       try clear p2
       try clear c3
       try clear c3b0
       try clear p3
       try clear q3
       try clear hx3
       try clear c4
       try clear c4b0
       try clear c6
       try clear c6b0
       try clear c6b2
       try clear p6
       try clear hx379_0
       try clear hx379_1
       try clear hx379_2
       try clear hx379_3
       try clear hx379_4
       try clear hx380_0
       try clear hx380_1
       try clear hx380_2
       try clear hx380_3
       try clear hx380_4
       try clear hx381_0
       try clear hx381_1
       try clear hx381_2
       try clear hx381_3
       try clear hx381_4
       try clear p379
       try clear p380
       try clear p381
       try clear q379
       try clear q380
       try clear q381
       obtain ⟨kq, x37_4, rfl, HA, HJ4, ⟨mc4, rfl⟩⟩ := hcut
       cases kq with
       | zero => exact absurd HA.out (by simp [qw.j1])
       | succ kj4 =>
        have H := HA.out
        clear HA
        simp only [qw.j1] at H
        by_cases c7 : x37_4 = true
        ·subst c7
         have H1 : (some false) = some r := by rw [if_pos rfl] at H; exact H
         clear H
         have H := H1
         clear H1
         obtain rfl := Option.some.inj H
         go_wp2
         repeat (go_quiet (fail); try go_wp2)
         go_ret
         exact ⟨zz6, zz13⟩
        ·replace c7 := Bool.eq_false_iff.mpr c7
         subst c7
         have H1 : (if 0 ≤ x8_1 then (if x8_1 < (l0.length : Int) then (qw.l1 kj4 l0 (wrap64 ((wrap64 (x3_1 + 1)) + (((qab l0 x8_1).f4).length : Int))) x8_1 (l0.length : Int) x8_1 (((qab l0 x8_1).f4).length : Int) 0) else (none)) else (none)) = some r := by rw [if_neg (show ¬ (false = true) by decide)] at H; exact H
         clear H
         have H := H1
         clear H1
         by_cases c8 : 0 ≤ x8_1
         ·rw [if_pos c8] at H
          have c8b0 : decide (0 ≤ x8_1) = true := decide_eq_true c8
          clear c8
          by_cases c9 : x8_1 < (l0.length : Int)
          ·rw [if_pos c9] at H
           have c9b0 : decide (x8_1 < (l0.length : Int)) = true := decide_eq_true c9
           clear c9
           have H' := qa.mk H
           clear H
           have p382 : 0 ≤ (x8_1 : Int) := of_decide_eq_true zz7
           have q382 : x8_1 < (l0.length : Int) := of_decide_eq_true zz7
           obtain ⟨ad382, A382_4, c382_4, e382, hx382_0, hx382_1, hx382_2, hx382_3, hx382_4, hl382_4, hi382_4⟩ := at_T41 HR0.out x8_1 p382 q382
           obtain rfl : ad379 = ad382 := (by injection e382)
           have HR382_4 := qa.mk hi382_4
           have HC382_4 := qa.mk hl382_4
           clear hi382_4 hl382_4
           replace p382 := eq_true p382
           replace q382 := eq_true q382
           go_wp2
           repeat (go_quiet (fail); try go_wp2)
           go_loopg [44] kj4 (fun kq v44 w' => ∃ (x44_3 : Int), v44 = .int .i64 x44_3 ∧ qa (qw.l1 kq l0 (wrap64 ((wrap64 (x3_1 + 1)) + (((qab l0 x8_1).f4).length : Int))) x8_1 (l0.length : Int) x8_1 (((qab l0 x8_1).f4).length : Int) x44_3 = some r) ∧ qa (kq ≤ kj4) ∧ Drawn0 w w')
           case atStart => exact ⟨(0), zz6, H', ⟨Nat.le_refl _⟩, zz13⟩
           case round =>
            clear H'
            try clear c1
            try clear c2
            try clear c2b0
            try clear p2
            try clear c3
            try clear c3b0
            try clear p3
            try clear q3
            try clear hx3
            try clear c4
            try clear c4b0
            try clear c6
            try clear c6b0
            try clear c6b2
            try clear p6
            try clear c7
            try clear c8
            try clear c8b0
            try clear c9
            try clear c9b0
            try clear hx379_0
            try clear hx379_1
            try clear hx379_2
            try clear hx379_3
            try clear hx379_4
            try clear hx380_0
            try clear hx380_1
            try clear hx380_2
            try clear hx380_3
            try clear hx380_4
            try clear hx381_0
            try clear hx381_1
            try clear hx381_2
            try clear hx381_3
            try clear hx381_4
            try clear hx382_0
            try clear hx382_1
            try clear hx382_2
            try clear hx382_3
            try clear hx382_4
            try clear p2
            try clear p3
            try clear p379
            try clear p380
            try clear p381
            try clear p382
            try clear p6
            try clear q3
            try clear q379
            try clear q380
            try clear q381
            try clear q382
            obtain ⟨x44_3, rfl, HA, HK3, ⟨m3, rfl⟩⟩ := hrel
            cases gk with
            | zero => exact absurd HA.out (by simp [qw.l1])
            | succ k3 =>
             have H := HA.out
             clear HA
             simp only [qw.l1] at H
             by_cases c10 : x44_3 < (((qab l0 x8_1).f4).length : Int)
             ·rw [if_pos c10] at H
              have c10b0 : decide (x44_3 < (((qab l0 x8_1).f4).length : Int)) = true := decide_eq_true c10
              clear c10
              by_cases c11 : 0 ≤ x8_1
              ·rw [if_pos c11] at H
               have c11b0 : decide (0 ≤ x8_1) = true := decide_eq_true c11
               clear c11
               by_cases c12 : x8_1 < (l0.length : Int)
               ·rw [if_pos c12] at H
                have c12b0 : decide (x8_1 < (l0.length : Int)) = true := decide_eq_true c12
                clear c12
                by_cases c13 : 0 ≤ x44_3
                ·rw [if_pos c13] at H
                 have c13b0 : decide (0 ≤ x44_3) = true := decide_eq_true c13
                 clear c13
                 by_cases c14 : x44_3 < (((qab l0 x8_1).f4).length : Int)
                 ·rw [if_pos c14] at H
                  have c14b0 : decide (x44_3 < (((qab l0 x8_1).f4).length : Int)) = true := decide_eq_true c14
                  clear c14
                  by_cases c15 : (wrap64 ((((rd_T33 ((qab l0 x8_1).f4) x44_3).f0).size : Int) + (((rd_T33 ((qab l0 x8_1).f4) x44_3).f1).size : Int))) > 200000
                  ·rw [if_pos c15] at H
                   have c15b0 : decide (200000 < (wrap64 ((((rd_T33 ((qab l0 x8_1).f4) x44_3).f0).size : Int) + (((rd_T33 ((qab l0 x8_1).f4) x44_3).f1).size : Int)))) = true := decide_eq_true c15
                   clear c15
                   obtain rfl := Option.some.inj H
                   have p383 : 0 ≤ (x8_1 : Int) := of_decide_eq_true zz7
                   have q383 : x8_1 < (l0.length : Int) := of_decide_eq_true zz7
                   obtain ⟨ad383, A383_4, c383_4, e383, hx383_0, hx383_1, hx383_2, hx383_3, hx383_4, hl383_4, hi383_4⟩ := at_T41 HR0.out x8_1 p383 q383
                   obtain rfl : ad379 = ad383 := (by injection e383)
                   have HR383_4 := qa.mk hi383_4
                   have HC383_4 := qa.mk hl383_4
                   clear hi383_4 hl383_4
                   replace p383 := eq_true p383
                   replace q383 := eq_true q383
                   have p384 : 0 ≤ (x44_3 : Int) := of_decide_eq_true zz7
                   have q384 : x44_3 < (((qab l0 x8_1).f4).length : Int) := of_decide_eq_true zz7
                   obtain ⟨ad384, e384, hx384_0, hx384_1, hx384_2⟩ := at_T33 HR383_4.out x44_3 p384 q384
                   cases e384
                   replace p384 := eq_true p384
                   replace q384 := eq_true q384
                   have p385 : 0 ≤ (x8_1 : Int) := of_decide_eq_true zz7
                   have q385 : x8_1 < (l0.length : Int) := of_decide_eq_true zz7
                   obtain ⟨ad385, A385_4, c385_4, e385, hx385_0, hx385_1, hx385_2, hx385_3, hx385_4, hl385_4, hi385_4⟩ := at_T41 HR0.out x8_1 p385 q385
                   obtain rfl : ad379 = ad385 := (by injection e385)
                   have HR385_4 := qa.mk hi385_4
                   have HC385_4 := qa.mk hl385_4
                   clear hi385_4 hl385_4
                   replace p385 := eq_true p385
                   replace q385 := eq_true q385
                   have ea_ := Option.some.inj (hx383_4.symm.trans hx385_4)
                   injection ea_ with ea_ en_ ec_
                   subst ea_
                   subst ec_
                   clear en_
                   have p386 : 0 ≤ (x44_3 : Int) := of_decide_eq_true zz7
                   have q386 : x44_3 < (((qab l0 x8_1).f4).length : Int) := of_decide_eq_true zz7
                   obtain ⟨ad386, e386, hx386_0, hx386_1, hx386_2⟩ := at_T33 HR385_4.out x44_3 p386 q386
                   cases e386
                   replace p386 := eq_true p386
                   replace q386 := eq_true q386
                   go_wp2
                   repeat (go_quiet (fail); try go_wp2)
                   go_ret
                   exact ⟨zz6, zz13⟩
                  ·rw [if_neg c15] at H
                   have c15b0 : decide (200000 < (wrap64 ((((rd_T33 ((qab l0 x8_1).f4) x44_3).f0).size : Int) + (((rd_T33 ((qab l0 x8_1).f4) x44_3).f1).size : Int)))) = false := decide_eq_false c15
                   clear c15
                   have H' := qa.mk H
                   clear H
                   have p383 : 0 ≤ (x8_1 : Int) := of_decide_eq_true zz7
                   have q383 : x8_1 < (l0.length : Int) := of_decide_eq_true zz7
                   obtain ⟨ad383, A383_4, c383_4, e383, hx383_0, hx383_1, hx383_2, hx383_3, hx383_4, hl383_4, hi383_4⟩ := at_T41 HR0.out x8_1 p383 q383
                   obtain rfl : ad379 = ad383 := (by injection e383)
                   have HR383_4 := qa.mk hi383_4
                   have HC383_4 := qa.mk hl383_4
                   clear hi383_4 hl383_4
                   replace p383 := eq_true p383
                   replace q383 := eq_true q383
                   have p384 : 0 ≤ (x44_3 : Int) := of_decide_eq_true zz7
                   have q384 : x44_3 < (((qab l0 x8_1).f4).length : Int) := of_decide_eq_true zz7
                   obtain ⟨ad384, e384, hx384_0, hx384_1, hx384_2⟩ := at_T33 HR383_4.out x44_3 p384 q384
                   cases e384
                   replace p384 := eq_true p384
                   replace q384 := eq_true q384
                   have p385 : 0 ≤ (x8_1 : Int) := of_decide_eq_true zz7
                   have q385 : x8_1 < (l0.length : Int) := of_decide_eq_true zz7
                   obtain ⟨ad385, A385_4, c385_4, e385, hx385_0, hx385_1, hx385_2, hx385_3, hx385_4, hl385_4, hi385_4⟩ := at_T41 HR0.out x8_1 p385 q385
                   obtain rfl : ad379 = ad385 := (by injection e385)
                   have HR385_4 := qa.mk hi385_4
                   have HC385_4 := qa.mk hl385_4
                   clear hi385_4 hl385_4
                   replace p385 := eq_true p385
                   replace q385 := eq_true q385
                   have ea_ := Option.some.inj (hx383_4.symm.trans hx385_4)
                   injection ea_ with ea_ en_ ec_
                   subst ea_
                   subst ec_
                   clear en_
                   have p386 : 0 ≤ (x44_3 : Int) := of_decide_eq_true zz7
                   have q386 : x44_3 < (((qab l0 x8_1).f4).length : Int) := of_decide_eq_true zz7
                   obtain ⟨ad386, e386, hx386_0, hx386_1, hx386_2⟩ := at_T33 HR385_4.out x44_3 p386 q386
                   cases e386
                   replace p386 := eq_true p386
                   replace q386 := eq_true q386
                   go_wp2
                   repeat (go_quiet (fail); try go_wp2)
                   go_roundg k3
                   case measure => have := HK1.out; have := HJ4.out; have := HK3.out; omega
                   case rel => exact ⟨(wrap64 (x44_3 + 1)), zz6, H', ⟨by have := HK1.out; have := HJ4.out; have := HK3.out; omega⟩, zz13⟩
                 ·rw [if_neg c14] at H
                  exact absurd H (by simp)
                ·rw [if_neg c13] at H
                 exact absurd H (by simp)
               ·rw [if_neg c12] at H
                exact absurd H (by simp)
              ·rw [if_neg c11] at H
               exact absurd H (by simp)
             ·rw [if_neg c10] at H
              have c10b0 : decide (x44_3 < (((qab l0 x8_1).f4).length : Int)) = false := decide_eq_false c10
              clear c10
              have H' := qa.mk H
              clear H
              go_wp2
              repeat (go_quiet (fail); try go_wp2)
              go_roundg k3
              case measure => have := HK1.out; have := HJ4.out; have := HK3.out; omega
              case rel => exact ⟨((wrap64 ((wrap64 (x3_1 + 1)) + (((qab l0 x8_1).f4).length : Int)))), (wrap64 (x8_1 + 1)), zz6, zz6, H', ⟨by have := HK1.out; have := HJ4.out; have := HK3.out; omega⟩, zz13⟩
          ·rw [if_neg c9] at H
           exact absurd H (by simp)
         ·rw [if_neg c8] at H
          exact absurd H (by simp)
     ·rw [if_neg c4] at H
      exact absurd H (by simp)
    ·rw [if_neg c3] at H
     exact absurd H (by simp)
   ·rw [if_neg c2] at H
    have c2b0 : decide (x8_1 < (l0.length : Int)) = false := decide_eq_false c2
    clear c2
    obtain rfl := Option.some.inj H
    go_wp2
    repeat (go_quiet (fail); try go_wp2)
    go_ret
    exact ⟨zz6, zz13⟩
def query_Part_right_1.f (k : Nat) (a0_0 : ByteArray) (a0_1 : ByteArray) (a0_2 : Bool) : Option (Bool) := (qac.f k a0_0).bind fun t123 => (if t123 = true then ((qnb.f a0_1).bind fun t124 => (if t124 = true then (if a0_2 = true then (some false) else (some (a0_1.toList != ([] : List UInt8)))) else (some true))) else (some true))
set_option maxHeartbeats 8000000 in
set_option maxRecDepth 100000 in
theorem query_Part_right_1.calls (k : Nat) (a0_0 : ByteArray) (a0_1 : ByteArray) (a0_2 : Bool) (r : Bool) (w : World) (h : query_Part_right_1.f k a0_0 a0_1 a0_2 = some r) :
  Calls Tryd.prog 46 #[.agg #[.string a0_0, .string a0_1, .bool a0_2]] w fun e w' => e = .returned (.bool r) ∧ Below w.heap.size w w' := by
 have hu33 := Tryd.underlying33
 have HB := qa.mk (Below.refl w.heap.size w)
 have H : ((qac.f k a0_0).bind fun t123 => (if t123 = true then ((qnb.f a0_1).bind fun t124 => (if t124 = true then (if a0_2 = true then (some false) else (some (a0_1.toList != ([] : List UInt8)))) else (some true))) else (some true))) = some r := h
 clear h
 replace H := Option.bind_eq_some_iff.mp H
 obtain ⟨t123, A20, H⟩ := H
 replace H : (if t123 = true then ((qnb.f a0_1).bind fun t124 => (if t124 = true then (if a0_2 = true then (some false) else (some (a0_1.toList != ([] : List UInt8)))) else (some true))) else (some true)) = some r := H
 have A2 := qa.mk A20
 clear A20
 by_cases c3 : t123 = true
 ·subst c3
  have H1 : ((qnb.f a0_1).bind fun t124 => (if t124 = true then (if a0_2 = true then (some false) else (some (a0_1.toList != ([] : List UInt8)))) else (some true))) = some r := by rw [if_pos rfl] at H; exact H
  clear H
  have H := H1
  clear H1
  replace H := Option.bind_eq_some_iff.mp H
  obtain ⟨t124, A40, H⟩ := H
  replace H : (if t124 = true then (if a0_2 = true then (some false) else (some (a0_1.toList != ([] : List UInt8)))) else (some true)) = some r := H
  have A4 := qa.mk A40
  clear A40
  by_cases c5 : t124 = true
  ·subst c5
   have H1 : (if a0_2 = true then (some false) else (some (a0_1.toList != ([] : List UInt8)))) = some r := by rw [if_pos rfl] at H; exact H
   clear H
   have H := H1
   clear H1
   by_cases c6 : a0_2 = true
   ·subst c6
    have H1 : (some false) = some r := by rw [if_pos rfl] at H; exact H
    clear H
    have H := H1
    clear H1
    obtain rfl := Option.some.inj H
    go_enter Tryd.func46, Tryd.ntmps46
    go_wp2_with (first | ((with_reducible refine qeb (N := 1) rfl ?_); refine qib ?hg (N := 1) ?hd (cs := #[.string a0_0, .string a0_1, .bool true]) (t := 33) ?hr ?_; (case hd => rfl); (case hg => rfl); (case hr => exact zz5); intro gb122 hg w7 hbox hb; have n0_ := qa.mk (qm zz24 hb); have n1_ := qa.mk (hbox); have n2_ := qa.mk ((by rw [hg]; exact (ql zz24) : w.heap.size ≤ gb122)); have n3_ := qa.mk ((by rw [hg]; exact (ql zz24) : w.heap.size ≤ gb122)); clear HB; have HB := n0_; have BK122 := n1_; have GW122 := n2_; have GE122 := n3_; clear n0_ n1_ n2_ n3_; clear hb hbox hg; have hcz8_0 : w7.cell? ⟨gb122, 0, none⟩ = some (.string a0_0) := (qg BK122.out 0).trans rfl; have hcz8_1 : w7.cell? ⟨gb122, 1, none⟩ = some (.string a0_1) := (qg BK122.out 1).trans rfl; have hcz8_2 : w7.cell? ⟨gb122, 2, none⟩ = some (.bool true) := (qg BK122.out 2).trans rfl; have hfz8_0 := qf BK122.out 0; have hfz8_1 := qf BK122.out 1; have hfz8_2 := qf BK122.out 2) | ((with_reducible refine qv (f := 47) rfl ?_); refine qob (some 5) rfl rfl Tryd.func47 (by kernel_rfl) rfl #[.string a0_0] rfl zz56 ?_; (with_reducible refine (qac.calls k a0_0 true _ A2.out).mono ?_); rintro e w' ⟨rfl, ⟨nd, rfl⟩⟩; refine ⟨_, rfl, ?_⟩) | (go_at_call 44; (with_reducible refine (qnb.calls a0_1 true _ A4.out).mono ?_); rintro e w' ⟨rfl, ⟨nd, rfl⟩⟩))
    go_ret
    exact ⟨zz65, zz44⟩
   ·replace c6 := Bool.eq_false_iff.mpr c6
    subst c6
    have H1 : (some (a0_1.toList != ([] : List UInt8))) = some r := by rw [if_neg (show ¬ (false = true) by decide)] at H; exact H
    clear H
    have H := H1
    clear H1
    obtain rfl := Option.some.inj H
    go_enter Tryd.func46, Tryd.ntmps46
    go_wp2_with (first | ((with_reducible refine qeb (N := 1) rfl ?_); refine qib ?hg (N := 1) ?hd (cs := #[.string a0_0, .string a0_1, .bool false]) (t := 33) ?hr ?_; (case hd => rfl); (case hg => rfl); (case hr => exact zz5); intro gb122 hg w9 hbox hb; have n0_ := qa.mk (qm zz24 hb); have n1_ := qa.mk (hbox); have n2_ := qa.mk ((by rw [hg]; exact (ql zz24) : w.heap.size ≤ gb122)); have n3_ := qa.mk ((by rw [hg]; exact (ql zz24) : w.heap.size ≤ gb122)); clear HB; have HB := n0_; have BK122 := n1_; have GW122 := n2_; have GE122 := n3_; clear n0_ n1_ n2_ n3_; clear hb hbox hg; have hcz10_0 : w9.cell? ⟨gb122, 0, none⟩ = some (.string a0_0) := (qg BK122.out 0).trans rfl; have hcz10_1 : w9.cell? ⟨gb122, 1, none⟩ = some (.string a0_1) := (qg BK122.out 1).trans rfl; have hcz10_2 : w9.cell? ⟨gb122, 2, none⟩ = some (.bool false) := (qg BK122.out 2).trans rfl; have hfz10_0 := qf BK122.out 0; have hfz10_1 := qf BK122.out 1; have hfz10_2 := qf BK122.out 2) | ((with_reducible refine qv (f := 47) rfl ?_); refine qob (some 5) rfl rfl Tryd.func47 (by kernel_rfl) rfl #[.string a0_0] rfl zz56 ?_; (with_reducible refine (qac.calls k a0_0 true _ A2.out).mono ?_); rintro e w' ⟨rfl, ⟨nd, rfl⟩⟩; refine ⟨_, rfl, ?_⟩) | (go_at_call 44; (with_reducible refine (qnb.calls a0_1 true _ A4.out).mono ?_); rintro e w' ⟨rfl, ⟨nd, rfl⟩⟩))
    go_ret
    exact ⟨zz65, zz44⟩
  ·replace c5 := Bool.eq_false_iff.mpr c5
   subst c5
   have H1 : (some true) = some r := by rw [if_neg (show ¬ (false = true) by decide)] at H; exact H
   clear H
   have H := H1
   clear H1
   obtain rfl := Option.some.inj H
   go_enter Tryd.func46, Tryd.ntmps46
   go_wp2_with (first | ((with_reducible refine qeb (N := 1) rfl ?_); refine qib ?hg (N := 1) ?hd (cs := #[.string a0_0, .string a0_1, .bool a0_2]) (t := 33) ?hr ?_; (case hd => rfl); (case hg => rfl); (case hr => exact zz5); intro gb122 hg w11 hbox hb; have n0_ := qa.mk (qm zz24 hb); have n1_ := qa.mk (hbox); have n2_ := qa.mk ((by rw [hg]; exact (ql zz24) : w.heap.size ≤ gb122)); have n3_ := qa.mk ((by rw [hg]; exact (ql zz24) : w.heap.size ≤ gb122)); clear HB; have HB := n0_; have BK122 := n1_; have GW122 := n2_; have GE122 := n3_; clear n0_ n1_ n2_ n3_; clear hb hbox hg; have hcz12_0 : w11.cell? ⟨gb122, 0, none⟩ = some (.string a0_0) := (qg BK122.out 0).trans rfl; have hcz12_1 : w11.cell? ⟨gb122, 1, none⟩ = some (.string a0_1) := (qg BK122.out 1).trans rfl; have hcz12_2 : w11.cell? ⟨gb122, 2, none⟩ = some (.bool a0_2) := (qg BK122.out 2).trans rfl; have hfz12_0 := qf BK122.out 0; have hfz12_1 := qf BK122.out 1; have hfz12_2 := qf BK122.out 2) | ((with_reducible refine qv (f := 47) rfl ?_); refine qob (some 5) rfl rfl Tryd.func47 (by kernel_rfl) rfl #[.string a0_0] rfl zz56 ?_; (with_reducible refine (qac.calls k a0_0 true _ A2.out).mono ?_); rintro e w' ⟨rfl, ⟨nd, rfl⟩⟩; refine ⟨_, rfl, ?_⟩) | (go_at_call 44; (with_reducible refine (qnb.calls a0_1 false _ A4.out).mono ?_); rintro e w' ⟨rfl, ⟨nd, rfl⟩⟩))
   go_ret
   exact ⟨zz65, zz44⟩
 ·replace c3 := Bool.eq_false_iff.mpr c3
  subst c3
  have H1 : (some true) = some r := by rw [if_neg (show ¬ (false = true) by decide)] at H; exact H
  clear H
  have H := H1
  clear H1
  obtain rfl := Option.some.inj H
  go_enter Tryd.func46, Tryd.ntmps46
  go_wp2_with (first | ((with_reducible refine qeb (N := 1) rfl ?_); refine qib ?hg (N := 1) ?hd (cs := #[.string a0_0, .string a0_1, .bool a0_2]) (t := 33) ?hr ?_; (case hd => rfl); (case hg => rfl); (case hr => exact zz5); intro gb122 hg w13 hbox hb; have n0_ := qa.mk (qm zz24 hb); have n1_ := qa.mk (hbox); have n2_ := qa.mk ((by rw [hg]; exact (ql zz24) : w.heap.size ≤ gb122)); have n3_ := qa.mk ((by rw [hg]; exact (ql zz24) : w.heap.size ≤ gb122)); clear HB; have HB := n0_; have BK122 := n1_; have GW122 := n2_; have GE122 := n3_; clear n0_ n1_ n2_ n3_; clear hb hbox hg; have hcz14_0 : w13.cell? ⟨gb122, 0, none⟩ = some (.string a0_0) := (qg BK122.out 0).trans rfl; have hcz14_1 : w13.cell? ⟨gb122, 1, none⟩ = some (.string a0_1) := (qg BK122.out 1).trans rfl; have hcz14_2 : w13.cell? ⟨gb122, 2, none⟩ = some (.bool a0_2) := (qg BK122.out 2).trans rfl; have hfz14_0 := qf BK122.out 0; have hfz14_1 := qf BK122.out 1; have hfz14_2 := qf BK122.out 2) | ((with_reducible refine qv (f := 47) rfl ?_); refine qob (some 5) rfl rfl Tryd.func47 (by kernel_rfl) rfl #[.string a0_0] rfl zz56 ?_; (with_reducible refine (qac.calls k a0_0 false _ A2.out).mono ?_); rintro e w' ⟨rfl, ⟨nd, rfl⟩⟩; refine ⟨_, rfl, ?_⟩))
  go_ret
  exact ⟨zz65, zz44⟩
def qlb.idx : List S33 → Int → Option Int
 | [], _ => some (-1)
 | c :: r, i => (query_Part_right_1.f 64 c.f0 c.f1 c.f2).bind fun t => if t = true then some i else qlb.idx r (i + 1)
theorem qlb.drop (l : List S33) (j : Nat) (h : j < l.length) : l.drop j = rd_T33 l (j : Int) :: l.drop (j + 1) := by
 rw [List.drop_eq_getElem_cons h]
 unfold rd_T33
 rw [Int.toNat_natCast, List.getD_eq_getElem?_getD, List.getElem?_eq_getElem h]
 rfl
set_option maxHeartbeats 4000000 in
set_option maxRecDepth 100000 in
theorem qlb.index (A0 : Option Addr) (c0 : Nat) (l0 : List S33) (r : Int) (w : World) (hr0 : Kd.C k33 w A0 l0.length l0) (h : qlb.idx l0 0 = some r) :
  Calls Tryd.prog 62 #[.slice A0 l0.length c0, .func (.func 46) #[] #[]] w fun e w' => e = .returned (.int .i64 r) ∧ Below w.heap.size w w' := by
 have hm := hr0.2.1
 have HR0 := qa.mk hr0
 have HH := qa.mk h
 have HB := qa.mk (Below.refl w.heap.size w)
 clear hr0 h
 have hu := Tryd.underlying33
 go_enter Tryd.func62, Tryd.ntmps62
 go_wp2
 go_loopg [8] (l0.length + 1) (fun kq v8 w' => ∃ (j : Nat), v8 = .int .i64 (j : Int) ∧ qa (j ≤ l0.length ∧ kq = l0.length + 1 - j ∧ qlb.idx (l0.drop j) (j : Int) = some r) ∧ qa (Below w.heap.size w w'))
 case atStart => exact ⟨0, rfl, ⟨Nat.zero_le _, rfl, HH.out⟩, HB⟩
 case round =>
  clear HB
  obtain ⟨j, rfl, HJ, HB⟩ := hrel
  obtain ⟨hj, hk, HI⟩ := HJ.out
  clear HJ HH
  subst hk
  by_cases hlt : j < l0.length
  ·rw [qlb.drop l0 j hlt] at HI
   simp only [qlb.idx] at HI
   obtain ⟨t, ht1, HI⟩ := Option.bind_eq_some_iff.1 HI
   have H1 := qa.mk ht1
   have H2 := qa.mk HI
   clear ht1 HI
   obtain ⟨ad, e, hx0, hx1, hx2⟩ := at_T33 HR0.out (j : Int) (by omega) (by omega)
   cases e
   replace hx0 := (HB.out.cell (qic w _ hx0)).trans hx0
   replace hx1 := (HB.out.cell (qic w _ hx1)).trans hx1
   replace hx2 := (HB.out.cell (qic w _ hx2)).trans hx2
   rw [Int.toNat_natCast] at hx0 hx1 hx2
   cases t
   all_goals go_wp2_with (go_at_call 46; refine (query_Part_right_1.calls 64 _ _ _ _ _ H1.out).mono ?_; rintro e w2 ⟨rfl, hb⟩; have HB2 := qa.mk (qm HB.out hb); clear hb)
   ·go_roundg (l0.length + 1 - (j + 1))
    case measure => omega
    case rel => exact ⟨j + 1, by go_num, ⟨by omega, rfl, by simpa using H2.out⟩, HB2⟩
   ·obtain rfl := Option.some.inj H2.out
    go_ret
    exact ⟨rfl, HB2.out⟩
  ·have HI2 := qa.mk HI
   clear HI
   go_wp2
   go_ret
   refine ⟨?_, HB.out⟩
   have h := HI2.out
   rw [List.drop_eq_nil_of_le (by omega)] at h
   obtain rfl := Option.some.inj h
   rfl
set_option maxHeartbeats 4000000 in
set_option maxRecDepth 100000 in
theorem qlb.contains (A0 : Option Addr) (c0 : Nat) (l0 : List S33) (r : Int) (w : World) (hr0 : Kd.C k33 w A0 l0.length l0) (h : qlb.idx l0 0 = some r) :
  Calls Tryd.prog 45 #[.slice A0 l0.length c0, .func (.func 46) #[] #[]] w fun e w' => e = .returned (.bool (decide (0 ≤ r))) ∧ Below w.heap.size w w' := by
 have HR0 := qa.mk hr0
 have HH := qa.mk h
 clear hr0 h
 go_enter Tryd.func45, Tryd.ntmps45
 go_wp2_with (go_at_call 62; refine (qlb.index _ _ _ _ _ HR0.out HH.out).mono ?_; rintro e w2 ⟨rfl, hb⟩; have HB2 := qa.mk hb; clear hb)
 go_ret
 exact ⟨rfl, HB2.out⟩
def qlb.f (a0_0 : Bool) (a0_1 : Bool) (a0_2 : ByteArray) (a0_3 : ByteArray) (l0_4 : List S33) : Option Bool :=
 (qfc.f 64 a0_2).bind fun tg => (qlb.idx l0_4 0).bind fun j => some ((a0_2.toList == [] || tg) && !(a0_1 == (a0_3.toList == [])) && decide ((a0_3.size : Int) ≤ 65536) && !decide (8 < (l0_4.length : Int)) && !decide (0 ≤ j))
set_option maxHeartbeats 8000000 in
set_option maxRecDepth 100000 in
theorem qlb.calls (a0_0 : Bool) (a0_1 : Bool) (a0_2 : ByteArray) (a0_3 : ByteArray) (A0_4 : Option Addr) (c0_4 : Nat) (l0_4 : List S33) (r : Bool) (w : World) (hr0_4 : Kd.C k33 w A0_4 l0_4.length l0_4) (hc0_4 : l0_4.length ≤ c0_4) (h : qlb.f a0_0 a0_1 a0_2 a0_3 l0_4 = some r) :
  Calls Tryd.prog 32 #[.agg #[.bool a0_0, .bool a0_1, .string a0_2, .string a0_3, .slice A0_4 l0_4.length c0_4]] w fun e w' => e = .returned (.bool r) ∧ Below w.heap.size w w' := by
 obtain ⟨tg, ht, h1⟩ := Option.bind_eq_some_iff.1 h
 obtain ⟨j, hj, h2⟩ := Option.bind_eq_some_iff.1 h1
 have HT := qa.mk ht
 have HJ := qa.mk hj
 obtain rfl := Option.some.inj h2
 clear h h1 h2 ht hj hc0_4
 have HX : ∀ W, Below w.heap.size w W → qa (Kd.C k33 W A0_4 l0_4.length l0_4) := fun W hb => ⟨Kd.C_below hr0_4 hb⟩
 clear hr0_4
 have fit : ∀ b, decide ((a0_3.size : Int) ≤ 65536) = b → qa (qnb.f a0_3 = some b) := fun b hb => ⟨by rw [← hb]; rfl⟩
 have hu := Tryd.underlying41
 have ce : ∀ s : ByteArray, ∃ b, (s.toList == ([] : List UInt8)) = b ∧ (s.toList != ([] : List UInt8)) = !b := fun s => ⟨_, rfl, rfl⟩
 obtain ⟨b1, c1, c1'⟩ := ce a0_2
 obtain ⟨b2, c2, c2'⟩ := ce a0_3
 clear ce
 rw [c1, c2]
 by_cases c0 : b1 = false ∧ tg = false
 ·obtain ⟨rfl, rfl⟩ := c0
  simp only [Bool.not_false] at c1'
  clear HJ HX fit c2 c2'
  go_enter Tryd.func32, Tryd.ntmps32; go_wp2_with (first | (go_at_call 43; refine (qfc.calls 64 _ _ _ HT.out).mono ?_; rintro e w2 ⟨rfl, ⟨nd, rfl⟩⟩) | (go_at_call 44; refine (qnb.calls _ _ _ HF.out).mono ?_; rintro e w2 ⟨rfl, ⟨nd, rfl⟩⟩) | (go_at_call 45; refine (qlb.contains _ _ _ _ _ ?hx HJ.out).mono ?_; (case hx => exact zz16); rintro e w2 ⟨rfl, hb⟩; have HB := qa.mk (qm (w := w) zz15 hb); clear hb)); go_ret; refine ⟨by simp [*], ?_⟩; repeat (first | exact HB.out | exact Below.refl _ _ | apply qb | apply qd | apply qc)
 have c0' : (b1 || tg) = true := by cases b1 <;> cases tg <;> simp_all
 rw [c0']
 have hcase : ∀ P : Prop, (b1 = true → P) → (b1 = false → tg = true → P) → P := fun P h1 h2 => by cases b1 <;> cases tg <;> simp_all
 clear c0 c0'
 by_cases hbad : a0_1 = b2
 ·subst hbad
  clear HJ HX fit
  refine hcase _ ?_ ?_
  ·rintro rfl
   clear hcase
   cases a0_1
   all_goals (simp only [Bool.not_true, Bool.not_false] at c1' c2'; go_enter Tryd.func32, Tryd.ntmps32; go_wp2_with (first | (go_at_call 43; refine (qfc.calls 64 _ _ _ HT.out).mono ?_; rintro e w2 ⟨rfl, ⟨nd, rfl⟩⟩) | (go_at_call 44; refine (qnb.calls _ _ _ HF.out).mono ?_; rintro e w2 ⟨rfl, ⟨nd, rfl⟩⟩) | (go_at_call 45; refine (qlb.contains _ _ _ _ _ ?hx HJ.out).mono ?_; (case hx => exact zz16); rintro e w2 ⟨rfl, hb⟩; have HB := qa.mk (qm (w := w) zz15 hb); clear hb)); go_ret; refine ⟨by simp [*], ?_⟩; repeat (first | exact HB.out | exact Below.refl _ _ | apply qb | apply qd | apply qc))
  ·rintro rfl rfl
   clear hcase
   cases a0_1
   all_goals (simp only [Bool.not_true, Bool.not_false] at c1' c2'; go_enter Tryd.func32, Tryd.ntmps32; go_wp2_with (first | (go_at_call 43; refine (qfc.calls 64 _ _ _ HT.out).mono ?_; rintro e w2 ⟨rfl, ⟨nd, rfl⟩⟩) | (go_at_call 44; refine (qnb.calls _ _ _ HF.out).mono ?_; rintro e w2 ⟨rfl, ⟨nd, rfl⟩⟩) | (go_at_call 45; refine (qlb.contains _ _ _ _ _ ?hx HJ.out).mono ?_; (case hx => exact zz16); rintro e w2 ⟨rfl, hb⟩; have HB := qa.mk (qm (w := w) zz15 hb); clear hb)); go_ret; refine ⟨by simp [*], ?_⟩; repeat (first | exact HB.out | exact Below.refl _ _ | apply qb | apply qd | apply qc))
 obtain rfl : b2 = !a0_1 := by cases a0_1 <;> cases b2 <;> simp_all
 clear hbad
 obtain ⟨b3, c3⟩ : ∃ b, decide ((a0_3.size : Int) ≤ 65536) = b := ⟨_, rfl⟩
 obtain ⟨b4, c4⟩ : ∃ b, decide (8 < (l0_4.length : Int)) = b := ⟨_, rfl⟩
 have HF := fit _ c3
 clear fit
 rw [c3, c4]
 cases b3
 ·clear HJ HX c4
  refine hcase _ ?_ ?_
  ·rintro rfl
   clear hcase
   cases a0_1
   all_goals (simp only [Bool.not_true, Bool.not_false] at c1' c2'; go_enter Tryd.func32, Tryd.ntmps32; go_wp2_with (first | (go_at_call 43; refine (qfc.calls 64 _ _ _ HT.out).mono ?_; rintro e w2 ⟨rfl, ⟨nd, rfl⟩⟩) | (go_at_call 44; refine (qnb.calls _ _ _ HF.out).mono ?_; rintro e w2 ⟨rfl, ⟨nd, rfl⟩⟩) | (go_at_call 45; refine (qlb.contains _ _ _ _ _ ?hx HJ.out).mono ?_; (case hx => exact zz16); rintro e w2 ⟨rfl, hb⟩; have HB := qa.mk (qm (w := w) zz15 hb); clear hb)); go_ret; refine ⟨by simp [*], ?_⟩; repeat (first | exact HB.out | exact Below.refl _ _ | apply qb | apply qd | apply qc))
  ·rintro rfl rfl
   clear hcase
   cases a0_1
   all_goals (simp only [Bool.not_true, Bool.not_false] at c1' c2'; go_enter Tryd.func32, Tryd.ntmps32; go_wp2_with (first | (go_at_call 43; refine (qfc.calls 64 _ _ _ HT.out).mono ?_; rintro e w2 ⟨rfl, ⟨nd, rfl⟩⟩) | (go_at_call 44; refine (qnb.calls _ _ _ HF.out).mono ?_; rintro e w2 ⟨rfl, ⟨nd, rfl⟩⟩) | (go_at_call 45; refine (qlb.contains _ _ _ _ _ ?hx HJ.out).mono ?_; (case hx => exact zz16); rintro e w2 ⟨rfl, hb⟩; have HB := qa.mk (qm (w := w) zz15 hb); clear hb)); go_ret; refine ⟨by simp [*], ?_⟩; repeat (first | exact HB.out | exact Below.refl _ _ | apply qb | apply qd | apply qc))
 cases b4
 all_goals
  refine hcase _ ?_ ?_
  ·rintro rfl
   clear hcase
   cases a0_1
   all_goals (simp only [Bool.not_true, Bool.not_false] at c1' c2'; go_enter Tryd.func32, Tryd.ntmps32; go_wp2_with (first | (go_at_call 43; refine (qfc.calls 64 _ _ _ HT.out).mono ?_; rintro e w2 ⟨rfl, ⟨nd, rfl⟩⟩) | (go_at_call 44; refine (qnb.calls _ _ _ HF.out).mono ?_; rintro e w2 ⟨rfl, ⟨nd, rfl⟩⟩) | (go_at_call 45; refine (qlb.contains _ _ _ _ _ ?hx HJ.out).mono ?_; (case hx => exact zz16); rintro e w2 ⟨rfl, hb⟩; have HB := qa.mk (qm (w := w) zz15 hb); clear hb)); go_ret; refine ⟨by simp [*], ?_⟩; repeat (first | exact HB.out | exact Below.refl _ _ | apply qb | apply qd | apply qc))
  ·rintro rfl rfl
   clear hcase
   cases a0_1
   all_goals (simp only [Bool.not_true, Bool.not_false] at c1' c2'; go_enter Tryd.func32, Tryd.ntmps32; go_wp2_with (first | (go_at_call 43; refine (qfc.calls 64 _ _ _ HT.out).mono ?_; rintro e w2 ⟨rfl, ⟨nd, rfl⟩⟩) | (go_at_call 44; refine (qnb.calls _ _ _ HF.out).mono ?_; rintro e w2 ⟨rfl, ⟨nd, rfl⟩⟩) | (go_at_call 45; refine (qlb.contains _ _ _ _ _ ?hx HJ.out).mono ?_; (case hx => exact zz16); rintro e w2 ⟨rfl, hb⟩; have HB := qa.mk (qm (w := w) zz15 hb); clear hb)); go_ret; refine ⟨by simp [*], ?_⟩; repeat (first | exact HB.out | exact Below.refl _ _ | apply qb | apply qd | apply qc))
mutual
def qp.j0 : Nat → List (S41) → Bool → Option (Int)
 | 0, _, _ => none
 | k + 1, x0, x18 => if x18 = true then (some 2) else (qp.l0 k x0 (x0.length : Int) 0)
def qp.l0 : Nat → List (S41) → Int → Int → Option (Int)
 | 0, _, _, _ => none
 | k + 1, x19, x20, x21 => if x21 < x20 then (if 0 ≤ x21 then (if x21 < (x19.length : Int) then ((qlb.f ((qab x19 x21).f0) ((qab x19 x21).f1) ((qab x19 x21).f2) ((qab x19 x21).f3) ((qab x19 x21).f4)).bind fun t128 => (if t128 = true then (qp.l0 k x19 x20 (wrap64 (x21 + 1))) else (some 2))) else (none)) else (none)) else (some 0)
end
def qp.f (k : Nat) (l0 : List (S41)) : Option (Int) := if (l0.length : Int) = 0 then (qp.j0 k l0 true) else (if (l0.length : Int) > 8 then (qp.j0 k l0 true) else (if 0 < (l0.length : Int) then (qp.j0 k l0 ((qab l0 0).f0)) else (none)))
theorem qp.mono_l : ∀ k, (∀ y0 y1, LeO (qp.j0 k y0 y1) (qp.j0 (k + 1) y0 y1)) ∧ (∀ y0 y1 y2, LeO (qp.l0 k y0 y1 y2) (qp.l0 (k + 1) y0 y1 y2))
 | 0 => ⟨fun _ _ r h => by simp [qp.j0] at h, fun _ _ _ r h => by simp [qp.l0] at h⟩
 | k + 1 => by
  obtain ⟨ih0, ih1⟩ := qp.mono_l k
  refine ⟨?_, ?_⟩
  ·intro y0 y1
   unfold qp.j0
   repeat' first
   | (with_reducible exact ih0 _ _)
   | (with_reducible exact ih1 _ _ _)
   | (with_reducible exact LeO.refl _)
   | (with_reducible exact LeO.none _)
   | (with_reducible refine LeO.ite ?_ ?_)
   | (with_reducible refine LeO.bind ?_ (fun _ => ?_))
   | exact ih0 _ _
   | exact ih1 _ _ _
   | exact LeO.none _
   | refine LeO.ite ?_ ?_
   | refine LeO.bind ?_ (fun _ => ?_)
  ·intro y0 y1 y2
   unfold qp.l0
   repeat' first
   | (with_reducible exact ih0 _ _)
   | (with_reducible exact ih1 _ _ _)
   | (with_reducible exact LeO.refl _)
   | (with_reducible exact LeO.none _)
   | (with_reducible refine LeO.ite ?_ ?_)
   | (with_reducible refine LeO.bind ?_ (fun _ => ?_))
   | exact ih0 _ _
   | exact ih1 _ _ _
   | exact LeO.none _
   | refine LeO.ite ?_ ?_
   | refine LeO.bind ?_ (fun _ => ?_)
theorem qp.mono : ∀ a0 k, LeO (qp.f k a0) (qp.f (k + 1) a0) := by
 intro a0 k
 obtain ⟨ih0, ih1⟩ := qp.mono_l k
 unfold qp.f
 repeat' first
   | (with_reducible exact ih0 _ _)
   | (with_reducible exact ih1 _ _ _)
   | (with_reducible exact LeO.refl _)
   | (with_reducible exact LeO.none _)
   | (with_reducible refine LeO.ite ?_ ?_)
   | (with_reducible refine LeO.bind ?_ (fun _ => ?_))
   | exact ih0 _ _
   | exact ih1 _ _ _
   | exact LeO.none _
   | refine LeO.ite ?_ ?_
   | refine LeO.bind ?_ (fun _ => ?_)
set_option maxHeartbeats 8000000 in
set_option maxRecDepth 100000 in
theorem qp.calls (k : Nat) (A0 : Option Addr) (c0 : Nat) (l0 : List (S41)) (r : Int) (w : World) (hr0 : Kd.C k41 w A0 l0.length l0) (hc0 : l0.length ≤ c0) (h : qp.f k l0 = some r) :
  Calls Tryd.prog 19 #[.slice A0 l0.length c0] w fun e w' => e = .returned (.int .i64 r) ∧ Below w.heap.size w w' := by
 have hu41 := Tryd.underlying41
 have HR0 := qa.mk hr0
 have HC0 := qa.mk hc0
 clear hr0 hc0
 have HB := qa.mk (Below.refl w.heap.size w)
 have H : (if (l0.length : Int) = 0 then (qp.j0 k l0 true) else (if (l0.length : Int) > 8 then (qp.j0 k l0 true) else (if 0 < (l0.length : Int) then (qp.j0 k l0 ((qab l0 0).f0)) else (none)))) = some r := h
 clear h
 have HC2 := qa.mk H
 clear H
 go_enter Tryd.func19, Tryd.ntmps19
 go_upto_region 1 with (fail)
 go_cut [18] (fun v18 wc => ∃ (kq : Nat) (x18_1 : Bool), v18 = .bool x18_1 ∧ qa (qp.j0 kq l0 x18_1 = some r) ∧ qa (kq ≤ k) ∧ qa (Below w.heap.size w wc))
 case first =>
  have H := HC2.out
  clear HC2
  by_cases c3 : (l0.length : Int) = 0
  ·rw [if_pos c3] at H
   have c3b0 : ((l0.length : Int) == 0) = true := beq_iff_eq.mpr c3
   have c3b1 : ((l0.length : Int) != 0) = false := bne_eq_false_iff_eq.mpr c3
   clear c3
   (first | rw [c3b0] | (simp only [i64_w, i32_w]; rw [c3b0]) | rw [c3b2] | skip)
   have H' := qa.mk H
   clear H
   go_wp2
   go_meet
   case rel => exact ⟨_, (true), zz6, H', ⟨zz2⟩, ⟨zz24⟩⟩
  ·rw [if_neg c3] at H
   have c3b0 : ((l0.length : Int) == 0) = false := beq_eq_false_iff_ne.mpr c3
   have c3b1 : ((l0.length : Int) != 0) = true := bne_iff_ne.mpr c3
   have c3b2 : ¬ (l0 = []) := fun h_ => c3 (by rw [h_]; rfl)
   (first | rw [c3b0] | (simp only [i64_w, i32_w]; rw [c3b0]) | rw [c3b2] | skip)
   by_cases c4 : (l0.length : Int) > 8
   ·rw [if_pos c4] at H
    have c4b0 : decide (8 < (l0.length : Int)) = true := decide_eq_true c4
    have c4b1 : decide (8 < l0.length) = true := decide_eq_true (by omega)
    clear c4
    have H' := qa.mk H
    clear H
    go_wp2
    go_meet
    case rel => exact ⟨_, (true), zz6, H', ⟨zz2⟩, ⟨zz24⟩⟩
   ·rw [if_neg c4] at H
    have c4b0 : decide (8 < (l0.length : Int)) = false := decide_eq_false c4
    have c4b1 : decide (8 < l0.length) = false := decide_eq_false (by omega)
    clear c4
    by_cases c5 : 0 < (l0.length : Int)
    ·rw [if_pos c5] at H
     have c5b0 : decide (0 < (l0.length : Int)) = true := decide_eq_true c5
     have c5b1 : decide (0 < l0.length) = true := decide_eq_true (by omega)
     clear c5
     have H' := qa.mk H
     clear H
     have p125 : 0 ≤ (0 : Int) := (by omega)
     have q125 : 0 < (l0.length : Int) := of_decide_eq_true zz7
     obtain ⟨ad125, A125_4, c125_4, e125, hx125_0, hx125_1, hx125_2, hx125_3, hx125_4, hl125_4, hi125_4⟩ := at_T41 HR0.out 0 p125 q125
     cases e125
     have qi125 : (0 < l0.length) = True := eq_true (by omega)
     (try rw [show ((0 : Int)).toNat = 0 from rfl] at hx125_0)
     (try rw [show 0 * 5 = 0 from rfl] at hx125_0)
     (try rw [Addr.add_zero'] at hx125_0)
     (try rw [show ((0 : Int)).toNat = 0 from rfl] at hx125_1)
     (try rw [show 0 * 5 = 0 from rfl] at hx125_1)
     (try rw [Addr.add_zero'] at hx125_1)
     (try rw [show ((0 : Int)).toNat = 0 from rfl] at hx125_2)
     (try rw [show 0 * 5 = 0 from rfl] at hx125_2)
     (try rw [Addr.add_zero'] at hx125_2)
     (try rw [show ((0 : Int)).toNat = 0 from rfl] at hx125_3)
     (try rw [show 0 * 5 = 0 from rfl] at hx125_3)
     (try rw [Addr.add_zero'] at hx125_3)
     (try rw [show ((0 : Int)).toNat = 0 from rfl] at hx125_4)
     (try rw [show 0 * 5 = 0 from rfl] at hx125_4)
     (try rw [Addr.add_zero'] at hx125_4)
     replace hx125_0 := (HB.out.cell (qic w _ hx125_0)).trans hx125_0
     replace hx125_1 := (HB.out.cell (qic w _ hx125_1)).trans hx125_1
     replace hx125_2 := (HB.out.cell (qic w _ hx125_2)).trans hx125_2
     replace hx125_3 := (HB.out.cell (qic w _ hx125_3)).trans hx125_3
     replace hx125_4 := (HB.out.cell (qic w _ hx125_4)).trans hx125_4
     have HR125_4 := qa.mk hi125_4
     have HC125_4 := qa.mk hl125_4
     clear hi125_4 hl125_4
     replace p125 := eq_true p125
     replace q125 := eq_true q125
     go_wp2
     go_meet
     case rel => exact ⟨_, ((qab l0 0).f0), zz6, H', ⟨zz2⟩, ⟨zz24⟩⟩
    ·rw [if_neg c5] at H
     exact absurd H (by simp)
 case rest =>
  clear HC2
  try clear c1
  try clear p1
  try clear q1
  try clear hx1
  try clear qi1
  try clear p2
  try clear c3
  try clear c3b0
  try clear c3b1
  try clear c3b2
  try clear c4
  try clear c4b0
  try clear c4b1
  try clear c5
  try clear c5b0
  try clear c5b1
  try clear hx125_0
  try clear hx125_1
  try clear hx125_2
  try clear hx125_3
  try clear hx125_4
  try clear p125
  try clear q125
  obtain ⟨kq, x18_1, rfl, HA, HJ1, HB⟩ := hcut
  cases kq with
  | zero => exact absurd HA.out (by simp [qp.j0])
  | succ kj1 =>
   have H := HA.out
   clear HA
   simp only [qp.j0] at H
   by_cases c6 : x18_1 = true
   ·subst c6
    have H1 : (some 2) = some r := by rw [if_pos rfl] at H; exact H
    clear H
    have H := H1
    clear H1
    obtain rfl := Option.some.inj H
    go_wp2
    go_ret
    exact ⟨zz65, zz24⟩
   ·replace c6 := Bool.eq_false_iff.mpr c6
    subst c6
    have H1 : (qp.l0 kj1 l0 (l0.length : Int) 0) = some r := by rw [if_neg (show ¬ (false = true) by decide)] at H; exact H
    clear H
    have H := H1
    clear H1
    have H' := qa.mk H
    clear H
    go_wp2
    go_loopg [21] kj1 (fun kq v21 w' => ∃ (x21_2 : Int), v21 = .int .i64 x21_2 ∧ qa (qp.l0 kq l0 (l0.length : Int) x21_2 = some r) ∧ qa (kq ≤ kj1) ∧ qa (Below w.heap.size w w'))
    case atStart => exact ⟨(0), zz6, H', ⟨Nat.le_refl _⟩, ⟨zz24⟩⟩
    case round =>
     clear H'
     try clear c1
     try clear p1
     try clear q1
     try clear hx1
     try clear qi1
     try clear p2
     try clear c3
     try clear c3b0
     try clear c3b1
     try clear c3b2
     try clear c4
     try clear c4b0
     try clear c4b1
     try clear c5
     try clear c5b0
     try clear c5b1
     try clear c6
     try clear hx125_0
     try clear hx125_1
     try clear hx125_2
     try clear hx125_3
     try clear hx125_4
     try clear p1
     try clear p125
     try clear p2
     try clear q1
     try clear q125
     obtain ⟨x21_2, rfl, HA, HK2, HB⟩ := hrel
     cases gk with
     | zero => exact absurd HA.out (by simp [qp.l0])
     | succ k2 =>
      have H := HA.out
      clear HA
      simp only [qp.l0] at H
      by_cases c7 : x21_2 < (l0.length : Int)
      ·rw [if_pos c7] at H
       have c7b0 : decide (x21_2 < (l0.length : Int)) = true := decide_eq_true c7
       clear c7
       by_cases c8 : 0 ≤ x21_2
       ·rw [if_pos c8] at H
        have c8b0 : decide (0 ≤ x21_2) = true := decide_eq_true c8
        clear c8
        by_cases c9 : x21_2 < (l0.length : Int)
        ·rw [if_pos c9] at H
         have c9b0 : decide (x21_2 < (l0.length : Int)) = true := decide_eq_true c9
         clear c9
         replace H := Option.bind_eq_some_iff.mp H
         obtain ⟨t128, A100, H⟩ := H
         replace H : (if t128 = true then (qp.l0 k2 l0 (l0.length : Int) (wrap64 (x21_2 + 1))) else (some 2)) = some r := H
         have A10 := qa.mk A100
         clear A100
         by_cases c11 : t128 = true
         ·subst c11
          have H1 : (qp.l0 k2 l0 (l0.length : Int) (wrap64 (x21_2 + 1))) = some r := by rw [if_pos rfl] at H; exact H
          clear H
          have H := H1
          clear H1
          have H' := qa.mk H
          clear H
          have p126 : 0 ≤ (x21_2 : Int) := of_decide_eq_true zz7
          have q126 : x21_2 < (l0.length : Int) := of_decide_eq_true zz7
          obtain ⟨ad126, A126_4, c126_4, e126, hx126_0, hx126_1, hx126_2, hx126_3, hx126_4, hl126_4, hi126_4⟩ := at_T41 HR0.out x21_2 p126 q126
          cases e126
          replace hx126_0 := (HB.out.cell (qic w _ hx126_0)).trans hx126_0
          replace hx126_1 := (HB.out.cell (qic w _ hx126_1)).trans hx126_1
          replace hx126_2 := (HB.out.cell (qic w _ hx126_2)).trans hx126_2
          replace hx126_3 := (HB.out.cell (qic w _ hx126_3)).trans hx126_3
          replace hx126_4 := (HB.out.cell (qic w _ hx126_4)).trans hx126_4
          have HR126_4 := qa.mk hi126_4
          have HC126_4 := qa.mk hl126_4
          clear hi126_4 hl126_4
          replace p126 := eq_true p126
          replace q126 := eq_true q126
          go_wp2_with (first | ((with_reducible refine qeb (N := 4) rfl ?_); (try (refine gate_guard (by rfl) ?_; dsimp only)); refine qib ?hg (N := 4) ?hd (cs := #[.bool false, .bool false, .string (⟨#[]⟩ : ByteArray), .string (⟨#[]⟩ : ByteArray), .slice none 0 0]) (t := 41) ?hr ?_; (case hd => rfl); (case hg => rfl); (case hr => exact zz5); intro gb127 hg w12 hbox hb; have n0_ := qa.mk (qm zz24 hb); have n1_ := qa.mk (hbox); have n2_ := qa.mk ((by rw [hg]; exact (ql zz24) : w.heap.size ≤ gb127)); have n3_ := qa.mk ((by rw [hg]; exact (ql zz24) : w.heap.size ≤ gb127)); clear HB; have HB := n0_; have BK127 := n1_; have GW127 := n2_; have GE127 := n3_; clear n0_ n1_ n2_ n3_; clear hb hbox hg; have hcz13_0 : w12.cell? ⟨gb127, 0, none⟩ = some (.bool false) := (qg BK127.out 0).trans rfl; have hcz13_1 : w12.cell? ⟨gb127, 1, none⟩ = some (.bool false) := (qg BK127.out 1).trans rfl; have hcz13_2 : w12.cell? ⟨gb127, 2, none⟩ = some (.string (⟨#[]⟩ : ByteArray)) := (qg BK127.out 2).trans rfl; have hcz13_3 : w12.cell? ⟨gb127, 3, none⟩ = some (.string (⟨#[]⟩ : ByteArray)) := (qg BK127.out 3).trans rfl; have hcz13_4 : w12.cell? ⟨gb127, 4, none⟩ = some (.slice none 0 0) := (qg BK127.out 4).trans rfl; have hfz13_0 := qf BK127.out 0; have hfz13_1 := qf BK127.out 1; have hfz13_2 := qf BK127.out 2; have hfz13_3 := qf BK127.out 3; have hfz13_4 := qf BK127.out 4) | ((with_reducible refine qv (f := 32) rfl ?_); refine qob (some 26) rfl rfl Tryd.func32 (by kernel_rfl) rfl #[.agg #[.bool ((qab l0 x21_2).f0), .bool ((qab l0 x21_2).f1), .string ((qab l0 x21_2).f2), .string ((qab l0 x21_2).f3), .slice A126_4 ((qab l0 x21_2).f4).length c126_4]] rfl zz56 ?_; (with_reducible refine (qlb.calls ((qab l0 x21_2).f0) ((qab l0 x21_2).f1) ((qab l0 x21_2).f2) ((qab l0 x21_2).f3) _ _ ((qab l0 x21_2).f4) true _ ?side1 ?side2 A10.out).mono ?_); (case side1 => exact Kd.C_below HR126_4.out zz45); (case side2 => exact HC126_4.out); rintro e w14 ⟨rfl, hb⟩; refine ⟨_, rfl, ?_⟩; have n0_ := qa.mk (qjb (g := gb127) (o := .cells #[.bool ((qab l0 x21_2).f0), .bool ((qab l0 x21_2).f1), .string ((qab l0 x21_2).f2), .string ((qab l0 x21_2).f3), .slice A126_4 ((qab l0 x21_2).f4).length c126_4] 41 (0, 0)) zz124 hb); have n1_ := qa.mk (qm zz45 hb); clear BK127; clear HB; have BK127 := n0_; have HB := n1_; clear n0_ n1_; (try clear hb); (try clear hb2); (try clear hk); (try clear hi)))
          go_roundg k2
          case measure => have := HJ1.out; have := HK2.out; omega
          case rel => exact ⟨(wrap64 (x21_2 + 1)), zz6, H', ⟨by have := HJ1.out; have := HK2.out; omega⟩, ⟨zz45⟩⟩
         ·replace c11 := Bool.eq_false_iff.mpr c11
          subst c11
          have H1 : (some 2) = some r := by rw [if_neg (show ¬ (false = true) by decide)] at H; exact H
          clear H
          have H := H1
          clear H1
          obtain rfl := Option.some.inj H
          have p126 : 0 ≤ (x21_2 : Int) := of_decide_eq_true zz7
          have q126 : x21_2 < (l0.length : Int) := of_decide_eq_true zz7
          obtain ⟨ad126, A126_4, c126_4, e126, hx126_0, hx126_1, hx126_2, hx126_3, hx126_4, hl126_4, hi126_4⟩ := at_T41 HR0.out x21_2 p126 q126
          cases e126
          replace hx126_0 := (HB.out.cell (qic w _ hx126_0)).trans hx126_0
          replace hx126_1 := (HB.out.cell (qic w _ hx126_1)).trans hx126_1
          replace hx126_2 := (HB.out.cell (qic w _ hx126_2)).trans hx126_2
          replace hx126_3 := (HB.out.cell (qic w _ hx126_3)).trans hx126_3
          replace hx126_4 := (HB.out.cell (qic w _ hx126_4)).trans hx126_4
          have HR126_4 := qa.mk hi126_4
          have HC126_4 := qa.mk hl126_4
          clear hi126_4 hl126_4
          replace p126 := eq_true p126
          replace q126 := eq_true q126
          go_wp2_with (first | ((with_reducible refine qeb (N := 4) rfl ?_); (try (refine gate_guard (by rfl) ?_; dsimp only)); refine qib ?hg (N := 4) ?hd (cs := #[.bool false, .bool false, .string (⟨#[]⟩ : ByteArray), .string (⟨#[]⟩ : ByteArray), .slice none 0 0]) (t := 41) ?hr ?_; (case hd => rfl); (case hg => rfl); (case hr => exact zz5); intro gb127 hg w15 hbox hb; have n0_ := qa.mk (qm zz24 hb); have n1_ := qa.mk (hbox); have n2_ := qa.mk ((by rw [hg]; exact (ql zz24) : w.heap.size ≤ gb127)); have n3_ := qa.mk ((by rw [hg]; exact (ql zz24) : w.heap.size ≤ gb127)); clear HB; have HB := n0_; have BK127 := n1_; have GW127 := n2_; have GE127 := n3_; clear n0_ n1_ n2_ n3_; clear hb hbox hg; have hcz16_0 : w15.cell? ⟨gb127, 0, none⟩ = some (.bool false) := (qg BK127.out 0).trans rfl; have hcz16_1 : w15.cell? ⟨gb127, 1, none⟩ = some (.bool false) := (qg BK127.out 1).trans rfl; have hcz16_2 : w15.cell? ⟨gb127, 2, none⟩ = some (.string (⟨#[]⟩ : ByteArray)) := (qg BK127.out 2).trans rfl; have hcz16_3 : w15.cell? ⟨gb127, 3, none⟩ = some (.string (⟨#[]⟩ : ByteArray)) := (qg BK127.out 3).trans rfl; have hcz16_4 : w15.cell? ⟨gb127, 4, none⟩ = some (.slice none 0 0) := (qg BK127.out 4).trans rfl; have hfz16_0 := qf BK127.out 0; have hfz16_1 := qf BK127.out 1; have hfz16_2 := qf BK127.out 2; have hfz16_3 := qf BK127.out 3; have hfz16_4 := qf BK127.out 4) | ((with_reducible refine qv (f := 32) rfl ?_); refine qob (some 26) rfl rfl Tryd.func32 (by kernel_rfl) rfl #[.agg #[.bool ((qab l0 x21_2).f0), .bool ((qab l0 x21_2).f1), .string ((qab l0 x21_2).f2), .string ((qab l0 x21_2).f3), .slice A126_4 ((qab l0 x21_2).f4).length c126_4]] rfl zz56 ?_; (with_reducible refine (qlb.calls ((qab l0 x21_2).f0) ((qab l0 x21_2).f1) ((qab l0 x21_2).f2) ((qab l0 x21_2).f3) _ _ ((qab l0 x21_2).f4) false _ ?side1 ?side2 A10.out).mono ?_); (case side1 => exact Kd.C_below HR126_4.out zz45); (case side2 => exact HC126_4.out); rintro e w17 ⟨rfl, hb⟩; refine ⟨_, rfl, ?_⟩; have n0_ := qa.mk (qjb (g := gb127) (o := .cells #[.bool ((qab l0 x21_2).f0), .bool ((qab l0 x21_2).f1), .string ((qab l0 x21_2).f2), .string ((qab l0 x21_2).f3), .slice A126_4 ((qab l0 x21_2).f4).length c126_4] 41 (0, 0)) zz124 hb); have n1_ := qa.mk (qm zz45 hb); clear BK127; clear HB; have BK127 := n0_; have HB := n1_; clear n0_ n1_; (try clear hb); (try clear hb2); (try clear hk); (try clear hi)))
          go_ret
          exact ⟨zz65, zz45⟩
        ·rw [if_neg c9] at H
         exact absurd H (by simp)
       ·rw [if_neg c8] at H
        exact absurd H (by simp)
      ·rw [if_neg c7] at H
       have c7b0 : decide (x21_2 < (l0.length : Int)) = false := decide_eq_false c7
       clear c7
       obtain rfl := Option.some.inj H
       go_wp2
       go_ret
       exact ⟨zz65, zz24⟩
end Go.Proofs.YtjbobecnlpiejaaDoor.Q
namespace Go.Proofs.YtjbobecnlpiejaaDoor.Q.P
open Go.Proofs.YtjbobecnlpiejaaDoorZ
open Go.RowKit Go.Proofs.YtjbobecnlpiejaaDoorW.PrintWords Go.Proofs.YtjbobecnlpiejaaDoorW.PrintLast Go.Proofs.YtjbobecnlpiejaaDoorW.PrintMore
theorem rdP (l : List S41) (i : Nat) (h : i < l.length) : qab l (i : Int) = l[i] := by
 unfold qab
 rw [Int.toNat_natCast, List.getD_eq_getElem?_getD, List.getElem?_eq_getElem h]
 rfl
theorem rdC (l : List S33) (i : Nat) (h : i < l.length) : rd_T33 l (i : Int) = l[i] := by
 unfold rd_T33
 rw [Int.toNat_natCast, List.getD_eq_getElem?_getD, List.getElem?_eq_getElem h]
 rfl
def PB (p : S41) : Prop := p.f2.size ≤ 140737488351232 ∧ p.f3.size ≤ 140737488351232 ∧ p.f4.length * 40 ≤ 140737488351232 ∧ ∀ c ∈ p.f4, c.f0.size ≤ 140737488351232 ∧ c.f1.size ≤ 140737488351232
def psum : List S41 → Nat
 | [] => 0
 | p :: r => 1 + p.f4.length + psum r
theorem few_l1 (l : List S41) (hl : l.length * 64 ≤ 140737488351232) (n : Int) (i : Nat) (hi : i < l.length) (hp : PB l[i]) (b : Bool) (hb : Ev (fun k => qw.l0 k l n (l.length : Int) ((i + 1 : Nat) : Int)) b) (d : Nat) :
  ∀ j : Nat, j + d = l[i].f4.length → ∃ b', Ev (fun k => qw.l1 k l n (i : Int) (l.length : Int) (i : Int) (l[i].f4.length : Int) (j : Int)) b' ∧ (b' = true → b = true) := by
 have hw : wrap64 ((i : Int) + 1) = ((i + 1 : Nat) : Int) := by rw [w64 (by omega) (by omega)]; omega
 obtain ⟨_, _, hcl, hc⟩ := hp
 induction d with
 | zero =>
  intro j hj
  refine ⟨b, Ev.step (fun k => ?_) hb, id⟩
  rw [qw.l1, if_neg (by omega), hw]
 | succ d ih =>
  intro j hj
  have hjl : j < l[i].f4.length := by omega
  have hw2 : wrap64 ((j : Int) + 1) = ((j + 1 : Nat) : Int) := by rw [w64 (by omega) (by omega)]; omega
  obtain ⟨h1, h2⟩ := hc l[i].f4[j] (List.getElem_mem _)
  obtain ⟨b', hb', hbb⟩ := ih (j + 1) (by omega)
  by_cases hs : (wrap64 ((l[i].f4[j].f0.size : Int) + (l[i].f4[j].f1.size : Int))) > 200000
  ·refine ⟨false, Ev.step (fun k => ?_) (Ev.now false), fun h => by cases h⟩
   rw [qw.l1, if_pos (by omega), if_pos (by omega), if_pos (by omega), rdP l i hi, if_pos (by omega), if_pos (by omega), rdC _ j hjl, if_pos hs]
  ·refine ⟨b', Ev.step (fun k => ?_) hb', hbb⟩
   rw [qw.l1, if_pos (by omega), if_pos (by omega), if_pos (by omega), rdP l i hi, if_pos (by omega), if_pos (by omega), rdC _ j hjl, if_neg hs, hw2]
theorem few_l0 (l : List S41) (hl : l.length * 64 ≤ 140737488351232) (hB : ∀ p ∈ l, PB p) (d : Nat) :
  ∀ (i n : Nat), i + d = l.length → n ≤ 200 → ∃ b, Ev (fun k => qw.l0 k l (n : Int) (l.length : Int) (i : Int)) b ∧ (b = true → n + psum (l.drop i) ≤ 200) := by
 induction d with
 | zero =>
  intro i n hi hn
  refine ⟨true, Ev.step (fun k => ?_) (Ev.now true), fun _ => ?_⟩
  ·rw [qw.l0, if_neg (by omega)]
  ·rw [List.drop_eq_nil_of_le (by omega)]
   simpa [psum] using hn
 | succ d ih =>
  intro i n hi hn
  have hil : i < l.length := by omega
  have hp := hB l[i] (List.getElem_mem _)
  obtain ⟨h2, h3, h4, _⟩ := id hp
  have e1 : wrap64 ((n : Int) + 1) = ((n + 1 : Nat) : Int) := by rw [w64 (by omega) (by omega)]; omega
  have e2 : wrap64 (((n + 1 : Nat) : Int) + (l[i].f4.length : Int)) = ((n + 1 + l[i].f4.length : Nat) : Int) := by rw [w64 (by omega) (by omega)]; omega
  by_cases hs : n + 1 + l[i].f4.length > 200
  ·refine ⟨false, Ev.step (fun k => ?_) (Ev.step (f := fun _ => some false) (g := fun k => qw.j1 k l ((n + 1 + l[i].f4.length : Nat) : Int) (i : Int) (l.length : Int) (i : Int) true) (fun k => ?_) (Ev.now false)), fun h => by cases h⟩
   ·rw [qw.l0, if_pos (by omega), if_pos (by omega), if_pos (by omega), rdP l i hil, e1, e2, if_pos (by omega)]
   ·simp only [qw.j1, if_true]
  ·obtain ⟨b, hb, hbt⟩ := ih (i + 1) (n + 1 + l[i].f4.length) (by omega) (by omega)
   obtain ⟨b', hb', hbb⟩ := few_l1 l hl ((n + 1 + l[i].f4.length : Nat) : Int) i hil hp b hb l[i].f4.length 0 (by omega)
   by_cases hk : wrap64 ((l[i].f2.size : Int) + (l[i].f3.size : Int)) > 200000
   ·refine ⟨false, Ev.step (fun k => ?_) (Ev.step (f := fun _ => some false) (g := fun k => qw.j1 k l ((n + 1 + l[i].f4.length : Nat) : Int) (i : Int) (l.length : Int) (i : Int) true) (fun k => ?_) (Ev.now false)), fun h => by cases h⟩
    ·rw [qw.l0, if_pos (by omega), if_pos (by omega), if_pos (by omega), rdP l i hil, e1, e2, if_neg (by omega), decide_eq_true hk]
    ·simp only [qw.j1, if_true]
   ·refine ⟨b', Ev.step (fun k => ?_) (Ev.step (f := fun k => qw.l1 k l ((n + 1 + l[i].f4.length : Nat) : Int) (i : Int) (l.length : Int) (i : Int) (l[i].f4.length : Int) ((0 : Nat) : Int)) (g := fun k => qw.j1 k l ((n + 1 + l[i].f4.length : Nat) : Int) (i : Int) (l.length : Int) (i : Int) false) (fun k => ?_) hb'), fun h => ?_⟩
    ·rw [qw.l0, if_pos (by omega), if_pos (by omega), if_pos (by omega), rdP l i hil, e1, e2, if_neg (by omega), decide_eq_false hk]
    ·simp only [qw.j1, Bool.false_eq_true, if_false]
     rw [if_pos (by omega), if_pos (by omega), rdP l i hil]
     rfl
    ·have := hbt (hbb h)
     rw [List.drop_eq_getElem_cons hil]
     simp only [psum]
     omega
theorem few_spec (l : List S41) (hl : l.length * 64 ≤ 140737488351232) (hB : ∀ p ∈ l, PB p) : ∃ b, Ev (fun k => qw.f k l) b ∧ (b = true → psum l ≤ 200) := by
 obtain ⟨b, hb, h⟩ := few_l0 l hl hB l.length 0 0 (by omega) (by omega)
 refine ⟨b, hb, fun hh => ?_⟩
 have := h hh
 rw [List.drop_zero] at this
 omega
theorem psum_len : ∀ (l : List S41), l.length ≤ psum l
 | [] => Nat.le_refl _
 | p :: r => by have := psum_len r; simp only [List.length_cons, psum]; omega
theorem psum_conds : ∀ (l : List S41) (p : S41), p ∈ l → p.f4.length ≤ psum l
 | q :: r, p, h => by
  simp only [psum]
  rcases List.mem_cons.1 h with rfl | h
  ·omega
  ·have := psum_conds r p h; omega
def condOK (c : S33) : Bool := nm nameO c.f0.data.toList && decide (c.f1.size ≤ 65536) && (c.f2 || c.f1.data.toList.isEmpty)
def partOK (p : S41) : Bool := (p.f2.data.toList.isEmpty || nm tagO p.f2.data.toList) && (p.f1 == !p.f3.data.toList.isEmpty) && decide (p.f3.size ≤ 65536) && decide (p.f4.length ≤ 8) && p.f4.all condOK
def selOK (l : List S41) : Bool := !l.isEmpty && decide (l.length ≤ 8) && !(match l with | [] => false | p :: _ => p.f0) && l.all partOK
theorem toList_isEmpty (s : ByteArray) : (s.toList == ([] : List UInt8)) = s.data.toList.isEmpty := by
 rw [Lib.toList_data]
 cases s.data.toList <;> rfl
theorem right1_spec (c : S33) (k : Nat) (hk : 40 ≤ k) : query_Part_right_1.f k c.f0 c.f1 c.f2 = some (!condOK c) := by
 unfold query_Part_right_1.f qnb.f condOK
 rw [name_spec _ k hk]
 have e : (c.f1.toList != ([] : List UInt8)) = !c.f1.data.toList.isEmpty := by rw [bne, toList_isEmpty]
 rw [e]
 simp only [Option.bind_some]
 have e2 : decide ((c.f1.size : Int) ≤ 65536) = decide (c.f1.size ≤ 65536) := by rw [Bool.eq_iff_iff, decide_eq_true_iff, decide_eq_true_iff]; omega
 rw [e2]
 cases nm nameO c.f0.data.toList <;> cases decide (c.f1.size ≤ 65536) <;> cases c.f2 <;> cases c.f1.data.toList.isEmpty <;> rfl
theorem idx_spec : ∀ (l : List S33) (i : Int), 0 ≤ i → ∃ j, qlb.idx l i = some j ∧ (decide (0 ≤ j) = !(l.all condOK))
 | [], i, hi => ⟨-1, rfl, rfl⟩
 | c :: r, i, hi => by
  unfold qlb.idx
  rw [right1_spec c 64 (by decide)]
  simp only [Option.bind_some, List.all_cons]
  cases condOK c
  ·refine ⟨i, rfl, ?_⟩
   simp [hi]
  ·obtain ⟨j, hj, he⟩ := idx_spec r (i + 1) (by omega)
   exact ⟨j, by simpa using hj, by simpa using he⟩
theorem right_spec (p : S41) : qlb.f p.f0 p.f1 p.f2 p.f3 p.f4 = some (partOK p) := by
 obtain ⟨j, hj, he⟩ := idx_spec p.f4 0 (Int.le_refl _)
 unfold qlb.f partOK
 rw [tag_spec _ 64 (by decide), hj]
 simp only [Option.bind_some, he, toList_isEmpty]
 have e2 : decide ((p.f3.size : Int) ≤ 65536) = decide (p.f3.size ≤ 65536) := by rw [Bool.eq_iff_iff, decide_eq_true_iff, decide_eq_true_iff]; omega
 have e3 : (!decide (8 < (p.f4.length : Int))) = decide (p.f4.length ≤ 8) := by
  rw [Bool.eq_iff_iff]; simp; omega
 rw [e2, e3]
 congr 1
 cases (p.f2.data.toList.isEmpty || nm tagO p.f2.data.toList) <;> cases p.f1 <;> cases p.f3.data.toList.isEmpty <;> cases decide (p.f3.size ≤ 65536) <;> cases decide (p.f4.length ≤ 8) <;> cases p.f4.all condOK <;> rfl
theorem check_l0 (l : List S41) (hl : l.length ≤ 8) (d : Nat) : ∀ (k i : Nat), i + d = l.length → d < k → qp.l0 k l (l.length : Int) (i : Int) = some (if (l.drop i).all partOK = true then 0 else 2) := by
 induction d with
 | zero =>
  intro k i hi hk
  obtain ⟨k, rfl⟩ : ∃ m, k = m + 1 := ⟨k - 1, by omega⟩
  rw [qp.l0, if_neg (by omega), List.drop_eq_nil_of_le (by omega)]
  rfl
 | succ d ih =>
  intro k i hi hk
  obtain ⟨k, rfl⟩ : ∃ m, k = m + 1 := ⟨k - 1, by omega⟩
  have hil : i < l.length := by omega
  have hw : wrap64 ((i : Int) + 1) = ((i + 1 : Nat) : Int) := by rw [w64 (by omega) (by omega)]; omega
  rw [qp.l0, if_pos (by omega), if_pos (by omega), if_pos (by omega), rdP l i hil, right_spec, List.drop_eq_getElem_cons hil, List.all_cons]
  simp only [Option.bind_some, hw, ih k (i + 1) (by omega) (by omega)]
  cases partOK l[i] <;> simp
theorem check_spec (l : List S41) (k : Nat) (hk : 12 ≤ k) : qp.f k l = some (if selOK l = true then 0 else 2) := by
 obtain ⟨k, rfl⟩ : ∃ m, k = m + 1 := ⟨k - 1, by omega⟩
 unfold qp.f selOK
 cases l with
 | nil => simp [qp.j0]
 | cons p r =>
  rw [if_neg (by simp only [List.length_cons]; omega)]
  by_cases h8 : ((p :: r).length : Int) > 8
  ·rw [if_pos h8]
   simp only [qp.j0, if_true]
   have : decide ((p :: r).length ≤ 8) = false := decide_eq_false (by omega)
   rw [this]
   simp
  ·rw [if_neg h8, if_pos (show (0 : Int) < (((p :: r).length : Nat) : Int) by have : 0 < (p :: r).length := Nat.succ_pos _; omega)]
   have h0 := rdP (p :: r) 0 (by simp)
   simp only [Int.natCast_zero, List.getElem_cons_zero] at h0
   rw [h0]
   have h1 := check_l0 (p :: r) (by omega) (p :: r).length k 0 (by omega) (by omega)
   simp only [Int.natCast_zero, List.drop_zero] at h1
   simp only [qp.j0, h1]
   have : decide ((p :: r).length ≤ 8) = true := decide_eq_true (by omega)
   rw [this]
   obtain ⟨p0, p1, p2, p3, p4⟩ := p
   dsimp only
   cases p0 <;> cases (⟨_, p1, p2, p3, p4⟩ :: r : List S41).all partOK <;> rfl
end Go.Proofs.YtjbobecnlpiejaaDoor.Q.P
namespace Go.Proofs.YtjbobecnlpiejaaDoor.Q
open Go.Proofs.YtjbobecnlpiejaaDoorZ
open Go.RowKit Go.Proofs.YtjbobecnlpiejaaDoorW.PrintWords Go.Proofs.YtjbobecnlpiejaaDoorW.PrintLast Go.Proofs.YtjbobecnlpiejaaDoorW.PrintMore
attribute [local go_sem] qpb qqb qvb qwb
mutual
def qbb.l0 : Nat → List (S46) → Int → Int → Int → Option (Bool)
 | 0, _, _, _, _ => none
 | k + 1, x0, x5, x10, x11 => if x11 < x10 then (if 0 ≤ x11 then (if x11 < (x0.length : Int) then (if (wrap64 ((wrap64 ((wrap64 (x5 - 1)) - (((qe x0 x11).f5).length : Int))) - (wrap64 (Int.tdiv (wrap64 ((wrap64 ((((qe x0 x11).f4).size : Int) + (((qe x0 x11).f3).size : Int))) + (((qe x0 x11).f2).size : Int))) 4096)))) < 0 then (some false) else (qbb.l1 k x0 (wrap64 ((wrap64 ((wrap64 (x5 - 1)) - (((qe x0 x11).f5).length : Int))) - (wrap64 (Int.tdiv (wrap64 ((wrap64 ((((qe x0 x11).f4).size : Int) + (((qe x0 x11).f3).size : Int))) + (((qe x0 x11).f2).size : Int))) 4096)))) x11 x10 x11 (((qe x0 x11).f5).length : Int) 0)) else (none)) else (none)) else (some (decide (x5 ≥ 0)))
def qbb.l1 : Nat → List (S46) → Int → Int → Int → Int → Int → Int → Option (Bool)
 | 0, _, _, _, _, _, _, _ => none
 | k + 1, x0, x5, x6, x10, x11, x52, x53 => if x53 < x52 then (if 0 ≤ x6 then (if x6 < (x0.length : Int) then (if 0 ≤ x53 then (if x53 < (((qe x0 x6).f5).length : Int) then (qbb.l1 k x0 (wrap64 (x5 - (wrap64 (Int.tdiv (wrap64 ((((qy ((qe x0 x6).f5) x53).f1).size : Int) + (((qy ((qe x0 x6).f5) x53).f0).size : Int))) 4096)))) x6 x10 x11 x52 (wrap64 (x53 + 1))) else (none)) else (none)) else (none)) else (none)) else (qbb.l0 k x0 x5 x10 (wrap64 (x11 + 1)))
end
def qbb.f (k : Nat) (l0 : List (S46)) (a1 : Int) : Option (Bool) := qbb.l0 k l0 a1 (l0.length : Int) 0
set_option maxHeartbeats 8000000 in
set_option maxRecDepth 100000 in
theorem qbb.calls (k : Nat) (A0 : Option Addr) (c0 : Nat) (l0 : List (S46)) (a1 : Int) (r : Bool) (w : World) (hr0 : Kd.C k46 w A0 l0.length l0) (hc0 : l0.length ≤ c0) (h : qbb.f k l0 a1 = some r) :
  Calls Tryd.prog 11 #[.slice A0 l0.length c0, .int .i64 a1] w fun e w' => e = .returned (.bool r) ∧ Drawn0 w w' := by
 have HR0 := qa.mk hr0
 have HC0 := qa.mk hc0
 clear hr0 hc0
 have H : (qbb.l0 k l0 a1 (l0.length : Int) 0) = some r := h
 clear h
 have H' := qa.mk H
 clear H
 go_enter Tryd.func11, Tryd.ntmps11
 go_wp2
 repeat (go_quiet (fail); try go_wp2)
 go_loopg [5, 11] k (fun kq v5 v11 w' => ∃ (x5_1 : Int) (x11_1 : Int), v5 = .int .i64 x5_1 ∧ v11 = .int .i64 x11_1 ∧ qa (qbb.l0 kq l0 x5_1 (l0.length : Int) x11_1 = some r) ∧ qa (kq ≤ k) ∧ Drawn0 w w')
 case atStart => exact ⟨(a1), (0), zz6, zz6, H', ⟨Nat.le_refl _⟩, zz13⟩
 case round =>
  clear H'
  try clear c1
  try clear p2
  obtain ⟨x5_1, x11_1, rfl, rfl, HA, HK1, ⟨m1, rfl⟩⟩ := hrel
  cases gk with
  | zero => exact absurd HA.out (by simp [qbb.l0])
  | succ k1 =>
   have H := HA.out
   clear HA
   simp only [qbb.l0] at H
   by_cases c3 : x11_1 < (l0.length : Int)
   ·rw [if_pos c3] at H
    have c3b0 : decide (x11_1 < (l0.length : Int)) = true := decide_eq_true c3
    clear c3
    by_cases c4 : 0 ≤ x11_1
    ·rw [if_pos c4] at H
     have c4b0 : decide (0 ≤ x11_1) = true := decide_eq_true c4
     clear c4
     by_cases c5 : x11_1 < (l0.length : Int)
     ·rw [if_pos c5] at H
      have c5b0 : decide (x11_1 < (l0.length : Int)) = true := decide_eq_true c5
      clear c5
      by_cases c6 : (wrap64 ((wrap64 ((wrap64 (x5_1 - 1)) - (((qe l0 x11_1).f5).length : Int))) - (wrap64 (Int.tdiv (wrap64 ((wrap64 ((((qe l0 x11_1).f4).size : Int) + (((qe l0 x11_1).f3).size : Int))) + (((qe l0 x11_1).f2).size : Int))) 4096)))) < 0
      ·rw [if_pos c6] at H
       have c6b0 : decide ((wrap64 ((wrap64 ((wrap64 (x5_1 - 1)) - (((qe l0 x11_1).f5).length : Int))) - (wrap64 (Int.tdiv (wrap64 ((wrap64 ((((qe l0 x11_1).f4).size : Int) + (((qe l0 x11_1).f3).size : Int))) + (((qe l0 x11_1).f2).size : Int))) 4096)))) < 0) = true := decide_eq_true c6
       clear c6
       obtain rfl := Option.some.inj H
       have p387 : 0 ≤ (x11_1 : Int) := of_decide_eq_true zz7
       have q387 : x11_1 < (l0.length : Int) := of_decide_eq_true zz7
       obtain ⟨ad387, A387_5, c387_5, e387, hx387_0, hx387_1, hx387_2, hx387_3, hx387_4, hx387_5, hl387_5, hi387_5⟩ := at_T46 HR0.out x11_1 p387 q387
       cases e387
       have HR387_5 := qa.mk hi387_5
       have HC387_5 := qa.mk hl387_5
       clear hi387_5 hl387_5
       replace p387 := eq_true p387
       replace q387 := eq_true q387
       have p388 : 0 ≤ (x11_1 : Int) := of_decide_eq_true zz7
       have q388 : x11_1 < (l0.length : Int) := of_decide_eq_true zz7
       obtain ⟨ad388, A388_5, c388_5, e388, hx388_0, hx388_1, hx388_2, hx388_3, hx388_4, hx388_5, hl388_5, hi388_5⟩ := at_T46 HR0.out x11_1 p388 q388
       obtain rfl : ad387 = ad388 := (by injection e388)
       have HR388_5 := qa.mk hi388_5
       have HC388_5 := qa.mk hl388_5
       clear hi388_5 hl388_5
       replace p388 := eq_true p388
       replace q388 := eq_true q388
       have ea_ := Option.some.inj (hx387_5.symm.trans hx388_5)
       injection ea_ with ea_ en_ ec_
       subst ea_
       subst ec_
       clear en_
       have p389 : 0 ≤ (x11_1 : Int) := of_decide_eq_true zz7
       have q389 : x11_1 < (l0.length : Int) := of_decide_eq_true zz7
       obtain ⟨ad389, A389_5, c389_5, e389, hx389_0, hx389_1, hx389_2, hx389_3, hx389_4, hx389_5, hl389_5, hi389_5⟩ := at_T46 HR0.out x11_1 p389 q389
       obtain rfl : ad387 = ad389 := (by injection e389)
       have HR389_5 := qa.mk hi389_5
       have HC389_5 := qa.mk hl389_5
       clear hi389_5 hl389_5
       replace p389 := eq_true p389
       replace q389 := eq_true q389
       have ea_ := Option.some.inj (hx387_5.symm.trans hx389_5)
       injection ea_ with ea_ en_ ec_
       subst ea_
       subst ec_
       clear en_
       have p390 : 0 ≤ (x11_1 : Int) := of_decide_eq_true zz7
       have q390 : x11_1 < (l0.length : Int) := of_decide_eq_true zz7
       obtain ⟨ad390, A390_5, c390_5, e390, hx390_0, hx390_1, hx390_2, hx390_3, hx390_4, hx390_5, hl390_5, hi390_5⟩ := at_T46 HR0.out x11_1 p390 q390
       obtain rfl : ad387 = ad390 := (by injection e390)
       have HR390_5 := qa.mk hi390_5
       have HC390_5 := qa.mk hl390_5
       clear hi390_5 hl390_5
       replace p390 := eq_true p390
       replace q390 := eq_true q390
       have ea_ := Option.some.inj (hx387_5.symm.trans hx390_5)
       injection ea_ with ea_ en_ ec_
       subst ea_
       subst ec_
       clear en_
       go_wp2
       repeat (go_quiet (fail); try go_wp2)
       go_ret
       exact ⟨zz6, zz13⟩
      ·rw [if_neg c6] at H
       have c6b0 : decide ((wrap64 ((wrap64 ((wrap64 (x5_1 - 1)) - (((qe l0 x11_1).f5).length : Int))) - (wrap64 (Int.tdiv (wrap64 ((wrap64 ((((qe l0 x11_1).f4).size : Int) + (((qe l0 x11_1).f3).size : Int))) + (((qe l0 x11_1).f2).size : Int))) 4096)))) < 0) = false := decide_eq_false c6
       clear c6
       have H' := qa.mk H
       clear H
       have p387 : 0 ≤ (x11_1 : Int) := of_decide_eq_true zz7
       have q387 : x11_1 < (l0.length : Int) := of_decide_eq_true zz7
       obtain ⟨ad387, A387_5, c387_5, e387, hx387_0, hx387_1, hx387_2, hx387_3, hx387_4, hx387_5, hl387_5, hi387_5⟩ := at_T46 HR0.out x11_1 p387 q387
       cases e387
       have HR387_5 := qa.mk hi387_5
       have HC387_5 := qa.mk hl387_5
       clear hi387_5 hl387_5
       replace p387 := eq_true p387
       replace q387 := eq_true q387
       have p388 : 0 ≤ (x11_1 : Int) := of_decide_eq_true zz7
       have q388 : x11_1 < (l0.length : Int) := of_decide_eq_true zz7
       obtain ⟨ad388, A388_5, c388_5, e388, hx388_0, hx388_1, hx388_2, hx388_3, hx388_4, hx388_5, hl388_5, hi388_5⟩ := at_T46 HR0.out x11_1 p388 q388
       obtain rfl : ad387 = ad388 := (by injection e388)
       have HR388_5 := qa.mk hi388_5
       have HC388_5 := qa.mk hl388_5
       clear hi388_5 hl388_5
       replace p388 := eq_true p388
       replace q388 := eq_true q388
       have ea_ := Option.some.inj (hx387_5.symm.trans hx388_5)
       injection ea_ with ea_ en_ ec_
       subst ea_
       subst ec_
       clear en_
       have p389 : 0 ≤ (x11_1 : Int) := of_decide_eq_true zz7
       have q389 : x11_1 < (l0.length : Int) := of_decide_eq_true zz7
       obtain ⟨ad389, A389_5, c389_5, e389, hx389_0, hx389_1, hx389_2, hx389_3, hx389_4, hx389_5, hl389_5, hi389_5⟩ := at_T46 HR0.out x11_1 p389 q389
       obtain rfl : ad387 = ad389 := (by injection e389)
       have HR389_5 := qa.mk hi389_5
       have HC389_5 := qa.mk hl389_5
       clear hi389_5 hl389_5
       replace p389 := eq_true p389
       replace q389 := eq_true q389
       have ea_ := Option.some.inj (hx387_5.symm.trans hx389_5)
       injection ea_ with ea_ en_ ec_
       subst ea_
       subst ec_
       clear en_
       have p390 : 0 ≤ (x11_1 : Int) := of_decide_eq_true zz7
       have q390 : x11_1 < (l0.length : Int) := of_decide_eq_true zz7
       obtain ⟨ad390, A390_5, c390_5, e390, hx390_0, hx390_1, hx390_2, hx390_3, hx390_4, hx390_5, hl390_5, hi390_5⟩ := at_T46 HR0.out x11_1 p390 q390
       obtain rfl : ad387 = ad390 := (by injection e390)
       have HR390_5 := qa.mk hi390_5
       have HC390_5 := qa.mk hl390_5
       clear hi390_5 hl390_5
       replace p390 := eq_true p390
       replace q390 := eq_true q390
       have ea_ := Option.some.inj (hx387_5.symm.trans hx390_5)
       injection ea_ with ea_ en_ ec_
       subst ea_
       subst ec_
       clear en_
       have p391 : 0 ≤ (x11_1 : Int) := of_decide_eq_true zz7
       have q391 : x11_1 < (l0.length : Int) := of_decide_eq_true zz7
       obtain ⟨ad391, A391_5, c391_5, e391, hx391_0, hx391_1, hx391_2, hx391_3, hx391_4, hx391_5, hl391_5, hi391_5⟩ := at_T46 HR0.out x11_1 p391 q391
       obtain rfl : ad387 = ad391 := (by injection e391)
       have HR391_5 := qa.mk hi391_5
       have HC391_5 := qa.mk hl391_5
       clear hi391_5 hl391_5
       replace p391 := eq_true p391
       replace q391 := eq_true q391
       have ea_ := Option.some.inj (hx387_5.symm.trans hx391_5)
       injection ea_ with ea_ en_ ec_
       subst ea_
       subst ec_
       clear en_
       go_wp2
       repeat (go_quiet (fail); try go_wp2)
       go_loopg [5, 53] k1 (fun kq v5 v53 w' => ∃ (x5_2 : Int) (x53_2 : Int), v5 = .int .i64 x5_2 ∧ v53 = .int .i64 x53_2 ∧ qa (qbb.l1 kq l0 x5_2 x11_1 (l0.length : Int) x11_1 (((qe l0 x11_1).f5).length : Int) x53_2 = some r) ∧ qa (kq ≤ k1) ∧ Drawn0 w w')
       case atStart => exact ⟨(wrap64 ((wrap64 ((wrap64 (x5_1 - 1)) - (((qe l0 x11_1).f5).length : Int))) - (wrap64 (Int.tdiv (wrap64 ((wrap64 ((((qe l0 x11_1).f4).size : Int) + (((qe l0 x11_1).f3).size : Int))) + (((qe l0 x11_1).f2).size : Int))) 4096)))), (0), zz6, zz6, H', ⟨Nat.le_refl _⟩, zz13⟩
       case round =>
        clear H'
        try clear c1
        try clear p2
        try clear c3
        try clear c3b0
        try clear p3
        try clear q3
        try clear hx3
        try clear c4
        try clear c4b0
        try clear c5
        try clear c5b0
        try clear c6
        try clear c6b0
        try clear p6
        try clear hx387_0
        try clear hx387_1
        try clear hx387_2
        try clear hx387_3
        try clear hx387_4
        try clear hx387_5
        try clear hx388_0
        try clear hx388_1
        try clear hx388_2
        try clear hx388_3
        try clear hx388_4
        try clear hx388_5
        try clear hx389_0
        try clear hx389_1
        try clear hx389_2
        try clear hx389_3
        try clear hx389_4
        try clear hx389_5
        try clear hx390_0
        try clear hx390_1
        try clear hx390_2
        try clear hx390_3
        try clear hx390_4
        try clear hx390_5
        try clear hx391_0
        try clear hx391_1
        try clear hx391_2
        try clear hx391_3
        try clear hx391_4
        try clear hx391_5
        try clear p2
        try clear p387
        try clear p388
        try clear p389
        try clear p390
        try clear p391
        try clear q387
        try clear q388
        try clear q389
        try clear q390
        try clear q391
        obtain ⟨x5_2, x53_2, rfl, rfl, HA, HK2, ⟨m2, rfl⟩⟩ := hrel
        cases gk with
        | zero => exact absurd HA.out (by simp [qbb.l1])
        | succ k2 =>
         have H := HA.out
         clear HA
         simp only [qbb.l1] at H
         by_cases c7 : x53_2 < (((qe l0 x11_1).f5).length : Int)
         ·rw [if_pos c7] at H
          have c7b0 : decide (x53_2 < (((qe l0 x11_1).f5).length : Int)) = true := decide_eq_true c7
          clear c7
          by_cases c8 : 0 ≤ x11_1
          ·rw [if_pos c8] at H
           have c8b0 : decide (0 ≤ x11_1) = true := decide_eq_true c8
           clear c8
           by_cases c9 : x11_1 < (l0.length : Int)
           ·rw [if_pos c9] at H
            have c9b0 : decide (x11_1 < (l0.length : Int)) = true := decide_eq_true c9
            clear c9
            by_cases c10 : 0 ≤ x53_2
            ·rw [if_pos c10] at H
             have c10b0 : decide (0 ≤ x53_2) = true := decide_eq_true c10
             clear c10
             by_cases c11 : x53_2 < (((qe l0 x11_1).f5).length : Int)
             ·rw [if_pos c11] at H
              have c11b0 : decide (x53_2 < (((qe l0 x11_1).f5).length : Int)) = true := decide_eq_true c11
              clear c11
              have H' := qa.mk H
              clear H
              have p392 : 0 ≤ (x11_1 : Int) := of_decide_eq_true zz7
              have q392 : x11_1 < (l0.length : Int) := of_decide_eq_true zz7
              obtain ⟨ad392, A392_5, c392_5, e392, hx392_0, hx392_1, hx392_2, hx392_3, hx392_4, hx392_5, hl392_5, hi392_5⟩ := at_T46 HR0.out x11_1 p392 q392
              obtain rfl : ad387 = ad392 := (by injection e392)
              have HR392_5 := qa.mk hi392_5
              have HC392_5 := qa.mk hl392_5
              clear hi392_5 hl392_5
              replace p392 := eq_true p392
              replace q392 := eq_true q392
              have p393 : 0 ≤ (x53_2 : Int) := of_decide_eq_true zz7
              have q393 : x53_2 < (((qe l0 x11_1).f5).length : Int) := of_decide_eq_true zz7
              obtain ⟨ad393, e393, hx393_0, hx393_1⟩ := at_T48 HR392_5.out x53_2 p393 q393
              cases e393
              replace p393 := eq_true p393
              replace q393 := eq_true q393
              have p394 : 0 ≤ (x11_1 : Int) := of_decide_eq_true zz7
              have q394 : x11_1 < (l0.length : Int) := of_decide_eq_true zz7
              obtain ⟨ad394, A394_5, c394_5, e394, hx394_0, hx394_1, hx394_2, hx394_3, hx394_4, hx394_5, hl394_5, hi394_5⟩ := at_T46 HR0.out x11_1 p394 q394
              obtain rfl : ad387 = ad394 := (by injection e394)
              have HR394_5 := qa.mk hi394_5
              have HC394_5 := qa.mk hl394_5
              clear hi394_5 hl394_5
              replace p394 := eq_true p394
              replace q394 := eq_true q394
              have ea_ := Option.some.inj (hx392_5.symm.trans hx394_5)
              injection ea_ with ea_ en_ ec_
              subst ea_
              subst ec_
              clear en_
              have p395 : 0 ≤ (x53_2 : Int) := of_decide_eq_true zz7
              have q395 : x53_2 < (((qe l0 x11_1).f5).length : Int) := of_decide_eq_true zz7
              obtain ⟨ad395, e395, hx395_0, hx395_1⟩ := at_T48 HR394_5.out x53_2 p395 q395
              cases e395
              replace p395 := eq_true p395
              replace q395 := eq_true q395
              go_wp2
              repeat (go_quiet (fail); try go_wp2)
              go_roundg k2
              case measure => have := HK1.out; have := HK2.out; omega
              case rel => exact ⟨(wrap64 (x5_2 - (wrap64 (Int.tdiv (wrap64 ((((qy ((qe l0 x11_1).f5) x53_2).f1).size : Int) + (((qy ((qe l0 x11_1).f5) x53_2).f0).size : Int))) 4096)))), (wrap64 (x53_2 + 1)), zz6, zz6, H', ⟨zz4⟩, zz13⟩
             ·rw [if_neg c11] at H
              exact absurd H (by simp)
            ·rw [if_neg c10] at H
             exact absurd H (by simp)
           ·rw [if_neg c9] at H
            exact absurd H (by simp)
          ·rw [if_neg c8] at H
           exact absurd H (by simp)
         ·rw [if_neg c7] at H
          have c7b0 : decide (x53_2 < (((qe l0 x11_1).f5).length : Int)) = false := decide_eq_false c7
          clear c7
          have H' := qa.mk H
          clear H
          go_wp2
          repeat (go_quiet (fail); try go_wp2)
          go_roundg k2
          case measure => have := HK1.out; have := HK2.out; omega
          case rel => exact ⟨(x5_2), (wrap64 (x11_1 + 1)), zz6, zz6, H', ⟨zz4⟩, zz13⟩
     ·rw [if_neg c5] at H
      exact absurd H (by simp)
    ·rw [if_neg c4] at H
     exact absurd H (by simp)
   ·rw [if_neg c3] at H
    have c3b0 : decide (x11_1 < (l0.length : Int)) = false := decide_eq_false c3
    clear c3
    obtain rfl := Option.some.inj H
    go_wp2
    repeat (go_quiet (fail); try go_wp2)
    go_ret
    exact ⟨zz6, zz13⟩
mutual
def qdb.l0 : Nat → List (S46) → List (S46) → Int → Int → Option (Bool)
 | 0, _, _, _, _ => none
 | k + 1, x0, x6, x7, x8 => if x8 < x7 then (if 0 ≤ x8 then (if x8 < (x6.length : Int) then (qdb.l1 k x0 x8 x8 x6 x7 x8 ((qe x6 x8).f0) ((qe x6 x8).f1) ((qe x6 x8).f2) ((qe x6 x8).f3) ((qe x6 x8).f4) ((qe x6 x8).f5)) else (none)) else (none)) else (some true)
def qdb.l1 : Nat → List (S46) → Int → Int → List (S46) → Int → Int → Int → Int → ByteArray → ByteArray → ByteArray → List (S48) → Option (Bool)
 | 0, _, _, _, _, _, _, _, _, _, _, _, _ => none
 | k + 1, x0, x3, x5, x6, x7, x8, x178000, x178001, x178002, x178003, x178004, x178005 => if x5 = 0 then (if x5 = x178001 then (if x3 = 0 then (qdb.l0 k x0 x6 x7 (wrap64 (x8 + 1))) else (some false)) else (some false)) else (if x5 = x178001 then (if x3 = 0 then (some false) else (qdb.l0 k x0 x6 x7 (wrap64 (x8 + 1)))) else (if 0 ≤ (wrap64 (x5 - 1)) then (if (wrap64 (x5 - 1)) < (x0.length : Int) then (qdb.l1 k x0 x3 ((qe x0 (wrap64 (x5 - 1))).f1) x6 x7 x8 x178000 x178001 x178002 x178003 x178004 x178005) else (none)) else (none)))
end
def qdb.f (k : Nat) (l0 : List (S46)) : Option (Bool) := qdb.l0 k l0 l0 (l0.length : Int) 0
theorem qdb.mono_l : ∀ k, (∀ y0 y1 y2 y3, LeO (qdb.l0 k y0 y1 y2 y3) (qdb.l0 (k + 1) y0 y1 y2 y3)) ∧ (∀ y0 y1 y2 y3 y4 y5 y6 y7 y8 y9 y10 y11, LeO (qdb.l1 k y0 y1 y2 y3 y4 y5 y6 y7 y8 y9 y10 y11) (qdb.l1 (k + 1) y0 y1 y2 y3 y4 y5 y6 y7 y8 y9 y10 y11))
 | 0 => ⟨fun _ _ _ _ r h => by simp [qdb.l0] at h, fun _ _ _ _ _ _ _ _ _ _ _ _ r h => by simp [qdb.l1] at h⟩
 | k + 1 => by
  obtain ⟨ih0, ih1⟩ := qdb.mono_l k
  refine ⟨?_, ?_⟩
  ·intro y0 y1 y2 y3
   unfold qdb.l0
   repeat' first
   | (with_reducible exact ih0 _ _ _ _)
   | (with_reducible exact ih1 _ _ _ _ _ _ _ _ _ _ _ _)
   | (with_reducible exact LeO.refl _)
   | (with_reducible exact LeO.none _)
   | (with_reducible refine LeO.ite ?_ ?_)
   | (with_reducible refine LeO.bind ?_ (fun _ => ?_))
   | exact ih0 _ _ _ _
   | exact ih1 _ _ _ _ _ _ _ _ _ _ _ _
   | exact LeO.none _
   | refine LeO.ite ?_ ?_
   | refine LeO.bind ?_ (fun _ => ?_)
  ·intro y0 y1 y2 y3 y4 y5 y6 y7 y8 y9 y10 y11
   unfold qdb.l1
   repeat' first
   | (with_reducible exact ih0 _ _ _ _)
   | (with_reducible exact ih1 _ _ _ _ _ _ _ _ _ _ _ _)
   | (with_reducible exact LeO.refl _)
   | (with_reducible exact LeO.none _)
   | (with_reducible refine LeO.ite ?_ ?_)
   | (with_reducible refine LeO.bind ?_ (fun _ => ?_))
   | exact ih0 _ _ _ _
   | exact ih1 _ _ _ _ _ _ _ _ _ _ _ _
   | exact LeO.none _
   | refine LeO.ite ?_ ?_
   | refine LeO.bind ?_ (fun _ => ?_)
theorem qdb.mono : ∀ a0 k, LeO (qdb.f k a0) (qdb.f (k + 1) a0) := by
 intro a0 k
 obtain ⟨ih0, ih1⟩ := qdb.mono_l k
 unfold qdb.f
 repeat' first
   | (with_reducible exact ih0 _ _ _ _)
   | (with_reducible exact ih1 _ _ _ _ _ _ _ _ _ _ _ _)
   | (with_reducible exact LeO.refl _)
   | (with_reducible exact LeO.none _)
   | (with_reducible refine LeO.ite ?_ ?_)
   | (with_reducible refine LeO.bind ?_ (fun _ => ?_))
   | exact ih0 _ _ _ _
   | exact ih1 _ _ _ _ _ _ _ _ _ _ _ _
   | exact LeO.none _
   | refine LeO.ite ?_ ?_
   | refine LeO.bind ?_ (fun _ => ?_)
set_option maxHeartbeats 8000000 in
set_option maxRecDepth 100000 in
theorem qdb.calls (k : Nat) (A0 : Option Addr) (c0 : Nat) (l0 : List (S46)) (r : Bool) (w : World) (hr0 : Kd.C k46 w A0 l0.length l0) (hc0 : l0.length ≤ c0) (h : qdb.f k l0 = some r) :
  Calls Tryd.prog 49 #[.slice A0 l0.length c0] w fun e w' => e = .returned (.bool r) ∧ Below w.heap.size w w' := by
 have hu46 := Tryd.underlying46
 have HR0 := qa.mk hr0
 have HC0 := qa.mk hc0
 clear hr0 hc0
 have HB := qa.mk (Below.refl w.heap.size w)
 have H : (qdb.l0 k l0 l0 (l0.length : Int) 0) = some r := h
 clear h
 have H' := qa.mk H
 clear H
 go_enter Tryd.func49, Tryd.ntmps49
 go_wp2
 go_loopg [8] k (fun kq v8 w' => ∃ (x8_1 : Int), v8 = .int .i64 x8_1 ∧ qa (qdb.l0 kq l0 l0 (l0.length : Int) x8_1 = some r) ∧ qa (kq ≤ k) ∧ qa (Below w.heap.size w w'))
 case atStart => exact ⟨(0), zz6, H', ⟨Nat.le_refl _⟩, ⟨zz24⟩⟩
 case round =>
  clear H'
  obtain ⟨x8_1, rfl, HA, HK1, HB⟩ := hrel
  cases gk with
  | zero => exact absurd HA.out (by simp [qdb.l0])
  | succ k1 =>
   have H := HA.out
   clear HA
   simp only [qdb.l0] at H
   by_cases c2 : x8_1 < (l0.length : Int)
   ·rw [if_pos c2] at H
    have c2b0 : decide (x8_1 < (l0.length : Int)) = true := decide_eq_true c2
    clear c2
    by_cases c3 : 0 ≤ x8_1
    ·rw [if_pos c3] at H
     have c3b0 : decide (0 ≤ x8_1) = true := decide_eq_true c3
     clear c3
     by_cases c4 : x8_1 < (l0.length : Int)
     ·rw [if_pos c4] at H
      have c4b0 : decide (x8_1 < (l0.length : Int)) = true := decide_eq_true c4
      clear c4
      have H' := qa.mk H
      clear H
      have p176 : 0 ≤ (x8_1 : Int) := of_decide_eq_true zz7
      have q176 : x8_1 < (l0.length : Int) := of_decide_eq_true zz7
      obtain ⟨ad176, A176_5, c176_5, e176, hx176_0, hx176_1, hx176_2, hx176_3, hx176_4, hx176_5, hl176_5, hi176_5⟩ := at_T46 HR0.out x8_1 p176 q176
      cases e176
      replace hx176_0 := (HB.out.cell (qic w _ hx176_0)).trans hx176_0
      replace hx176_1 := (HB.out.cell (qic w _ hx176_1)).trans hx176_1
      replace hx176_2 := (HB.out.cell (qic w _ hx176_2)).trans hx176_2
      replace hx176_3 := (HB.out.cell (qic w _ hx176_3)).trans hx176_3
      replace hx176_4 := (HB.out.cell (qic w _ hx176_4)).trans hx176_4
      replace hx176_5 := (HB.out.cell (qic w _ hx176_5)).trans hx176_5
      have HR176_5 := qa.mk hi176_5
      have HC176_5 := qa.mk hl176_5
      clear hi176_5 hl176_5
      replace p176 := eq_true p176
      replace q176 := eq_true q176
      go_wp2_with (first | ((with_reducible refine qeb (N := 4) rfl ?_); refine qib ?hg (N := 4) ?hd (cs := #[.int .i64 0, .int .i64 0, .string (⟨#[]⟩ : ByteArray), .string (⟨#[]⟩ : ByteArray), .string (⟨#[]⟩ : ByteArray), .slice none 0 0]) (t := 46) ?hr ?_; (case hd => rfl); (case hg => rfl); (case hr => exact zz5); intro gb177 hg w5 hbox hb; have n0_ := qa.mk (qm zz24 hb); have n1_ := qa.mk (hbox); have n2_ := qa.mk ((by rw [hg]; exact (ql zz24) : w.heap.size ≤ gb177)); have n3_ := qa.mk ((by rw [hg]; exact (ql zz24) : w.heap.size ≤ gb177)); clear HB; have HB := n0_; have BK177 := n1_; have GW177 := n2_; have GE177 := n3_; clear n0_ n1_ n2_ n3_; clear hb hbox hg; have hcz6_0 : w5.cell? ⟨gb177, 0, none⟩ = some (.int .i64 0) := (qg BK177.out 0).trans rfl; have hcz6_1 : w5.cell? ⟨gb177, 1, none⟩ = some (.int .i64 0) := (qg BK177.out 1).trans rfl; have hcz6_2 : w5.cell? ⟨gb177, 2, none⟩ = some (.string (⟨#[]⟩ : ByteArray)) := (qg BK177.out 2).trans rfl; have hcz6_3 : w5.cell? ⟨gb177, 3, none⟩ = some (.string (⟨#[]⟩ : ByteArray)) := (qg BK177.out 3).trans rfl; have hcz6_4 : w5.cell? ⟨gb177, 4, none⟩ = some (.string (⟨#[]⟩ : ByteArray)) := (qg BK177.out 4).trans rfl; have hcz6_5 : w5.cell? ⟨gb177, 5, none⟩ = some (.slice none 0 0) := (qg BK177.out 5).trans rfl; have hfz6_0 := qf BK177.out 0; have hfz6_1 := qf BK177.out 1; have hfz6_2 := qf BK177.out 2; have hfz6_3 := qf BK177.out 3; have hfz6_4 := qf BK177.out 4; have hfz6_5 := qf BK177.out 5))
      go_loopg [5] k1 (fun kq v5 w' => ∃ (x5_2 : Int), v5 = .int .i64 x5_2 ∧ qa (qdb.l1 kq l0 x8_1 x5_2 l0 (l0.length : Int) x8_1 ((qe l0 x8_1).f0) ((qe l0 x8_1).f1) ((qe l0 x8_1).f2) ((qe l0 x8_1).f3) ((qe l0 x8_1).f4) ((qe l0 x8_1).f5) = some r) ∧ qa (kq ≤ k1) ∧ qa (w'.heap[gb177]? = some (.cells #[.int .i64 ((qe l0 x8_1).f0), .int .i64 ((qe l0 x8_1).f1), .string ((qe l0 x8_1).f2), .string ((qe l0 x8_1).f3), .string ((qe l0 x8_1).f4), (.slice A176_5 ((qe l0 x8_1).f5).length c176_5)] 46 (0, 0))) ∧ qa (Below w.heap.size w w'))
      case atStart => exact ⟨(x8_1), zz6, H', ⟨Nat.le_refl _⟩, ⟨by (with_reducible repeat (first | refine qi ?_ _ | refine qk ?_ | refine qh ?_ _)); refine qq (cs := #[.int .i64 ((qe l0 x8_1).f0), .int .i64 ((qe l0 x8_1).f1), .string ((qe l0 x8_1).f2), .string ((qe l0 x8_1).f3), .string ((qe l0 x8_1).f4), .slice none 0 0]) ?_ 5 _ rfl; (with_reducible repeat (first | refine qi ?_ _ | refine qk ?_ | refine qh ?_ _)); refine qq (cs := #[.int .i64 ((qe l0 x8_1).f0), .int .i64 ((qe l0 x8_1).f1), .string ((qe l0 x8_1).f2), .string ((qe l0 x8_1).f3), .string (⟨#[]⟩ : ByteArray), .slice none 0 0]) ?_ 4 _ rfl; (with_reducible repeat (first | refine qi ?_ _ | refine qk ?_ | refine qh ?_ _)); refine qq (cs := #[.int .i64 ((qe l0 x8_1).f0), .int .i64 ((qe l0 x8_1).f1), .string ((qe l0 x8_1).f2), .string (⟨#[]⟩ : ByteArray), .string (⟨#[]⟩ : ByteArray), .slice none 0 0]) ?_ 3 _ rfl; (with_reducible repeat (first | refine qi ?_ _ | refine qk ?_ | refine qh ?_ _)); refine qq (cs := #[.int .i64 ((qe l0 x8_1).f0), .int .i64 ((qe l0 x8_1).f1), .string (⟨#[]⟩ : ByteArray), .string (⟨#[]⟩ : ByteArray), .string (⟨#[]⟩ : ByteArray), .slice none 0 0]) ?_ 2 _ rfl; (with_reducible repeat (first | refine qi ?_ _ | refine qk ?_ | refine qh ?_ _)); refine qq (cs := #[.int .i64 ((qe l0 x8_1).f0), .int .i64 0, .string (⟨#[]⟩ : ByteArray), .string (⟨#[]⟩ : ByteArray), .string (⟨#[]⟩ : ByteArray), .slice none 0 0]) ?_ 1 _ rfl; (with_reducible repeat (first | refine qi ?_ _ | refine qk ?_ | refine qh ?_ _)); refine qq (cs := #[.int .i64 0, .int .i64 0, .string (⟨#[]⟩ : ByteArray), .string (⟨#[]⟩ : ByteArray), .string (⟨#[]⟩ : ByteArray), .slice none 0 0]) ?_ 0 _ rfl; (with_reducible repeat (first | refine qi ?_ _ | refine qk ?_ | refine qh ?_ _)); exact BK177.out⟩, ⟨zz46⟩⟩
      case round =>
       clear H'
       try clear c1
       try clear p1
       try clear q1
       try clear hx1
       try clear c2
       try clear c2b0
       try clear p2
       try clear c3
       try clear c3b0
       try clear c4
       try clear c4b0
       try clear hcz6_0
       try clear hcz6_1
       try clear hcz6_2
       try clear hcz6_3
       try clear hcz6_4
       try clear hcz6_5
       try clear hfz6_0
       try clear hfz6_1
       try clear hfz6_2
       try clear hfz6_3
       try clear hfz6_4
       try clear hfz6_5
       try clear hx176_0
       try clear hx176_1
       try clear hx176_2
       try clear hx176_3
       try clear hx176_4
       try clear hx176_5
       try clear p176
       try clear q176
       obtain ⟨x5_2, rfl, HA, HK2, BK177, HB⟩ := hrel
       cases gk with
       | zero => exact absurd HA.out (by simp [qdb.l1])
       | succ k2 =>
        have H := HA.out
        clear HA
        simp only [qdb.l1] at H
        by_cases c7 : x5_2 = 0
        ·rw [if_pos c7] at H
         have c7b0 : (x5_2 == 0) = true := beq_iff_eq.mpr c7
         have c7b1 : (x5_2 != 0) = false := bne_eq_false_iff_eq.mpr c7
         clear c7
         by_cases c8 : x5_2 = ((qe l0 x8_1).f1)
         ·rw [if_pos c8] at H
          have c8b0 : (x5_2 == ((qe l0 x8_1).f1)) = true := beq_iff_eq.mpr c8
          have c8b1 : (x5_2 != ((qe l0 x8_1).f1)) = false := bne_eq_false_iff_eq.mpr c8
          clear c8
          by_cases c9 : x8_1 = 0
          ·rw [if_pos c9] at H
           have c9b0 : (x8_1 == 0) = true := beq_iff_eq.mpr c9
           have c9b1 : (x8_1 != 0) = false := bne_eq_false_iff_eq.mpr c9
           clear c9
           have H' := qa.mk H
           clear H
           have hcz10_0 : wr.cell? ⟨gb177, 0, none⟩ = some (.int .i64 ((qe l0 x8_1).f0)) := (qg BK177.out 0).trans rfl
           have hcz10_1 : wr.cell? ⟨gb177, 1, none⟩ = some (.int .i64 ((qe l0 x8_1).f1)) := (qg BK177.out 1).trans rfl
           have hcz10_2 : wr.cell? ⟨gb177, 2, none⟩ = some (.string ((qe l0 x8_1).f2)) := (qg BK177.out 2).trans rfl
           have hcz10_3 : wr.cell? ⟨gb177, 3, none⟩ = some (.string ((qe l0 x8_1).f3)) := (qg BK177.out 3).trans rfl
           have hcz10_4 : wr.cell? ⟨gb177, 4, none⟩ = some (.string ((qe l0 x8_1).f4)) := (qg BK177.out 4).trans rfl
           have hcz10_5 : wr.cell? ⟨gb177, 5, none⟩ = some (.slice A176_5 ((qe l0 x8_1).f5).length c176_5) := (qg BK177.out 5).trans rfl
           have hfz10_0 := qf BK177.out 0
           have hfz10_1 := qf BK177.out 1
           have hfz10_2 := qf BK177.out 2
           have hfz10_3 := qf BK177.out 3
           have hfz10_4 := qf BK177.out 4
           have hfz10_5 := qf BK177.out 5
           go_wp2
           go_roundg k2
           case measure => have := HK1.out; have := HK2.out; omega
           case rel => exact ⟨(wrap64 (x8_1 + 1)), zz6, H', ⟨zz4⟩, ⟨zz46⟩⟩
          ·rw [if_neg c9] at H
           have c9b0 : (x8_1 == 0) = false := beq_eq_false_iff_ne.mpr c9
           have c9b1 : (x8_1 != 0) = true := bne_iff_ne.mpr c9
           obtain rfl := Option.some.inj H
           have hcz11_0 : wr.cell? ⟨gb177, 0, none⟩ = some (.int .i64 ((qe l0 x8_1).f0)) := (qg BK177.out 0).trans rfl
           have hcz11_1 : wr.cell? ⟨gb177, 1, none⟩ = some (.int .i64 ((qe l0 x8_1).f1)) := (qg BK177.out 1).trans rfl
           have hcz11_2 : wr.cell? ⟨gb177, 2, none⟩ = some (.string ((qe l0 x8_1).f2)) := (qg BK177.out 2).trans rfl
           have hcz11_3 : wr.cell? ⟨gb177, 3, none⟩ = some (.string ((qe l0 x8_1).f3)) := (qg BK177.out 3).trans rfl
           have hcz11_4 : wr.cell? ⟨gb177, 4, none⟩ = some (.string ((qe l0 x8_1).f4)) := (qg BK177.out 4).trans rfl
           have hcz11_5 : wr.cell? ⟨gb177, 5, none⟩ = some (.slice A176_5 ((qe l0 x8_1).f5).length c176_5) := (qg BK177.out 5).trans rfl
           have hfz11_0 := qf BK177.out 0
           have hfz11_1 := qf BK177.out 1
           have hfz11_2 := qf BK177.out 2
           have hfz11_3 := qf BK177.out 3
           have hfz11_4 := qf BK177.out 4
           have hfz11_5 := qf BK177.out 5
           go_wp2
           go_ret
           exact ⟨zz65, zz46⟩
         ·rw [if_neg c8] at H
          have c8b0 : (x5_2 == ((qe l0 x8_1).f1)) = false := beq_eq_false_iff_ne.mpr c8
          have c8b1 : (x5_2 != ((qe l0 x8_1).f1)) = true := bne_iff_ne.mpr c8
          obtain rfl := Option.some.inj H
          have hcz12_0 : wr.cell? ⟨gb177, 0, none⟩ = some (.int .i64 ((qe l0 x8_1).f0)) := (qg BK177.out 0).trans rfl
          have hcz12_1 : wr.cell? ⟨gb177, 1, none⟩ = some (.int .i64 ((qe l0 x8_1).f1)) := (qg BK177.out 1).trans rfl
          have hcz12_2 : wr.cell? ⟨gb177, 2, none⟩ = some (.string ((qe l0 x8_1).f2)) := (qg BK177.out 2).trans rfl
          have hcz12_3 : wr.cell? ⟨gb177, 3, none⟩ = some (.string ((qe l0 x8_1).f3)) := (qg BK177.out 3).trans rfl
          have hcz12_4 : wr.cell? ⟨gb177, 4, none⟩ = some (.string ((qe l0 x8_1).f4)) := (qg BK177.out 4).trans rfl
          have hcz12_5 : wr.cell? ⟨gb177, 5, none⟩ = some (.slice A176_5 ((qe l0 x8_1).f5).length c176_5) := (qg BK177.out 5).trans rfl
          have hfz12_0 := qf BK177.out 0
          have hfz12_1 := qf BK177.out 1
          have hfz12_2 := qf BK177.out 2
          have hfz12_3 := qf BK177.out 3
          have hfz12_4 := qf BK177.out 4
          have hfz12_5 := qf BK177.out 5
          go_wp2
          go_ret
          exact ⟨zz65, zz46⟩
        ·rw [if_neg c7] at H
         have c7b0 : (x5_2 == 0) = false := beq_eq_false_iff_ne.mpr c7
         have c7b1 : (x5_2 != 0) = true := bne_iff_ne.mpr c7
         by_cases c13 : x5_2 = ((qe l0 x8_1).f1)
         ·rw [if_pos c13] at H
          have c13b0 : (x5_2 == ((qe l0 x8_1).f1)) = true := beq_iff_eq.mpr c13
          have c13b1 : (x5_2 != ((qe l0 x8_1).f1)) = false := bne_eq_false_iff_eq.mpr c13
          clear c13
          by_cases c14 : x8_1 = 0
          ·rw [if_pos c14] at H
           have c14b0 : (x8_1 == 0) = true := beq_iff_eq.mpr c14
           have c14b1 : (x8_1 != 0) = false := bne_eq_false_iff_eq.mpr c14
           clear c14
           obtain rfl := Option.some.inj H
           have hcz15_0 : wr.cell? ⟨gb177, 0, none⟩ = some (.int .i64 ((qe l0 x8_1).f0)) := (qg BK177.out 0).trans rfl
           have hcz15_1 : wr.cell? ⟨gb177, 1, none⟩ = some (.int .i64 ((qe l0 x8_1).f1)) := (qg BK177.out 1).trans rfl
           have hcz15_2 : wr.cell? ⟨gb177, 2, none⟩ = some (.string ((qe l0 x8_1).f2)) := (qg BK177.out 2).trans rfl
           have hcz15_3 : wr.cell? ⟨gb177, 3, none⟩ = some (.string ((qe l0 x8_1).f3)) := (qg BK177.out 3).trans rfl
           have hcz15_4 : wr.cell? ⟨gb177, 4, none⟩ = some (.string ((qe l0 x8_1).f4)) := (qg BK177.out 4).trans rfl
           have hcz15_5 : wr.cell? ⟨gb177, 5, none⟩ = some (.slice A176_5 ((qe l0 x8_1).f5).length c176_5) := (qg BK177.out 5).trans rfl
           have hfz15_0 := qf BK177.out 0
           have hfz15_1 := qf BK177.out 1
           have hfz15_2 := qf BK177.out 2
           have hfz15_3 := qf BK177.out 3
           have hfz15_4 := qf BK177.out 4
           have hfz15_5 := qf BK177.out 5
           go_wp2
           go_ret
           exact ⟨zz65, zz46⟩
          ·rw [if_neg c14] at H
           have c14b0 : (x8_1 == 0) = false := beq_eq_false_iff_ne.mpr c14
           have c14b1 : (x8_1 != 0) = true := bne_iff_ne.mpr c14
           have H' := qa.mk H
           clear H
           have hcz16_0 : wr.cell? ⟨gb177, 0, none⟩ = some (.int .i64 ((qe l0 x8_1).f0)) := (qg BK177.out 0).trans rfl
           have hcz16_1 : wr.cell? ⟨gb177, 1, none⟩ = some (.int .i64 ((qe l0 x8_1).f1)) := (qg BK177.out 1).trans rfl
           have hcz16_2 : wr.cell? ⟨gb177, 2, none⟩ = some (.string ((qe l0 x8_1).f2)) := (qg BK177.out 2).trans rfl
           have hcz16_3 : wr.cell? ⟨gb177, 3, none⟩ = some (.string ((qe l0 x8_1).f3)) := (qg BK177.out 3).trans rfl
           have hcz16_4 : wr.cell? ⟨gb177, 4, none⟩ = some (.string ((qe l0 x8_1).f4)) := (qg BK177.out 4).trans rfl
           have hcz16_5 : wr.cell? ⟨gb177, 5, none⟩ = some (.slice A176_5 ((qe l0 x8_1).f5).length c176_5) := (qg BK177.out 5).trans rfl
           have hfz16_0 := qf BK177.out 0
           have hfz16_1 := qf BK177.out 1
           have hfz16_2 := qf BK177.out 2
           have hfz16_3 := qf BK177.out 3
           have hfz16_4 := qf BK177.out 4
           have hfz16_5 := qf BK177.out 5
           go_wp2
           go_roundg k2
           case measure => have := HK1.out; have := HK2.out; omega
           case rel => exact ⟨(wrap64 (x8_1 + 1)), zz6, H', ⟨zz4⟩, ⟨zz46⟩⟩
         ·rw [if_neg c13] at H
          have c13b0 : (x5_2 == ((qe l0 x8_1).f1)) = false := beq_eq_false_iff_ne.mpr c13
          have c13b1 : (x5_2 != ((qe l0 x8_1).f1)) = true := bne_iff_ne.mpr c13
          obtain ⟨ji17, hji17⟩ : ∃ j_ : Int, (wrap64 (x5_2 - 1)) = j_ := ⟨_, rfl⟩
          replace H : (if 0 ≤ (ji17) then (if (ji17) < (l0.length : Int) then (qdb.l1 k2 l0 x8_1 ((qe l0 (ji17)).f1) l0 (l0.length : Int) x8_1 ((qe l0 x8_1).f0) ((qe l0 x8_1).f1) ((qe l0 x8_1).f2) ((qe l0 x8_1).f3) ((qe l0 x8_1).f4) ((qe l0 x8_1).f5)) else (none)) else (none)) = some r := by first | (rw [hji17] at H; exact H) | (simp only [hji17] at H ⊢; exact H)
          have hji17w : (IntKind.i64.wrap (x5_2 - 1)) = ji17 := (i64_w _).trans hji17
          by_cases c18 : 0 ≤ (ji17)
          ·rw [if_pos c18] at H
           have c18b0 : decide (0 ≤ (ji17)) = true := decide_eq_true c18
           clear c18
           by_cases c19 : (ji17) < (l0.length : Int)
           ·rw [if_pos c19] at H
            have c19b0 : decide ((ji17) < (l0.length : Int)) = true := decide_eq_true c19
            clear c19
            have H' := qa.mk H
            clear H
            have hcz20_0 : wr.cell? ⟨gb177, 0, none⟩ = some (.int .i64 ((qe l0 x8_1).f0)) := (qg BK177.out 0).trans rfl
            have hcz20_1 : wr.cell? ⟨gb177, 1, none⟩ = some (.int .i64 ((qe l0 x8_1).f1)) := (qg BK177.out 1).trans rfl
            have hcz20_2 : wr.cell? ⟨gb177, 2, none⟩ = some (.string ((qe l0 x8_1).f2)) := (qg BK177.out 2).trans rfl
            have hcz20_3 : wr.cell? ⟨gb177, 3, none⟩ = some (.string ((qe l0 x8_1).f3)) := (qg BK177.out 3).trans rfl
            have hcz20_4 : wr.cell? ⟨gb177, 4, none⟩ = some (.string ((qe l0 x8_1).f4)) := (qg BK177.out 4).trans rfl
            have hcz20_5 : wr.cell? ⟨gb177, 5, none⟩ = some (.slice A176_5 ((qe l0 x8_1).f5).length c176_5) := (qg BK177.out 5).trans rfl
            have hfz20_0 := qf BK177.out 0
            have hfz20_1 := qf BK177.out 1
            have hfz20_2 := qf BK177.out 2
            have hfz20_3 := qf BK177.out 3
            have hfz20_4 := qf BK177.out 4
            have hfz20_5 := qf BK177.out 5
            have p178 : 0 ≤ ((ji17) : Int) := of_decide_eq_true zz7
            have q178 : (ji17) < (l0.length : Int) := of_decide_eq_true zz7
            obtain ⟨ad178, A178_5, c178_5, e178, hx178_0, hx178_1, hx178_2, hx178_3, hx178_4, hx178_5, hl178_5, hi178_5⟩ := at_T46 HR0.out (ji17) p178 q178
            obtain rfl : ad176 = ad178 := (by injection e178)
            replace hx178_0 := (HB.out.cell (qic w _ hx178_0)).trans hx178_0
            replace hx178_1 := (HB.out.cell (qic w _ hx178_1)).trans hx178_1
            replace hx178_2 := (HB.out.cell (qic w _ hx178_2)).trans hx178_2
            replace hx178_3 := (HB.out.cell (qic w _ hx178_3)).trans hx178_3
            replace hx178_4 := (HB.out.cell (qic w _ hx178_4)).trans hx178_4
            replace hx178_5 := (HB.out.cell (qic w _ hx178_5)).trans hx178_5
            have HR178_5 := qa.mk hi178_5
            have HC178_5 := qa.mk hl178_5
            clear hi178_5 hl178_5
            replace p178 := eq_true p178
            replace q178 := eq_true q178
            go_wp2
            go_roundg k2
            case measure => have := HK1.out; have := HK2.out; omega
            case rel => exact ⟨((qe l0 (ji17)).f1), (by first | rfl | (simp; done) | (simp only [← hji17] <;> (first | rfl | simp)) | (simp [*]; done)), H', ⟨zz4⟩, ⟨by (with_reducible repeat (first | refine qi ?_ _ | refine qk ?_ | refine qh ?_ _)); exact BK177.out⟩, ⟨zz46⟩⟩
           ·rw [if_neg c19] at H
            exact absurd H (by simp)
          ·rw [if_neg c18] at H
           exact absurd H (by simp)
     ·rw [if_neg c4] at H
      exact absurd H (by simp)
    ·rw [if_neg c3] at H
     exact absurd H (by simp)
   ·rw [if_neg c2] at H
    have c2b0 : decide (x8_1 < (l0.length : Int)) = false := decide_eq_false c2
    clear c2
    obtain rfl := Option.some.inj H
    go_wp2
    go_ret
    exact ⟨zz65, zz24⟩
def qsb.l0 : Nat → List (S46) → List Int → List (S46) → Int → Int → Option (Bool)
 | 0, _, _, _, _, _ => none
 | k + 1, x0, x3, x10, x11, x12 => if x12 < x11 then (if 0 ≤ x12 then (if x12 < (x10.length : Int) then (if 0 ≤ ((qe x10 x12).f1) then (if ((qe x10 x12).f1) < (x3.length : Int) then (if 0 ≤ (wrap64 (x12 + 1)) then (if (wrap64 (x12 + 1)) < (x3.length : Int) then ((some (x3.set ((wrap64 (x12 + 1)) : Int).toNat (wrap64 ((rd x3 ((qe x10 x12).f1)) + 1)) : List Int)).bind fun y185 => (if (rd y185 (wrap64 (x12 + 1))) > 64 then (some true) else (qsb.l0 k x0 y185 x10 x11 (wrap64 (x12 + 1))))) else (none)) else (none)) else (none)) else (none)) else (none)) else (none)) else (some (decide ((x0.length : Int) > 4096)))
def qsb.f (k : Nat) (l0 : List (S46)) : Option (Bool) := if 0 ≤ (wrap64 ((l0.length : Int) + 1)) then (if (wrap64 ((l0.length : Int) + 1) : Int).toNat ≤ 35184372088832 then (qsb.l0 k l0 (List.replicate (wrap64 ((l0.length : Int) + 1) : Int).toNat 0) l0 (l0.length : Int) 0) else (none)) else (none)
theorem qsb.mono_l : ∀ k, (∀ y0 y1 y2 y3 y4, LeO (qsb.l0 k y0 y1 y2 y3 y4) (qsb.l0 (k + 1) y0 y1 y2 y3 y4))
 | 0 => fun _ _ _ _ _ r h => by simp [qsb.l0] at h
 | k + 1 => by
  have ih0 := qsb.mono_l k
  ·intro y0 y1 y2 y3 y4
   unfold qsb.l0
   repeat' first
   | (with_reducible exact ih0 _ _ _ _ _)
   | (with_reducible exact LeO.refl _)
   | (with_reducible exact LeO.none _)
   | (with_reducible refine LeO.ite ?_ ?_)
   | (with_reducible refine LeO.bind ?_ (fun _ => ?_))
   | exact ih0 _ _ _ _ _
   | exact LeO.none _
   | refine LeO.ite ?_ ?_
   | refine LeO.bind ?_ (fun _ => ?_)
theorem qsb.mono : ∀ a0 k, LeO (qsb.f k a0) (qsb.f (k + 1) a0) := by
 intro a0 k
 have ih0 := qsb.mono_l k
 unfold qsb.f
 repeat' first
   | (with_reducible exact ih0 _ _ _ _ _)
   | (with_reducible exact LeO.refl _)
   | (with_reducible exact LeO.none _)
   | (with_reducible refine LeO.ite ?_ ?_)
   | (with_reducible refine LeO.bind ?_ (fun _ => ?_))
   | exact ih0 _ _ _ _ _
   | exact LeO.none _
   | refine LeO.ite ?_ ?_
   | refine LeO.bind ?_ (fun _ => ?_)
set_option maxHeartbeats 8000000 in
set_option maxRecDepth 100000 in
theorem qsb.calls (k : Nat) (A0 : Option Addr) (c0 : Nat) (l0 : List (S46)) (r : Bool) (w : World) (hr0 : Kd.C k46 w A0 l0.length l0) (hc0 : l0.length ≤ c0) (h : qsb.f k l0 = some r) :
  Calls Tryd.prog 50 #[.slice A0 l0.length c0] w fun e w' => e = .returned (.bool r) ∧ Below w.heap.size w w' := by
 have hu46 := Tryd.underlying46
 have HR0 := qa.mk hr0
 have HC0 := qa.mk hc0
 clear hr0 hc0
 have HB := qa.mk (Below.refl w.heap.size w)
 have H : (if 0 ≤ (wrap64 ((l0.length : Int) + 1)) then (if (wrap64 ((l0.length : Int) + 1) : Int).toNat ≤ 35184372088832 then (qsb.l0 k l0 (List.replicate (wrap64 ((l0.length : Int) + 1) : Int).toNat 0) l0 (l0.length : Int) 0) else (none)) else (none)) = some r := h
 clear h
 obtain ⟨ji2, hji2⟩ : ∃ j_ : Int, (wrap64 ((l0.length : Int) + 1)) = j_ := ⟨_, rfl⟩
 replace H : (if 0 ≤ (ji2) then (if (ji2 : Int).toNat ≤ 35184372088832 then (qsb.l0 k l0 (List.replicate (ji2 : Int).toNat 0) l0 (l0.length : Int) 0) else (none)) else (none)) = some r := by first | (rw [hji2] at H; exact H) | (simp only [hji2] at H ⊢; exact H)
 have hji2w : (IntKind.i64.wrap ((l0.length : Int) + 1)) = ji2 := (i64_w _).trans hji2
 by_cases c3 : 0 ≤ (ji2)
 ·rw [if_pos c3] at H
  have c3b0 := eq_true c3
  have c3b1 : decide (0 ≤ (ji2)) = true := decide_eq_true c3
  clear c3
  by_cases c4 : (ji2 : Int).toNat ≤ 35184372088832
  ·rw [if_pos c4] at H
   have c4b0 := eq_true c4
   have c4b1 : decide ((ji2 : Int).toNat ≤ 35184372088832) = true := decide_eq_true c4
   clear c4
   obtain ⟨y179, hy179⟩ : ∃ y_ : List Int, y_ = (List.replicate (ji2 : Int).toNat 0) := ⟨_, rfl⟩
   replace H : (qsb.l0 k l0 y179 l0 (l0.length : Int) 0) = some r := by first | (rw [hy179]; with_reducible exact H) | (have H2_ := (Option.bind_some _ _).symm.trans H; rw [hy179]; with_reducible exact H2_) | (have H2_ := (Option.bind_some _ _).symm.trans H; with_reducible exact H2_) | with_reducible exact H | (rw [hy179]; exact H) | exact H
   have Ny179 := qa.mk hy179
   clear hy179
   have H' := qa.mk H
   clear H
   go_enter Tryd.func50, Tryd.ntmps50
   go_wp2_with (first | ((with_reducible refine qeb (N := 9) rfl ?_); refine Kd.R_make (Kd.int .i64) _ 3 rfl (N := 9) rfl 37 _ _ rfl ji2 rfl rfl Tryd.underlying37 (.int .i64 0) 8 info3 rfl (by decide) (by omega) 0 (ok := fun _ => True) (okp := fun _ => True) rfl (fun _ hk => hk) trivial (of_decide_eq_true zz7) (Nat.le_trans (Nat.mul_le_mul_right _ (of_decide_eq_true zz7 : ji2.toNat ≤ 35184372088832)) (by omega)) (Below.refl _ _) (Nat.le_refl _) ?_; intro v180 w5 ho6 hb hg_ hnew_; clear hg_ hnew_; (first | rw [← Ny179.out] at ho6 | (simp only [Int.reduceToNat] at ho6; rw [← Ny179.out] at ho6)); have n0_ := qa.mk (Kd.R_lower ho6 (ql zz24)); have n1_ := qa.mk (qm zz24 hb); clear HB; have HO181 := n0_; have HB := n1_; clear n0_ n1_; clear hb ho6))
   go_loopg [12] k (fun kq v12 w' => ∃ (x3_1 : List Int) (x12_1 : Int), v12 = .int .i64 x12_1 ∧ qa (qsb.l0 kq l0 x3_1 l0 (l0.length : Int) x12_1 = some r) ∧ qa (kq ≤ k) ∧ qa (Kd.R (Kd.int .i64) 3 w' w.heap.size (fun _ => True) v180 x3_1) ∧ qa (Below w.heap.size w w'))
   case atStart => exact ⟨(y179), (0), zz6, H', ⟨Nat.le_refl _⟩, ⟨by (with_reducible repeat (first | apply Kd.R_alloc | apply Kd.R_drewN | apply Kd.R_drew)); exact HO181.out⟩, ⟨zz24⟩⟩
   case round =>
    clear H'
    try clear p2
    try clear c3
    try clear c3b0
    try clear c3b1
    try clear c4
    try clear c4b0
    try clear c4b1
    try clear c5
    try clear p6
    obtain ⟨x3_1, x12_1, rfl, HA, HK1, HO_3, HB⟩ := hrel
    cases gk with
    | zero => exact absurd HA.out (by simp [qsb.l0])
    | succ k1 =>
     have H := HA.out
     clear HA
     simp only [qsb.l0] at H
     by_cases c7 : x12_1 < (l0.length : Int)
     ·rw [if_pos c7] at H
      have c7b0 : decide (x12_1 < (l0.length : Int)) = true := decide_eq_true c7
      clear c7
      by_cases c8 : 0 ≤ x12_1
      ·rw [if_pos c8] at H
       have c8b0 : decide (0 ≤ x12_1) = true := decide_eq_true c8
       clear c8
       by_cases c9 : x12_1 < (l0.length : Int)
       ·rw [if_pos c9] at H
        have c9b0 : decide (x12_1 < (l0.length : Int)) = true := decide_eq_true c9
        clear c9
        by_cases c10 : 0 ≤ ((qe l0 x12_1).f1)
        ·rw [if_pos c10] at H
         have c10b0 : decide (0 ≤ ((qe l0 x12_1).f1)) = true := decide_eq_true c10
         clear c10
         by_cases c11 : ((qe l0 x12_1).f1) < (x3_1.length : Int)
         ·rw [if_pos c11] at H
          have c11b0 : decide (((qe l0 x12_1).f1) < (x3_1.length : Int)) = true := decide_eq_true c11
          clear c11
          obtain ⟨ji12, hji12⟩ : ∃ j_ : Int, (wrap64 (x12_1 + 1)) = j_ := ⟨_, rfl⟩
          replace H : (if 0 ≤ (ji12) then (if (ji12) < (x3_1.length : Int) then ((some (x3_1.set ((ji12) : Int).toNat (wrap64 ((rd x3_1 ((qe l0 x12_1).f1)) + 1)) : List Int)).bind fun y185 => (if (rd y185 (ji12)) > 64 then (some true) else (qsb.l0 k1 l0 y185 l0 (l0.length : Int) ji12))) else (none)) else (none)) = some r := by first | (rw [hji12] at H; exact H) | (simp only [hji12] at H ⊢; exact H)
          have hji12w : (IntKind.i64.wrap (x12_1 + 1)) = ji12 := (i64_w _).trans hji12
          by_cases c13 : 0 ≤ (ji12)
          ·rw [if_pos c13] at H
           have c13b0 : decide (0 ≤ (ji12)) = true := decide_eq_true c13
           clear c13
           by_cases c14 : (ji12) < (x3_1.length : Int)
           ·rw [if_pos c14] at H
            have c14b0 : decide ((ji12) < (x3_1.length : Int)) = true := decide_eq_true c14
            clear c14
            obtain ⟨y185, hy185⟩ : ∃ y_ : List Int, y_ = (x3_1.set ((ji12) : Int).toNat (wrap64 ((rd x3_1 ((qe l0 x12_1).f1)) + 1))) := ⟨_, rfl⟩
            replace H : (if (rd y185 (ji12)) > 64 then (some true) else (qsb.l0 k1 l0 y185 l0 (l0.length : Int) ji12)) = some r := by first | (rw [hy185]; with_reducible exact H) | (have H2_ := (Option.bind_some _ _).symm.trans H; rw [hy185]; with_reducible exact H2_) | (have H2_ := (Option.bind_some _ _).symm.trans H; with_reducible exact H2_) | with_reducible exact H | (rw [hy185]; exact H) | exact H
            have Ny185 := qa.mk hy185
            clear hy185
            by_cases c16 : (rd y185 (ji12)) > 64
            ·rw [if_pos c16] at H
             have c16b0 : decide (64 < (rd y185 (ji12))) = true := decide_eq_true c16
             clear c16
             obtain rfl := Option.some.inj H
             have p182 : 0 ≤ (x12_1 : Int) := of_decide_eq_true zz7
             have q182 : x12_1 < (l0.length : Int) := of_decide_eq_true zz7
             obtain ⟨ad182, A182_5, c182_5, e182, hx182_0, hx182_1, hx182_2, hx182_3, hx182_4, hx182_5, hl182_5, hi182_5⟩ := at_T46 HR0.out x12_1 p182 q182
             cases e182
             replace hx182_0 := (HB.out.cell (qic w _ hx182_0)).trans hx182_0
             replace hx182_1 := (HB.out.cell (qic w _ hx182_1)).trans hx182_1
             replace hx182_2 := (HB.out.cell (qic w _ hx182_2)).trans hx182_2
             replace hx182_3 := (HB.out.cell (qic w _ hx182_3)).trans hx182_3
             replace hx182_4 := (HB.out.cell (qic w _ hx182_4)).trans hx182_4
             replace hx182_5 := (HB.out.cell (qic w _ hx182_5)).trans hx182_5
             have HR182_5 := qa.mk hi182_5
             have HC182_5 := qa.mk hl182_5
             clear hi182_5 hl182_5
             replace p182 := eq_true p182
             replace q182 := eq_true q182
             go_wp2_with (first | ((with_reducible refine qeb (N := 5) rfl ?_); refine qib ?hg (N := 5) ?hd (cs := #[.int .i64 0, .int .i64 0, .string (⟨#[]⟩ : ByteArray), .string (⟨#[]⟩ : ByteArray), .string (⟨#[]⟩ : ByteArray), .slice none 0 0]) (t := 46) ?hr ?_; (case hd => rfl); (case hg => rfl); (case hr => exact zz5); intro gb183 hg w17 hbox hb; have n0_ := qa.mk (Kd.R_below zz29 hb); have n1_ := qa.mk (qm zz24 hb); have n2_ := qa.mk (hbox); have n3_ := qa.mk ((by rw [hg]; exact (ql zz24) : w.heap.size ≤ gb183)); have n4_ := qa.mk ((by rw [hg]; exact (ql zz24) : w.heap.size ≤ gb183)); clear HO_3; clear HB; have HO_3 := n0_; have HB := n1_; have BK183 := n2_; have GW183 := n3_; have GE183 := n4_; clear n0_ n1_ n2_ n3_ n4_; clear hb hbox hg; have hcz18_0 : w17.cell? ⟨gb183, 0, none⟩ = some (.int .i64 0) := (qg BK183.out 0).trans rfl; have hcz18_1 : w17.cell? ⟨gb183, 1, none⟩ = some (.int .i64 0) := (qg BK183.out 1).trans rfl; have hcz18_2 : w17.cell? ⟨gb183, 2, none⟩ = some (.string (⟨#[]⟩ : ByteArray)) := (qg BK183.out 2).trans rfl; have hcz18_3 : w17.cell? ⟨gb183, 3, none⟩ = some (.string (⟨#[]⟩ : ByteArray)) := (qg BK183.out 3).trans rfl; have hcz18_4 : w17.cell? ⟨gb183, 4, none⟩ = some (.string (⟨#[]⟩ : ByteArray)) := (qg BK183.out 4).trans rfl; have hcz18_5 : w17.cell? ⟨gb183, 5, none⟩ = some (.slice none 0 0) := (qg BK183.out 5).trans rfl; have hfz18_0 := qf BK183.out 0; have hfz18_1 := qf BK183.out 1; have hfz18_2 := qf BK183.out 2; have hfz18_3 := qf BK183.out 3; have hfz18_4 := qf BK183.out 4; have hfz18_5 := qf BK183.out 5) | ((with_reducible refine gate_store (t := 46) (p := 5) rfl ?_); refine store_event (t := 46) (p := 5) (v := ?vo_w19) (w1 := ((((((w17.setCell ⟨gb183, 0, none⟩ (.int .i64 ((qe l0 x12_1).f0))).setCell ⟨gb183, 1, none⟩ (.int .i64 ((qe l0 x12_1).f1))).setCell ⟨gb183, 2, none⟩ (.string ((qe l0 x12_1).f2))).setCell ⟨gb183, 3, none⟩ (.string ((qe l0 x12_1).f3))).setCell ⟨gb183, 4, none⟩ (.string ((qe l0 x12_1).f4))).setCell ⟨gb183, 5, none⟩ (.slice A182_5 ((qe l0 x12_1).f5).length c182_5))) ?hg ?ho ?hn ?hr ?_; (case ho => rfl); (case hg => rfl); (case hn => rfl); (case hr => exact zz5); intro w19 hw; have n0_ : qa (Kd.R (Kd.int .i64) 3 w19 w.heap.size (fun _ => True) v180 x3_1) := ⟨(by rw [hw]; exact zz114)⟩; have n1_ : qa (w19.heap[gb183]? = some (.cells #[.int .i64 ((qe l0 x12_1).f0), .int .i64 ((qe l0 x12_1).f1), .string ((qe l0 x12_1).f2), .string ((qe l0 x12_1).f3), .string ((qe l0 x12_1).f4), .slice A182_5 ((qe l0 x12_1).f5).length c182_5] 46 (0, 0))) := ⟨(by rw [hw]; exact zz126)⟩; have n2_ : qa (Below w.heap.size w w19) := ⟨(by rw [hw]; exact zz47)⟩; clear hw; clear HO_3; clear BK183; clear HB; have HO_3 := n0_; have BK183 := n1_; have HB := n2_; clear n0_ n1_ n2_; have hcz20_0 : w19.cell? ⟨gb183, 0, none⟩ = some (.int .i64 ((qe l0 x12_1).f0)) := (qg BK183.out 0).trans rfl; have hcz20_1 : w19.cell? ⟨gb183, 1, none⟩ = some (.int .i64 ((qe l0 x12_1).f1)) := (qg BK183.out 1).trans rfl; have hcz20_2 : w19.cell? ⟨gb183, 2, none⟩ = some (.string ((qe l0 x12_1).f2)) := (qg BK183.out 2).trans rfl; have hcz20_3 : w19.cell? ⟨gb183, 3, none⟩ = some (.string ((qe l0 x12_1).f3)) := (qg BK183.out 3).trans rfl; have hcz20_4 : w19.cell? ⟨gb183, 4, none⟩ = some (.string ((qe l0 x12_1).f4)) := (qg BK183.out 4).trans rfl; have hcz20_5 : w19.cell? ⟨gb183, 5, none⟩ = some (.slice A182_5 ((qe l0 x12_1).f5).length c182_5) := (qg BK183.out 5).trans rfl; have hfz20_0 := qf BK183.out 0; have hfz20_1 := qf BK183.out 1; have hfz20_2 := qf BK183.out 2; have hfz20_3 := qf BK183.out 3; have hfz20_4 := qf BK183.out 4; have hfz20_5 := qf BK183.out 5; obtain ⟨Ao21, co21, eo21⟩ := Kd.R_slice HO_3.out; subst eo21; have p184 : 0 ≤ (((qe l0 x12_1).f1) : Int) := of_decide_eq_true zz7; have q184 : ((qe l0 x12_1).f1) < (x3_1.length : Int) := of_decide_eq_true zz7; obtain ⟨ad184, e184, hx184_0⟩ := Kd.at_int (Kd.R_reads' HO_3.out).2.2 ((qe l0 x12_1).f1) p184 q184; cases e184; replace p184 := eq_true p184; replace q184 := eq_true q184; have p15 : 0 ≤ ((ji12) : Int) := of_decide_eq_true zz7; have q15 : ((ji12) : Int) < ((x3_1.length : Int) : Int) := of_decide_eq_true zz7; obtain ⟨go15, co15, eo15, gb15, gl15, cl15, HG15⟩ := Kd.R_form HO_3.out (by omega); (first | cases eo15 | (injection eo15 with ea_ en_ ec_; (first | subst ea_ | (injection ea_ with ea_; subst ea_)); subst ec_; clear en_)); have GB15 := qa.mk gb15; have GG15 := qa.mk HG15; clear gb15 gl15 HG15; (first | simp only [add_plain] at hx184_0 | skip); obtain ⟨hx15_0, hf15_0⟩ := Kd.R_celln 0 HO_3.out ((ji12) : Int) p15 q15; replace p15 := eq_true p15; replace q15 := eq_true q15; obtain ⟨hy22_, hz22_⟩ := Kd.R_celln 0 HO_3.out ((ji12) : Int) (of_decide_eq_true zz7) (of_decide_eq_true zz7); have HP22 := Kd.R_putg HO_3.out ((ji12) : Int) (wrap64 ((rd x3_1 ((qe l0 x12_1).f1)) + 1))) | ((with_reducible refine gate_store (t := 3) (p := 26) rfl ?_); refine store_event (t := 3) (p := 26) (v := ?vo_w23) (w1 := (w19.setCell ⟨go15, ((ji12) : Int).toNat, none⟩ (.int .i64 (wrap64 ((rd x3_1 ((qe l0 x12_1).f1)) + 1))))) ?hg ?ho ?hn ?hr ?_; (case ho => rfl); (case hg => rfl); (case hn => rfl); (case hr => exact zz5); intro w23 hw; have hg : w19.grownBy w23 (some go15) := (by rw [hw]; exact HP22.2); have hp_ : Kd.R (Kd.int .i64) 3 w23 w.heap.size (fun _ => True) (.slice (some ⟨go15, 0, none⟩) x3_1.length co21) y185 := (by rw [hw, Ny185.out]; exact HP22.1); clear HP22; have n0_ := qa.mk (hp_); have n1_ := qa.mk (blk_grown (g := gb183) (o := .cells #[.int .i64 ((qe l0 x12_1).f0), .int .i64 ((qe l0 x12_1).f1), .string ((qe l0 x12_1).f2), .string ((qe l0 x12_1).f3), .string ((qe l0 x12_1).f4), .slice A182_5 ((qe l0 x12_1).f5).length c182_5] 46 (0, 0)) (by (with_reducible repeat (first | refine qi ?_ _ | refine qk ?_ | refine qh ?_ _)); exact BK183.out) hg (Kd.R_ne HO_3.out BK183.out (by decide))); have n2_ := qa.mk ((by rw [hw]; exact qj (HB.out) GB15.out : Below w.heap.size w w23)); clear HO_3; clear BK183; clear HB; have HO_3 := n0_; have BK183 := n1_; have HB := n2_; clear n0_ n1_ n2_; clear hg hw hp_; have p186 : 0 ≤ ((ji12) : Int) := of_decide_eq_true zz7; have q186 : (ji12) < (y185.length : Int) := (by have h_ : ((ji12) : Int) < ((x3_1.length : Int) : Int) := of_decide_eq_true zz7; first | (have e_ := (Kd.R_reads' HO_3.out).1; omega) | simpa only [Ny185.out, List.length_set] using h_); have ql186 : (((ji12) : Int) < ((x3_1.length : Int) : Int)) = True := eq_true (of_decide_eq_true zz7); obtain ⟨ad186, e186, hx186_0⟩ := Kd.at_int (Kd.R_reads' HO_3.out).2.2 (ji12) p186 q186; obtain rfl : (⟨go15, 0, none⟩ : Addr) = ad186 := (by injection e186); (first | simp only [add_plain] at hx186_0 | simp only [add_at] at hx186_0 | simp only [Addr.add, Nat.zero_add] at hx186_0 | skip); replace p186 := eq_true p186; replace q186 := eq_true q186))
             go_ret
             exact ⟨zz103, zz47⟩
            ·rw [if_neg c16] at H
             have c16b0 : decide (64 < (rd y185 (ji12))) = false := decide_eq_false c16
             clear c16
             have H' := qa.mk H
             clear H
             have p182 : 0 ≤ (x12_1 : Int) := of_decide_eq_true zz7
             have q182 : x12_1 < (l0.length : Int) := of_decide_eq_true zz7
             obtain ⟨ad182, A182_5, c182_5, e182, hx182_0, hx182_1, hx182_2, hx182_3, hx182_4, hx182_5, hl182_5, hi182_5⟩ := at_T46 HR0.out x12_1 p182 q182
             cases e182
             replace hx182_0 := (HB.out.cell (qic w _ hx182_0)).trans hx182_0
             replace hx182_1 := (HB.out.cell (qic w _ hx182_1)).trans hx182_1
             replace hx182_2 := (HB.out.cell (qic w _ hx182_2)).trans hx182_2
             replace hx182_3 := (HB.out.cell (qic w _ hx182_3)).trans hx182_3
             replace hx182_4 := (HB.out.cell (qic w _ hx182_4)).trans hx182_4
             replace hx182_5 := (HB.out.cell (qic w _ hx182_5)).trans hx182_5
             have HR182_5 := qa.mk hi182_5
             have HC182_5 := qa.mk hl182_5
             clear hi182_5 hl182_5
             replace p182 := eq_true p182
             replace q182 := eq_true q182
             go_wp2_with (first | ((with_reducible refine qeb (N := 5) rfl ?_); refine qib ?hg (N := 5) ?hd (cs := #[.int .i64 0, .int .i64 0, .string (⟨#[]⟩ : ByteArray), .string (⟨#[]⟩ : ByteArray), .string (⟨#[]⟩ : ByteArray), .slice none 0 0]) (t := 46) ?hr ?_; (case hd => rfl); (case hg => rfl); (case hr => exact zz5); intro gb183 hg w24 hbox hb; have n0_ := qa.mk (Kd.R_below zz29 hb); have n1_ := qa.mk (qm zz24 hb); have n2_ := qa.mk (hbox); have n3_ := qa.mk ((by rw [hg]; exact (ql zz24) : w.heap.size ≤ gb183)); have n4_ := qa.mk ((by rw [hg]; exact (ql zz24) : w.heap.size ≤ gb183)); clear HO_3; clear HB; have HO_3 := n0_; have HB := n1_; have BK183 := n2_; have GW183 := n3_; have GE183 := n4_; clear n0_ n1_ n2_ n3_ n4_; clear hb hbox hg; have hcz25_0 : w24.cell? ⟨gb183, 0, none⟩ = some (.int .i64 0) := (qg BK183.out 0).trans rfl; have hcz25_1 : w24.cell? ⟨gb183, 1, none⟩ = some (.int .i64 0) := (qg BK183.out 1).trans rfl; have hcz25_2 : w24.cell? ⟨gb183, 2, none⟩ = some (.string (⟨#[]⟩ : ByteArray)) := (qg BK183.out 2).trans rfl; have hcz25_3 : w24.cell? ⟨gb183, 3, none⟩ = some (.string (⟨#[]⟩ : ByteArray)) := (qg BK183.out 3).trans rfl; have hcz25_4 : w24.cell? ⟨gb183, 4, none⟩ = some (.string (⟨#[]⟩ : ByteArray)) := (qg BK183.out 4).trans rfl; have hcz25_5 : w24.cell? ⟨gb183, 5, none⟩ = some (.slice none 0 0) := (qg BK183.out 5).trans rfl; have hfz25_0 := qf BK183.out 0; have hfz25_1 := qf BK183.out 1; have hfz25_2 := qf BK183.out 2; have hfz25_3 := qf BK183.out 3; have hfz25_4 := qf BK183.out 4; have hfz25_5 := qf BK183.out 5) | ((with_reducible refine gate_store (t := 46) (p := 5) rfl ?_); refine store_event (t := 46) (p := 5) (v := ?vo_w26) (w1 := ((((((w24.setCell ⟨gb183, 0, none⟩ (.int .i64 ((qe l0 x12_1).f0))).setCell ⟨gb183, 1, none⟩ (.int .i64 ((qe l0 x12_1).f1))).setCell ⟨gb183, 2, none⟩ (.string ((qe l0 x12_1).f2))).setCell ⟨gb183, 3, none⟩ (.string ((qe l0 x12_1).f3))).setCell ⟨gb183, 4, none⟩ (.string ((qe l0 x12_1).f4))).setCell ⟨gb183, 5, none⟩ (.slice A182_5 ((qe l0 x12_1).f5).length c182_5))) ?hg ?ho ?hn ?hr ?_; (case ho => rfl); (case hg => rfl); (case hn => rfl); (case hr => exact zz5); intro w26 hw; have n0_ : qa (Kd.R (Kd.int .i64) 3 w26 w.heap.size (fun _ => True) v180 x3_1) := ⟨(by rw [hw]; exact zz114)⟩; have n1_ : qa (w26.heap[gb183]? = some (.cells #[.int .i64 ((qe l0 x12_1).f0), .int .i64 ((qe l0 x12_1).f1), .string ((qe l0 x12_1).f2), .string ((qe l0 x12_1).f3), .string ((qe l0 x12_1).f4), .slice A182_5 ((qe l0 x12_1).f5).length c182_5] 46 (0, 0))) := ⟨(by rw [hw]; exact zz126)⟩; have n2_ : qa (Below w.heap.size w w26) := ⟨(by rw [hw]; exact zz47)⟩; clear hw; clear HO_3; clear BK183; clear HB; have HO_3 := n0_; have BK183 := n1_; have HB := n2_; clear n0_ n1_ n2_; have hcz27_0 : w26.cell? ⟨gb183, 0, none⟩ = some (.int .i64 ((qe l0 x12_1).f0)) := (qg BK183.out 0).trans rfl; have hcz27_1 : w26.cell? ⟨gb183, 1, none⟩ = some (.int .i64 ((qe l0 x12_1).f1)) := (qg BK183.out 1).trans rfl; have hcz27_2 : w26.cell? ⟨gb183, 2, none⟩ = some (.string ((qe l0 x12_1).f2)) := (qg BK183.out 2).trans rfl; have hcz27_3 : w26.cell? ⟨gb183, 3, none⟩ = some (.string ((qe l0 x12_1).f3)) := (qg BK183.out 3).trans rfl; have hcz27_4 : w26.cell? ⟨gb183, 4, none⟩ = some (.string ((qe l0 x12_1).f4)) := (qg BK183.out 4).trans rfl; have hcz27_5 : w26.cell? ⟨gb183, 5, none⟩ = some (.slice A182_5 ((qe l0 x12_1).f5).length c182_5) := (qg BK183.out 5).trans rfl; have hfz27_0 := qf BK183.out 0; have hfz27_1 := qf BK183.out 1; have hfz27_2 := qf BK183.out 2; have hfz27_3 := qf BK183.out 3; have hfz27_4 := qf BK183.out 4; have hfz27_5 := qf BK183.out 5; obtain ⟨Ao28, co28, eo28⟩ := Kd.R_slice HO_3.out; subst eo28; have p184 : 0 ≤ (((qe l0 x12_1).f1) : Int) := of_decide_eq_true zz7; have q184 : ((qe l0 x12_1).f1) < (x3_1.length : Int) := of_decide_eq_true zz7; obtain ⟨ad184, e184, hx184_0⟩ := Kd.at_int (Kd.R_reads' HO_3.out).2.2 ((qe l0 x12_1).f1) p184 q184; cases e184; replace p184 := eq_true p184; replace q184 := eq_true q184; have p15 : 0 ≤ ((ji12) : Int) := of_decide_eq_true zz7; have q15 : ((ji12) : Int) < ((x3_1.length : Int) : Int) := of_decide_eq_true zz7; obtain ⟨go15, co15, eo15, gb15, gl15, cl15, HG15⟩ := Kd.R_form HO_3.out (by omega); (first | cases eo15 | (injection eo15 with ea_ en_ ec_; (first | subst ea_ | (injection ea_ with ea_; subst ea_)); subst ec_; clear en_)); have GB15 := qa.mk gb15; have GG15 := qa.mk HG15; clear gb15 gl15 HG15; (first | simp only [add_plain] at hx184_0 | skip); obtain ⟨hx15_0, hf15_0⟩ := Kd.R_celln 0 HO_3.out ((ji12) : Int) p15 q15; replace p15 := eq_true p15; replace q15 := eq_true q15; obtain ⟨hy29_, hz29_⟩ := Kd.R_celln 0 HO_3.out ((ji12) : Int) (of_decide_eq_true zz7) (of_decide_eq_true zz7); have HP29 := Kd.R_putg HO_3.out ((ji12) : Int) (wrap64 ((rd x3_1 ((qe l0 x12_1).f1)) + 1))) | ((with_reducible refine gate_store (t := 3) (p := 26) rfl ?_); refine store_event (t := 3) (p := 26) (v := ?vo_w30) (w1 := (w26.setCell ⟨go15, ((ji12) : Int).toNat, none⟩ (.int .i64 (wrap64 ((rd x3_1 ((qe l0 x12_1).f1)) + 1))))) ?hg ?ho ?hn ?hr ?_; (case ho => rfl); (case hg => rfl); (case hn => rfl); (case hr => exact zz5); intro w30 hw; have hg : w26.grownBy w30 (some go15) := (by rw [hw]; exact HP29.2); have hp_ : Kd.R (Kd.int .i64) 3 w30 w.heap.size (fun _ => True) (.slice (some ⟨go15, 0, none⟩) x3_1.length co28) y185 := (by rw [hw, Ny185.out]; exact HP29.1); clear HP29; have n0_ := qa.mk (hp_); have n1_ := qa.mk (blk_grown (g := gb183) (o := .cells #[.int .i64 ((qe l0 x12_1).f0), .int .i64 ((qe l0 x12_1).f1), .string ((qe l0 x12_1).f2), .string ((qe l0 x12_1).f3), .string ((qe l0 x12_1).f4), .slice A182_5 ((qe l0 x12_1).f5).length c182_5] 46 (0, 0)) (by (with_reducible repeat (first | refine qi ?_ _ | refine qk ?_ | refine qh ?_ _)); exact BK183.out) hg (Kd.R_ne HO_3.out BK183.out (by decide))); have n2_ := qa.mk ((by rw [hw]; exact qj (HB.out) GB15.out : Below w.heap.size w w30)); clear HO_3; clear BK183; clear HB; have HO_3 := n0_; have BK183 := n1_; have HB := n2_; clear n0_ n1_ n2_; clear hg hw hp_; have p186 : 0 ≤ ((ji12) : Int) := of_decide_eq_true zz7; have q186 : (ji12) < (y185.length : Int) := (by have h_ : ((ji12) : Int) < ((x3_1.length : Int) : Int) := of_decide_eq_true zz7; first | (have e_ := (Kd.R_reads' HO_3.out).1; omega) | simpa only [Ny185.out, List.length_set] using h_); have ql186 : (((ji12) : Int) < ((x3_1.length : Int) : Int)) = True := eq_true (of_decide_eq_true zz7); obtain ⟨ad186, e186, hx186_0⟩ := Kd.at_int (Kd.R_reads' HO_3.out).2.2 (ji12) p186 q186; obtain rfl : (⟨go15, 0, none⟩ : Addr) = ad186 := (by injection e186); (first | simp only [add_plain] at hx186_0 | simp only [add_at] at hx186_0 | simp only [Addr.add, Nat.zero_add] at hx186_0 | skip); replace p186 := eq_true p186; replace q186 := eq_true q186))
             go_roundg k1
             case measure => have := HK1.out; omega
             case rel => exact ⟨(y185), (ji12), (by first | rfl | (simp; done) | (simp only [← hji12] <;> (first | rfl | simp)) | (simp [*]; done)), H', ⟨zz1⟩, ⟨zz29⟩, ⟨zz47⟩⟩
           ·rw [if_neg c14] at H
            exact absurd H (by simp)
          ·rw [if_neg c13] at H
           exact absurd H (by simp)
         ·rw [if_neg c11] at H
          exact absurd H (by simp)
        ·rw [if_neg c10] at H
         exact absurd H (by simp)
       ·rw [if_neg c9] at H
        exact absurd H (by simp)
      ·rw [if_neg c8] at H
       exact absurd H (by simp)
     ·rw [if_neg c7] at H
      have c7b0 : decide (x12_1 < (l0.length : Int)) = false := decide_eq_false c7
      clear c7
      obtain rfl := Option.some.inj H
      go_wp2
      go_ret
      exact ⟨zz100, zz24⟩
  ·rw [if_neg c4] at H
   exact absurd H (by simp)
 ·rw [if_neg c3] at H
  exact absurd H (by simp)
end Go.Proofs.YtjbobecnlpiejaaDoor.Q
