import Derived.Test.YtjbobecnlpiejaaDoorSR0
import Derived.Test.YtjbobecnlpiejaaDoorProg
import Derived.Below
import Derived.Deep.Draws
import Derived.Deep.AppendLies
import Derived.Maps.AppendAt
import Derived.OwnWalk
import Derived.Laws.BytesArg
import Derived.Laws.MakeOwn
import Derived.Laws.OwnMore
import Derived.Deep.OwnRows
import Derived.Tactics
import Derived.Lib.ConvBytes
import Derived.Laws.Slices
import Derived.WalkKit
import Derived.KernelRfl
import Derived.RowKit3
import Derived.Deep.LoopGhost
import Derived.Deep.QuietTactic
import Derived.BigQuiet
import Derived.WideLaws
import Derived.Deep.DeepCutAuto
import Derived.Deep.CutBlock
import Derived.Deep.RegionHeld3
import Derived.Laws.Rows
import Derived.Lib.AppendStr
import Derived.ArgAppend
import Derived.Laws.IdiomCopy
import Derived.OrdersHeld
import Derived.Laws.BitsLemmas
import Derived.RowKit
import Derived.Lib.LaidTab
import Derived.WalkSmall
import Derived.Lib.Hide
import Derived.Laws.Cover1
import Derived.WalkSpells
import Derived.Lib.AppendIntMem
import Derived.Lib.IndexAny
import Derived.Lib.IndexLaws
import Derived.Lib.DecodeN
import Derived.Lib.OthersKept
import Derived.Deep.RegionLaw
import Derived.Shelf.Strings.Builder1
import Derived.Shelf.Small.Strs
import Derived.Shelf.Small.Wraps
import Derived.Shelf.Strings.BuilderF
import Derived.Shelf.Strings.BuilderK
import Derived.Shelf.Strconv.Atoi
import Derived.Shelf.Strconv.Itoa0
import Derived.Shelf.Strconv.Itoa1
import Derived.Shelf.LaysM
import Derived.Shelf.Strconv.Itoa2
import Derived.Shelf.Strconv.Itoa3
import Derived.Shelf.Strconv.AtoiErrFast
import Derived.Shelf.Strconv.ParseIntEmpty
import Derived.Shelf.Strconv.AtoiFail
import Derived.Shelf.Strconv.Clone
import Derived.Shelf.Strconv.SyntaxError
import Derived.Shelf.LaysC
import Derived.Shelf.Strconv.ToError
import Derived.Shelf.Strconv.Lower
import Derived.Shelf.Strconv.ParseUint10
import Derived.Shelf.Strconv.ParseUint10Empty
import Derived.Shelf.Strconv.ParseUint10Any
import Derived.Shelf.Strconv.ParseInt10
import Derived.Shelf.Strconv.AtoiLong
import Derived.Shelf.Strconv.AtoiInnerAll
import Derived.Shelf.Strconv.RangeError
import Derived.Shelf.Strconv.ToErrorRange
import Derived.Shelf.Strconv.AtoiAll
import Derived.Shelf.Strconv.ErrVarAll
import Derived.Shelf.Strings.Search1
import Derived.Shelf.Strings.Prefix
import Derived.Ground.SlgnProg
import Derived.Shelf.SlicesE.Clone
import Derived.ProofKit
import Derived.OpenShut
import Derived.ChangeOld
import Derived.SizedLaws
import Derived.Carry
import Derived.LaidMore
import Derived.Stop.LaidErr
import Derived.Deep.Slices
import Derived.MakeChecks
import Derived.Test.YtjbobecnlpiejaaDoorRows
import Derived.ShutString
set_option linter.unusedVariables false
set_option linter.unusedSimpArgs false
namespace Go.Proofs.YtjbobecnlpiejaaDoorZ
open Go.RowKit
theorem zz0 {p : Prop} (h : p := by rw [← qnc]; omega) : p := h
theorem zz1 {p : Prop} (h : p := by dsimp only; omega) : p := h
theorem zz2 {p : Prop} (h : p := by have := HK1.out; omega) : p := h
theorem zz3 {p : Prop} (h : p := by first | omega | exact Nat.le_refl _) : p := h
theorem zz4 {p : Prop} (h : p := by have := HK1.out; have := HK2.out; omega) : p := h
theorem zz5 {p : Prop} (h : p := by have := HJ2.out; have := HK2.out; omega) : p := h
theorem zz6 {p : Prop} (h : p := by first | (go_simp; done) | (go_simp; rfl)) : p := h
theorem zz7 {p : Prop} (h : p := by first | rfl | (simp; done) | (simp [*]; done)) : p := h
theorem zz8 {p : Prop} (h : p := by rw [← qqc _ _ 1 (by omega)]; exact hc 1 _ rfl) : p := h
theorem zz9 {p : Prop} (h : p := by rw [← qqc _ _ 2 (by omega)]; exact hc 2 _ rfl) : p := h
theorem zz10 {p : Prop} (h : p := by rw [← qqc _ _ 3 (by omega)]; exact hc 3 _ rfl) : p := h
theorem zz11 {p : Prop} (h : p := by rw [← qqc _ _ 4 (by omega)]; exact hc 4 _ rfl) : p := h
theorem zz12 {p : Prop} (h : p := by first | (with_reducible assumption) | assumption) : p := h
theorem zz13 {p : Prop} (h : p := by have := HK1.out; first | omega | exact Nat.le_refl _) : p := h
theorem zz14 {p : Prop} (h : p := by repeat (first | exact Drawn0.refl _ | apply Drawn0.step)) : p := h
theorem zz15 {p : Prop} (h : p := by have := qwc _ _ hw324_0; first | rwa [qe] at this | exact this) : p := h
theorem zz16 {p : Prop} (h : p := by have := qwc _ _ hw324_1; first | rwa [qe] at this | exact this) : p := h
theorem zz17 {p : Prop} (h : p := by have := qwc _ _ hw324_2; first | rwa [qe] at this | exact this) : p := h
theorem zz18 {p : Prop} (h : p := by have := qwc _ _ hw324_3; first | rwa [qe] at this | exact this) : p := h
theorem zz19 {p : Prop} (h : p := by have := qwc _ _ hw324_4; first | rwa [qe] at this | exact this) : p := h
theorem zz20 {p : Prop} (h : p := by have := qwc _ _ hw325_0; first | rwa [qe] at this | exact this) : p := h
theorem zz21 {p : Prop} (h : p := by have := qwc _ _ hw325_1; first | rwa [qe] at this | exact this) : p := h
theorem zz22 {p : Prop} (h : p := by have := qwc _ _ hw325_2; first | rwa [qe] at this | exact this) : p := h
theorem zz23 {p : Prop} (h : p := by have := qwc _ _ hw325_3; first | rwa [qe] at this | exact this) : p := h
theorem zz24 {p : Prop} (h : p := by have := qwc _ _ hw325_4; first | rwa [qe] at this | exact this) : p := h
theorem zz25 {p : Prop} (h : p := by have := qwc _ _ hw326_0; first | rwa [qe] at this | exact this) : p := h
theorem zz26 {p : Prop} (h : p := by have := qwc _ _ hw326_1; first | rwa [qe] at this | exact this) : p := h
theorem zz27 {p : Prop} (h : p := by have := qwc _ _ hw326_2; first | rwa [qe] at this | exact this) : p := h
theorem zz28 {p : Prop} (h : p := by have := qwc _ _ hw326_3; first | rwa [qe] at this | exact this) : p := h
theorem zz29 {p : Prop} (h : p := by have := qwc _ _ hw326_4; first | rwa [qe] at this | exact this) : p := h
theorem zz30 {p : Prop} (h : p := by have := qwc _ _ hw327_0; first | rwa [qe] at this | exact this) : p := h
theorem zz31 {p : Prop} (h : p := by have := qwc _ _ hw327_1; first | rwa [qe] at this | exact this) : p := h
theorem zz32 {p : Prop} (h : p := by have := qwc _ _ hw327_2; first | rwa [qe] at this | exact this) : p := h
theorem zz33 {p : Prop} (h : p := by have := qwc _ _ hw327_3; first | rwa [qe] at this | exact this) : p := h
theorem zz34 {p : Prop} (h : p := by have := qwc _ _ hw327_4; first | rwa [qe] at this | exact this) : p := h
theorem zz35 {p : Prop} (h : p := by have := qwc _ _ hx329_0; first | rwa [qe] at this | exact this) : p := h
theorem zz36 {p : Prop} (h : p := by repeat (first | exact HB5.out | apply Below.drew | apply below_drewN)) : p := h
theorem zz37 {p : Prop} (h : p := by have := HJ1.out; have := HK2.out; first | omega | exact Nat.le_refl _) : p := h
theorem zz38 {p : Prop} (h : p := by repeat (first | exact Below.refl _ _ | apply qb | apply qd | apply qc)) : p := h
theorem zz39 {p : Prop} (h : p := by have := HJ1.out; have := HK2.out; have := HJ9.out; have := HK4.out; omega) : p := h
theorem zz40 {p : Prop} (h : p := by rw [List.length_append]; simp only [List.length_cons, List.length_nil]; omega) : p := h
theorem zz41 {p : Prop} (h : p := by exact (HX _ zz38).out) : p := h
theorem zz42 {p : Prop} (h : p := by have := HK1.out; have := HJ4.out; have := HJ12.out; have := HJ17.out; have := HK5.out; omega) : p := h
theorem zz43 {p : Prop} (h : p := by (with_reducible repeat (first | refine qk ?_ _ | refine ql ?_ | refine qj ?_ _)); exact BK191.out) : p := h
theorem zz44 {p : Prop} (h : p := by (with_reducible repeat (first | refine qk ?_ _ | refine ql ?_ | refine qj ?_ _)); exact BK205.out) : p := h
theorem zz45 {p : Prop} (h : p := by (with_reducible repeat (first | refine qk ?_ _ | refine ql ?_ | refine qj ?_ _)); exact BK207.out) : p := h
theorem zz46 {p : Prop} (h : p := by (with_reducible repeat (first | refine qk ?_ _ | refine ql ?_ | refine qj ?_ _)); exact BK211.out) : p := h
theorem zz47 {p : Prop} (h : p := by (with_reducible repeat (first | refine qk ?_ _ | refine ql ?_ | refine qj ?_ _)); exact BK213.out) : p := h
theorem zz48 {p : Prop} (h : p := by (with_reducible repeat (first | refine qk ?_ _ | refine ql ?_ | refine qj ?_ _)); exact BK239.out) : p := h
theorem zz49 {p : Prop} (h : p := by (with_reducible repeat (first | refine qk ?_ _ | refine ql ?_ | refine qj ?_ _)); exact BK244.out) : p := h
theorem zz50 {p : Prop} (h : p := by (with_reducible repeat (first | refine qk ?_ _ | refine ql ?_ | refine qj ?_ _)); exact BK328.out) : p := h
theorem zz51 {p : Prop} (h : p := by (with_reducible repeat (first | refine qk ?_ _ | refine ql ?_ | refine qj ?_ _)); exact BK342.out) : p := h
theorem zz52 {p : Prop} (h : p := by (with_reducible repeat (first | refine qk ?_ _ | refine ql ?_ | refine qj ?_ _)); exact BK361.out) : p := h
theorem zz53 {p : Prop} (h : p := by repeat (first | (with_reducible first | exact HB.out | apply qc | apply qb | apply qd) | exact HB.out)) : p := h
theorem zz54 {p : Prop} (h : p := by (with_reducible repeat (first | apply Kd.V_alloc | apply Kd.V_drewN | apply Kd.V_drew)); exact HO0.out) : p := h
theorem zz55 {p : Prop} (h : p := by (with_reducible repeat (first | apply Kd.N_alloc | apply Kd.N_drewN | apply Kd.N_drew)); exact HO_5.out) : p := h
theorem zz56 {p : Prop} (h : p := by (with_reducible repeat (first | apply Kd.R_alloc | apply Kd.R_drewN | apply Kd.R_drew)); exact HO_3.out) : p := h
theorem zz57 {p : Prop} (h : p := by (with_reducible repeat (first | apply Kd.V_alloc | apply Kd.V_drewN | apply Kd.V_drew)); exact HO_0.out) : p := h
theorem zz58 {p : Prop} (h : p := by (with_reducible repeat (first | apply Kd.R_alloc | apply Kd.R_drewN | apply Kd.R_drew)); exact HO_5.out) : p := h
theorem zz59 {p : Prop} (h : p := by (with_reducible repeat (first | apply Kd.S_alloc | apply Kd.S_drewN | apply Kd.S_drew)); exact HO_3.out) : p := h
theorem zz60 {p : Prop} (h : p := by (with_reducible repeat (first | apply Kd.V_alloc | apply Kd.V_drewN | apply Kd.V_drew)); exact HO_10.out) : p := h
theorem zz61 {p : Prop} (h : p := by (with_reducible repeat (first | apply Kd.R_alloc | apply Kd.R_drewN | apply Kd.R_drew)); exact HO210.out) : p := h
theorem zz62 {p : Prop} (h : p := by (with_reducible repeat (first | apply Kd.S_alloc | apply Kd.S_drewN | apply Kd.S_drew)); exact HO_19.out) : p := h
theorem zz63 {p : Prop} (h : p := by (with_reducible repeat (first | apply Kd.N_alloc | apply Kd.N_drewN | apply Kd.N_drew)); exact HO301.out) : p := h
theorem zz64 {p : Prop} (h : p := by (with_reducible repeat (first | apply Kd.N_alloc | apply Kd.N_drewN | apply Kd.N_drew)); exact HO308.out) : p := h
theorem zz65 {p : Prop} (h : p := by (with_reducible repeat (first | apply Kd.R_alloc | apply Kd.R_drewN | apply Kd.R_drew)); exact HO313.out) : p := h
theorem zz66 {p : Prop} (h : p := by (with_reducible repeat (first | apply Kd.V_alloc | apply Kd.V_drewN | apply Kd.V_drew)); exact HL190_5.out) : p := h
theorem zz67 {p : Prop} (h : p := by first | (rw [qe]; exact hn231_0) | (show (Addr.add _ _).block ≠ _; rw [qe]; exact hn231_0) | exact hn231_0) : p := h
theorem zz68 {p : Prop} (h : p := by first | (rw [qe]; exact hn231_1) | (show (Addr.add _ _).block ≠ _; rw [qe]; exact hn231_1) | exact hn231_1) : p := h
theorem zz69 {p : Prop} (h : p := by first | (rw [qe]; exact hn329_0) | (show (Addr.add _ _).block ≠ _; rw [qe]; exact hn329_0) | exact hn329_0) : p := h
theorem zz70 {p : Prop} (h : p := by first | (rw [qe]; exact hn329_1) | (show (Addr.add _ _).block ≠ _; rw [qe]; exact hn329_1) | exact hn329_1) : p := h
theorem zz71 {p : Prop} (h : p := by first | (rw [qe]; exact hn329_2) | (show (Addr.add _ _).block ≠ _; rw [qe]; exact hn329_2) | exact hn329_2) : p := h
theorem zz72 {p : Prop} (h : p := by first | (rw [qe]; exact hn329_3) | (show (Addr.add _ _).block ≠ _; rw [qe]; exact hn329_3) | exact hn329_3) : p := h
theorem zz73 {p : Prop} (h : p := by first | (rw [qe]; exact hn329_4) | (show (Addr.add _ _).block ≠ _; rw [qe]; exact hn329_4) | exact hn329_4) : p := h
theorem zz74 {p : Prop} (h : p := by (with_reducible repeat (first | apply Kd.R_alloc | apply Kd.R_drewN | apply Kd.R_drew)); exact HO_212003.out) : p := h
theorem zz75 {p : Prop} (h : p := by (with_reducible repeat (first | apply Kd.R_alloc | apply Kd.R_drewN | apply Kd.R_drew)); exact HO_212004.out) : p := h
theorem zz76 {p : Prop} (h : p := by repeat (first | (with_reducible first | exact HB.out | apply qc | apply qb | apply qd | refine qm ?_ GE177.out) | exact HB.out)) : p := h
theorem zz77 {p : Prop} (h : p := by repeat (first | (with_reducible first | exact HB.out | apply qc | apply qb | apply qd | refine qm ?_ GE183.out) | exact HB.out)) : p := h
theorem zz78 {p : Prop} (h : p := by repeat (first | (with_reducible first | exact HB.out | apply qc | apply qb | apply qd | refine qm ?_ GE191.out) | exact HB.out)) : p := h
theorem zz79 {p : Prop} (h : p := by repeat (first | (with_reducible first | exact HB.out | apply qc | apply qb | apply qd | refine qm ?_ GE205.out) | exact HB.out)) : p := h
theorem zz80 {p : Prop} (h : p := by repeat (first | (with_reducible first | exact HB.out | apply qc | apply qb | apply qd | refine qm ?_ GE228.out) | exact HB.out)) : p := h
theorem zz81 {p : Prop} (h : p := by repeat (first | (with_reducible first | exact HB.out | apply qc | apply qb | apply qd | refine qm ?_ GE233.out) | exact HB.out)) : p := h
theorem zz82 {p : Prop} (h : p := by repeat (first | (with_reducible first | exact HB.out | apply qc | apply qb | apply qd | refine qm ?_ GE239.out) | exact HB.out)) : p := h
theorem zz83 {p : Prop} (h : p := by repeat (first | (with_reducible first | exact HB.out | apply qc | apply qb | apply qd | refine qm ?_ GE244.out) | exact HB.out)) : p := h
theorem zz84 {p : Prop} (h : p := by repeat (first | (with_reducible first | exact HB.out | apply qc | apply qb | apply qd | refine qm ?_ GE275.out) | exact HB.out)) : p := h
theorem zz85 {p : Prop} (h : p := by repeat (first | (with_reducible first | exact HB.out | apply qc | apply qb | apply qd | refine qm ?_ GE122.out) | exact HB.out)) : p := h
theorem zz86 {p : Prop} (h : p := by repeat (first | (with_reducible first | exact HB.out | apply qc | apply qb | apply qd | refine qm ?_ GE127.out) | exact HB.out)) : p := h
theorem zz87 {p : Prop} (h : p := by repeat (first | (with_reducible first | exact HB.out | apply qc | apply qb | apply qd | refine qm ?_ GE328.out) | exact HB.out)) : p := h
theorem zz88 {p : Prop} (h : p := by repeat (first | (with_reducible first | exact HB.out | apply qc | apply qb | apply qd | refine qm ?_ GE342.out) | exact HB.out)) : p := h
theorem zz89 {p : Prop} (h : p := by repeat (first | (with_reducible first | exact HB.out | apply qc | apply qb | apply qd | refine qm ?_ GE361.out) | exact HB.out)) : p := h
theorem zz90 {p : Prop} (h : p := by exact Glob.below HG.out zz53) : p := h
theorem zz91 {p : Prop} (h : p := by (with_reducible repeat (first | apply Kd.N_alloc | apply Kd.N_drewN | apply Kd.N_drew)); exact Kd.N_mono HO_5.out (fun _ hk => hk.1)) : p := h
theorem zz92 {p : Prop} (h : p := by repeat (first | (with_reducible first | exact HB.out | apply qc | apply qb | apply qd | refine qm ?_ (IsS55.ge HI0.out)) | exact HB.out)) : p := h
theorem zz93 {p : Prop} (h : p := by repeat (first | (with_reducible first | exact HB.out | apply qc | apply qb | apply qd | refine qm ?_ (IsS55.ge HI129.out)) | exact HB.out)) : p := h
theorem zz94 {p : Prop} (h : p := by (try simp only [List.map_toArray, List.map_cons, List.map_nil]); first | done | rfl | (simp only [List.length_drop, List.length_take]; rfl)) : p := h
theorem zz95 {p : Prop} (h : p := by first | exact Kd.S_nil _ _ _ _ _ | exact Kd.N_nil _ _ _ _ _ | exact Kd.V_nil _ _ _ _ _ | exact Kd.Q_nil _ _ _ _ _ | exact Kd.R_nil _ _ _ _ _) : p := h
theorem zz96 {p : Prop} (h : p := by first | exact Kd.R_nil _ _ _ _ _ | exact Kd.N_nil _ _ _ _ _ | exact Kd.V_nil _ _ _ _ _ | exact Kd.Q_nil _ _ _ _ _ | exact Kd.S_nil _ _ _ _ _) : p := h
theorem zz97 {p : Prop} (h : p := by first | exact q296 | exact of_decide_eq_true zz12 | (have e_ := (Kd.S_reads' HO_7.out).1; omega)) : p := h
theorem zz98 {p : Prop} (h : p := by repeat (first | (with_reducible first | exact HK.out | apply KeepBut.set_ | apply keep_drewN | apply keep_drew | apply keep_alloc) | exact HK.out)) : p := h
theorem zz99 {p : Prop} (h : p := by first | exact q190 | exact of_decide_eq_true zz12 | (have e_ := (Kd.V_reads' HO_10.out).1; omega)) : p := h
theorem zz100 {p : Prop} (h : p := by first | exact q284 | exact of_decide_eq_true zz12 | (have e_ := (Kd.S_reads' HO_19.out).1; omega)) : p := h
theorem zz103 {p : Prop} (h : p := by first | rfl | (simp [qr, qt] <;> rfl) | (simp [*, qr, qt] <;> rfl) | (congr 2; simp only [bne]; generalize ByteArray.toList _ = z_; cases z_ <;> rfl)) : p := h
theorem zz104 {p : Prop} (h : p := by (with_reducible repeat (first | apply Kd.V_alloc | apply Kd.V_drewN | apply Kd.V_drew)); exact Kd.V_mono HO_0.out (fun _ hk => ⟨⟨hk.1, hk.2.2⟩, hk.2.1⟩)) : p := h
theorem zz105 {p : Prop} (h : p := by repeat (first | (with_reducible first | exact HB.out | apply qc | apply qb | apply qd | refine qm ?_ GE205.out | refine qm ?_ GE207.out) | exact HB.out)) : p := h
theorem zz106 {p : Prop} (h : p := by repeat (first | (with_reducible first | exact HB.out | apply qc | apply qb | apply qd | refine qm ?_ GE239.out | refine qm ?_ GE243.out) | exact HB.out)) : p := h
theorem zz107 {p : Prop} (h : p := by repeat (first | (with_reducible first | exact HB.out | apply qc | apply qb | apply qd | refine qm ?_ GE244.out | refine qm ?_ GE260.out) | exact HB.out)) : p := h
theorem zz108 {p : Prop} (h : p := by repeat (first | (with_reducible first | exact HB.out | apply qc | apply qb | apply qd | refine qm ?_ GE328.out | refine qm ?_ GE332.out) | exact HB.out)) : p := h
theorem zz109 {p : Prop} (h : p := by repeat (first | (with_reducible first | exact HB.out | apply qc | apply qb | apply qd | refine qm ?_ GE342.out | refine qm ?_ GE345.out) | exact HB.out)) : p := h
theorem zz110 {p : Prop} (h : p := by (with_reducible repeat (first | apply Kd.V_alloc | apply Kd.V_drewN | apply Kd.V_drew)); exact Kd.V_mono HO_10.out (fun _ hk => ⟨⟨hk.1, hk.2.2⟩, hk.2.1⟩)) : p := h
theorem zz111 {p : Prop} (h : p := by repeat (first | exact HR0.out | (with_reducible refine Kd.C_alloc ?_ _) | (with_reducible refine Kd.C_drewN ?_ _) | (with_reducible refine Kd.C_drew ?_))) : p := h
theorem zz112 {p : Prop} (h : p := by (with_reducible repeat (first | apply Kd.V_alloc | apply Kd.V_drewN | apply Kd.V_drew)); exact Kd.V_mono HL190_5.out (fun _ hk => ⟨⟨hk.1, hk.2.2⟩, hk.2.1⟩)) : p := h
theorem zz113 {p : Prop} (h : p := by (with_reducible repeat (first | apply Kd.N_alloc | apply Kd.N_drewN | apply Kd.N_drew)); exact Kd.N_mono HO_5.out (fun _ hk => ⟨hk.1, ⟨hk.2.2.2, hk.2.2.1⟩⟩)) : p := h
theorem zz115 {p : Prop} (h : p := by repeat (first | (with_reducible first | exact HB.out | apply qc | apply qb | apply qd | refine qm ?_ (IsS55.ge HI129.out) | refine qm ?_ GE155.out) | exact HB.out)) : p := h
theorem zz116 {p : Prop} (h : p := by repeat (first | (with_reducible first | exact HB.out | apply qc | apply qb | apply qd | refine qm ?_ (IsS55.ge HI129.out) | refine qm ?_ GE171.out) | exact HB.out)) : p := h
theorem zz117 {p : Prop} (h : p := by exact Glob.below HG.out zz92) : p := h
theorem zz119 {p : Prop} (h : p := by repeat (first | (with_reducible first | exact HI0.out | apply IsS55.alloc | apply IsS55.drewN | apply IsS55.drew | apply IsS55.set_0 | apply IsS55.set_1) | exact HI0.out)) : p := h
theorem zz120 {p : Prop} (h : p := by repeat (first | exact (Kd.V_reads' HO0.out).2.2 | (with_reducible refine Kd.C_alloc ?_ _) | (with_reducible refine Kd.C_drewN ?_ _) | (with_reducible refine Kd.C_drew ?_))) : p := h
theorem zz121 {p : Prop} (h : p := by repeat (first | exact (Kd.N_reads' HO_5.out).2.2 | (with_reducible refine Kd.C_alloc ?_ _) | (with_reducible refine Kd.C_drewN ?_ _) | (with_reducible refine Kd.C_drew ?_))) : p := h
theorem zz122 {p : Prop} (h : p := by repeat (first | exact (Kd.V_reads' HO_0.out).2.2 | (with_reducible refine Kd.C_alloc ?_ _) | (with_reducible refine Kd.C_drewN ?_ _) | (with_reducible refine Kd.C_drew ?_))) : p := h
theorem zz123 {p : Prop} (h : p := by repeat (first | exact (Kd.C_below HR0.out HB.out) | (with_reducible refine Kd.C_alloc ?_ _) | (with_reducible refine Kd.C_drewN ?_ _) | (with_reducible refine Kd.C_drew ?_))) : p := h
theorem zz124 {p : Prop} (h : p := by repeat (first | exact (Kd.C_below HR1.out HB.out) | (with_reducible refine Kd.C_alloc ?_ _) | (with_reducible refine Kd.C_drewN ?_ _) | (with_reducible refine Kd.C_drew ?_))) : p := h
theorem zz125 {p : Prop} (h : p := by repeat (first | exact (Kd.N_reads' HO301.out).2.2 | (with_reducible refine Kd.C_alloc ?_ _) | (with_reducible refine Kd.C_drewN ?_ _) | (with_reducible refine Kd.C_drew ?_))) : p := h
theorem zz126 {p : Prop} (h : p := by repeat (first | exact (Kd.N_reads' HO308.out).2.2 | (with_reducible refine Kd.C_alloc ?_ _) | (with_reducible refine Kd.C_drewN ?_ _) | (with_reducible refine Kd.C_drew ?_))) : p := h
theorem zz127 {p : Prop} (h : p := by repeat (first | exact (Kd.R_reads' HO313.out).2.2 | (with_reducible refine Kd.C_alloc ?_ _) | (with_reducible refine Kd.C_drewN ?_ _) | (with_reducible refine Kd.C_drew ?_))) : p := h
theorem zz128 {p : Prop} (h : p := by repeat (first | exact (Kd.R_reads' HO316.out).2.2 | (with_reducible refine Kd.C_alloc ?_ _) | (with_reducible refine Kd.C_drewN ?_ _) | (with_reducible refine Kd.C_drew ?_))) : p := h
theorem zz129 {p : Prop} (h : p := by repeat (first | (with_reducible first | exact HI129.out | apply IsS55.alloc | apply IsS55.drewN | apply IsS55.drew | apply IsS55.set_0 | apply IsS55.set_1) | exact HI129.out)) : p := h
theorem zz130 {p : Prop} (h : p := by repeat (first | exact (Kd.C_below HR0_3.out HB.out) | (with_reducible refine Kd.C_alloc ?_ _) | (with_reducible refine Kd.C_drewN ?_ _) | (with_reducible refine Kd.C_drew ?_))) : p := h
theorem zz131 {p : Prop} (h : p := by repeat (first | exact (Kd.C_below HR0_4.out HB.out) | (with_reducible refine Kd.C_alloc ?_ _) | (with_reducible refine Kd.C_drewN ?_ _) | (with_reducible refine Kd.C_drew ?_))) : p := h
theorem zz132 {p : Prop} (h : p := by repeat (first | (with_reducible first | exact HB.out | apply qc | apply qb | apply qd | refine qm ?_ GE205.out | refine qm ?_ GE207.out | refine qm ?_ GE211.out) | exact HB.out)) : p := h
theorem zz133 {p : Prop} (h : p := by repeat (first | exact (Kd.C_below HR206_5.out HB.out) | (with_reducible refine Kd.C_alloc ?_ _) | (with_reducible refine Kd.C_drewN ?_ _) | (with_reducible refine Kd.C_drew ?_))) : p := h
theorem zz136 {p : Prop} (h : p := by repeat (first | (with_reducible exact HR190_5.out) | (with_reducible refine Kd.C_alloc ?_ _) | (with_reducible refine Kd.C_drewN ?_ _) | (with_reducible refine Kd.C_drew ?_) | exact HR190_5.out)) : p := h
theorem zz137 {p : Prop} (h : p := by repeat (first | (with_reducible exact HR284_0.out) | (with_reducible refine Kd.C_alloc ?_ _) | (with_reducible refine Kd.C_drewN ?_ _) | (with_reducible refine Kd.C_drew ?_) | exact HR284_0.out)) : p := h
theorem zz138 {p : Prop} (h : p := by repeat (first | (with_reducible exact HR296_0.out) | (with_reducible refine Kd.C_alloc ?_ _) | (with_reducible refine Kd.C_drewN ?_ _) | (with_reducible refine Kd.C_drew ?_) | exact HR296_0.out)) : p := h
theorem zz139 {p : Prop} (h : p := by repeat (first | (with_reducible first | exact HB.out | apply qc | apply qb | apply qd | refine qm ?_ GE205.out | refine qm ?_ GE207.out | refine qm ?_ GE211.out | refine qm ?_ GE213.out) | exact HB.out)) : p := h
theorem zz140 {p : Prop} (h : p := by first | rfl | (simp [qr, qt] <;> rfl) | (simp only [← hji2]; first | rfl | (simp [qr, qt] <;> rfl)) | (simp [*, qr, qt] <;> rfl) | (congr 2; simp only [bne]; generalize ByteArray.toList _ = z_; cases z_ <;> rfl)) : p := h
theorem zz141 {p : Prop} (h : p := by repeat (first | (with_reducible first | exact HI129.out | apply IsS55.alloc | apply IsS55.drewN | apply IsS55.drew | apply IsS55.set_0 | apply IsS55.set_1 | refine IsS55.far ?_ NB129_155.out _) | exact HI129.out)) : p := h
theorem zz142 {p : Prop} (h : p := by repeat (first | (with_reducible first | exact HI129.out | apply IsS55.alloc | apply IsS55.drewN | apply IsS55.drew | apply IsS55.set_0 | apply IsS55.set_1 | refine IsS55.far ?_ NB129_171.out _) | exact HI129.out)) : p := h
theorem zz143 {p : Prop} (h : p := by first | rfl | (simp [qr, qt] <;> rfl) | (simp only [← hji2, ← hji12]; first | rfl | (simp [qr, qt] <;> rfl)) | (simp [*, qr, qt] <;> rfl) | (congr 2; simp only [bne]; generalize ByteArray.toList _ = z_; cases z_ <;> rfl)) : p := h
theorem zz146 {p : Prop} (h : p := by exact (Reps.c2 (show Kd.M k48 _ _ _ (⟨(⟨#[97]⟩ : ByteArray), (⟨#[49]⟩ : ByteArray)⟩ : S48) [.string (⟨#[97]⟩ : ByteArray), .string (⟨#[49]⟩ : ByteArray)] from (k48_mkM _ _ _ (⟨(⟨#[97]⟩ : ByteArray), (⟨#[49]⟩ : ByteArray)⟩ : S48) )) (Reps.none _ _))) : p := h
theorem zz147 {p : Prop} (h : p := by (with_reducible repeat (first | refine qk ?_ _ | refine ql ?_ | refine qj ?_ _)); refine qpb ?_ NB342_345.out _; (with_reducible repeat (first | refine qk ?_ _ | refine ql ?_ | refine qj ?_ _)); refine qpb ?_ NB342_345.out _; (with_reducible repeat (first | refine qk ?_ _ | refine ql ?_ | refine qj ?_ _)); refine qpb ?_ NB342_345.out _; (with_reducible repeat (first | refine qk ?_ _ | refine ql ?_ | refine qj ?_ _)); exact BK342.out) : p := h
theorem zz148 {p : Prop} (h : p := by (with_reducible repeat (first | refine qk ?_ _ | refine ql ?_ | refine qj ?_ _)); refine qq (cs := #[.string ((qhb l0 x9_1).f0), .string (⟨#[]⟩ : ByteArray)]) ?_ 1 _ rfl; (with_reducible repeat (first | refine qk ?_ _ | refine ql ?_ | refine qj ?_ _)); refine qq (cs := #[.string (⟨#[]⟩ : ByteArray), .string (⟨#[]⟩ : ByteArray)]) ?_ 0 _ rfl; (with_reducible repeat (first | refine qk ?_ _ | refine ql ?_ | refine qj ?_ _)); exact BK228.out) : p := h
theorem zz149 {p : Prop} (h : p := by first | exact qyc (qxc zz15 GW328.out) | (rw [qe]; exact qyc (qxc zz15 GW328.out)) | (show (Addr.add _ _).block ≠ _; rw [qe]; exact qyc (qxc zz15 GW328.out)) | (dsimp only; exact qyc (qxc zz15 GW328.out))) : p := h
theorem zz150 {p : Prop} (h : p := by first | exact qyc (qxc zz16 GW328.out) | (rw [qe]; exact qyc (qxc zz16 GW328.out)) | (show (Addr.add _ _).block ≠ _; rw [qe]; exact qyc (qxc zz16 GW328.out)) | (dsimp only; exact qyc (qxc zz16 GW328.out))) : p := h
theorem zz151 {p : Prop} (h : p := by first | exact qyc (qxc zz17 GW328.out) | (rw [qe]; exact qyc (qxc zz17 GW328.out)) | (show (Addr.add _ _).block ≠ _; rw [qe]; exact qyc (qxc zz17 GW328.out)) | (dsimp only; exact qyc (qxc zz17 GW328.out))) : p := h
theorem zz152 {p : Prop} (h : p := by first | exact qyc (qxc zz18 GW328.out) | (rw [qe]; exact qyc (qxc zz18 GW328.out)) | (show (Addr.add _ _).block ≠ _; rw [qe]; exact qyc (qxc zz18 GW328.out)) | (dsimp only; exact qyc (qxc zz18 GW328.out))) : p := h
theorem zz153 {p : Prop} (h : p := by first | exact qyc (qxc zz19 GW328.out) | (rw [qe]; exact qyc (qxc zz19 GW328.out)) | (show (Addr.add _ _).block ≠ _; rw [qe]; exact qyc (qxc zz19 GW328.out)) | (dsimp only; exact qyc (qxc zz19 GW328.out))) : p := h
theorem zz154 {p : Prop} (h : p := by first | exact qyc (qxc zz20 GW328.out) | (rw [qe]; exact qyc (qxc zz20 GW328.out)) | (show (Addr.add _ _).block ≠ _; rw [qe]; exact qyc (qxc zz20 GW328.out)) | (dsimp only; exact qyc (qxc zz20 GW328.out))) : p := h
theorem zz155 {p : Prop} (h : p := by first | exact qyc (qxc zz21 GW328.out) | (rw [qe]; exact qyc (qxc zz21 GW328.out)) | (show (Addr.add _ _).block ≠ _; rw [qe]; exact qyc (qxc zz21 GW328.out)) | (dsimp only; exact qyc (qxc zz21 GW328.out))) : p := h
theorem zz156 {p : Prop} (h : p := by first | exact qyc (qxc zz22 GW328.out) | (rw [qe]; exact qyc (qxc zz22 GW328.out)) | (show (Addr.add _ _).block ≠ _; rw [qe]; exact qyc (qxc zz22 GW328.out)) | (dsimp only; exact qyc (qxc zz22 GW328.out))) : p := h
theorem zz157 {p : Prop} (h : p := by first | exact qyc (qxc zz23 GW328.out) | (rw [qe]; exact qyc (qxc zz23 GW328.out)) | (show (Addr.add _ _).block ≠ _; rw [qe]; exact qyc (qxc zz23 GW328.out)) | (dsimp only; exact qyc (qxc zz23 GW328.out))) : p := h
theorem zz158 {p : Prop} (h : p := by first | exact qyc (qxc zz24 GW328.out) | (rw [qe]; exact qyc (qxc zz24 GW328.out)) | (show (Addr.add _ _).block ≠ _; rw [qe]; exact qyc (qxc zz24 GW328.out)) | (dsimp only; exact qyc (qxc zz24 GW328.out))) : p := h
theorem zz159 {p : Prop} (h : p := by first | exact qyc (qxc zz25 GW328.out) | (rw [qe]; exact qyc (qxc zz25 GW328.out)) | (show (Addr.add _ _).block ≠ _; rw [qe]; exact qyc (qxc zz25 GW328.out)) | (dsimp only; exact qyc (qxc zz25 GW328.out))) : p := h
theorem zz160 {p : Prop} (h : p := by first | exact qyc (qxc zz26 GW328.out) | (rw [qe]; exact qyc (qxc zz26 GW328.out)) | (show (Addr.add _ _).block ≠ _; rw [qe]; exact qyc (qxc zz26 GW328.out)) | (dsimp only; exact qyc (qxc zz26 GW328.out))) : p := h
theorem zz161 {p : Prop} (h : p := by first | exact qyc (qxc zz27 GW328.out) | (rw [qe]; exact qyc (qxc zz27 GW328.out)) | (show (Addr.add _ _).block ≠ _; rw [qe]; exact qyc (qxc zz27 GW328.out)) | (dsimp only; exact qyc (qxc zz27 GW328.out))) : p := h
theorem zz162 {p : Prop} (h : p := by first | exact qyc (qxc zz28 GW328.out) | (rw [qe]; exact qyc (qxc zz28 GW328.out)) | (show (Addr.add _ _).block ≠ _; rw [qe]; exact qyc (qxc zz28 GW328.out)) | (dsimp only; exact qyc (qxc zz28 GW328.out))) : p := h
theorem zz163 {p : Prop} (h : p := by first | exact qyc (qxc zz29 GW328.out) | (rw [qe]; exact qyc (qxc zz29 GW328.out)) | (show (Addr.add _ _).block ≠ _; rw [qe]; exact qyc (qxc zz29 GW328.out)) | (dsimp only; exact qyc (qxc zz29 GW328.out))) : p := h
theorem zz164 {p : Prop} (h : p := by first | exact qyc (qxc zz30 GW328.out) | (rw [qe]; exact qyc (qxc zz30 GW328.out)) | (show (Addr.add _ _).block ≠ _; rw [qe]; exact qyc (qxc zz30 GW328.out)) | (dsimp only; exact qyc (qxc zz30 GW328.out))) : p := h
theorem zz165 {p : Prop} (h : p := by first | exact qyc (qxc zz31 GW328.out) | (rw [qe]; exact qyc (qxc zz31 GW328.out)) | (show (Addr.add _ _).block ≠ _; rw [qe]; exact qyc (qxc zz31 GW328.out)) | (dsimp only; exact qyc (qxc zz31 GW328.out))) : p := h
theorem zz166 {p : Prop} (h : p := by first | exact qyc (qxc zz32 GW328.out) | (rw [qe]; exact qyc (qxc zz32 GW328.out)) | (show (Addr.add _ _).block ≠ _; rw [qe]; exact qyc (qxc zz32 GW328.out)) | (dsimp only; exact qyc (qxc zz32 GW328.out))) : p := h
theorem zz167 {p : Prop} (h : p := by first | exact qyc (qxc zz33 GW328.out) | (rw [qe]; exact qyc (qxc zz33 GW328.out)) | (show (Addr.add _ _).block ≠ _; rw [qe]; exact qyc (qxc zz33 GW328.out)) | (dsimp only; exact qyc (qxc zz33 GW328.out))) : p := h
theorem zz168 {p : Prop} (h : p := by first | exact qyc (qxc zz34 GW328.out) | (rw [qe]; exact qyc (qxc zz34 GW328.out)) | (show (Addr.add _ _).block ≠ _; rw [qe]; exact qyc (qxc zz34 GW328.out)) | (dsimp only; exact qyc (qxc zz34 GW328.out))) : p := h
theorem zz169 {p : Prop} (h : p := by (with_reducible repeat (first | apply Kd.R_alloc | apply Kd.R_drewN | apply Kd.R_drew)); exact (Kd.R_mono (Kd.R_far (p := ⟨gb260, 4, none⟩) (Kd.R_far (p := ⟨gb260, 3, none⟩) (Kd.R_far (p := ⟨gb260, 2, none⟩) (Kd.R_far (p := ⟨gb260, 1, none⟩) (Kd.R_far (p := ⟨gb260, 0, none⟩) (Kd.R_types HO255.out BK260.out (by decide)) (fun _ hk => hk.2) (.string t250)) (fun _ hk => hk.2) (.string t251)) (fun _ hk => hk.2) (.string t252)) (fun _ hk => hk.2) (.slice Ao23 t253.length co23)) (fun _ hk => hk.2) (.slice Ao24 t256.length co24)) (fun _ h_ => h_.1))) : p := h
theorem zz170 {p : Prop} (h : p := by (with_reducible repeat (first | apply Kd.R_alloc | apply Kd.R_drewN | apply Kd.R_drew)); exact (Kd.R_mono (Kd.R_far (p := ⟨gb260, 4, none⟩) (Kd.R_far (p := ⟨gb260, 3, none⟩) (Kd.R_far (p := ⟨gb260, 2, none⟩) (Kd.R_far (p := ⟨gb260, 1, none⟩) (Kd.R_far (p := ⟨gb260, 0, none⟩) (Kd.R_types HO255.out BK260.out (by decide)) (fun _ hk => hk.2) (.string t250)) (fun _ hk => hk.2) (.string t251)) (fun _ hk => hk.2) (.string t252)) (fun _ hk => hk.2) (.slice Ao33 t253.length co33)) (fun _ hk => hk.2) (.slice Ao34 t256.length co34)) (fun _ h_ => h_.1))) : p := h
theorem zz171 {p : Prop} (h : p := by (with_reducible repeat (first | apply Kd.R_alloc | apply Kd.R_drewN | apply Kd.R_drew)); exact (Kd.R_mono (Kd.R_far (p := ⟨gb260, 4, none⟩) (Kd.R_far (p := ⟨gb260, 3, none⟩) (Kd.R_far (p := ⟨gb260, 2, none⟩) (Kd.R_far (p := ⟨gb260, 1, none⟩) (Kd.R_far (p := ⟨gb260, 0, none⟩) (Kd.R_mono HO258.out (fun k_ hk => (⟨hk, hk.2⟩ : _ ∧ k_ ≠ gb260))) (fun _ hk => hk.2) (.string t250)) (fun _ hk => hk.2) (.string t251)) (fun _ hk => hk.2) (.string t252)) (fun _ hk => hk.2) (.slice Ao23 t253.length co23)) (fun _ hk => hk.2) (.slice Ao24 t256.length co24)) (fun _ h_ => h_.1))) : p := h
theorem zz172 {p : Prop} (h : p := by (with_reducible repeat (first | apply Kd.R_alloc | apply Kd.R_drewN | apply Kd.R_drew)); exact (Kd.R_mono (Kd.R_far (p := ⟨gb260, 4, none⟩) (Kd.R_far (p := ⟨gb260, 3, none⟩) (Kd.R_far (p := ⟨gb260, 2, none⟩) (Kd.R_far (p := ⟨gb260, 1, none⟩) (Kd.R_far (p := ⟨gb260, 0, none⟩) (Kd.R_mono HO258.out (fun k_ hk => (⟨hk, hk.2⟩ : _ ∧ k_ ≠ gb260))) (fun _ hk => hk.2) (.string t250)) (fun _ hk => hk.2) (.string t251)) (fun _ hk => hk.2) (.string t252)) (fun _ hk => hk.2) (.slice Ao33 t253.length co33)) (fun _ hk => hk.2) (.slice Ao34 t256.length co34)) (fun _ h_ => h_.1))) : p := h
theorem zz173 {p : Prop} (h : p := by (with_reducible repeat (first | refine qk ?_ _ | refine ql ?_ | refine qj ?_ _)); refine qpb ?_ NB244_260.out _; (with_reducible repeat (first | refine qk ?_ _ | refine ql ?_ | refine qj ?_ _)); refine qpb ?_ NB244_260.out _; (with_reducible repeat (first | refine qk ?_ _ | refine ql ?_ | refine qj ?_ _)); refine qpb ?_ NB244_260.out _; (with_reducible repeat (first | refine qk ?_ _ | refine ql ?_ | refine qj ?_ _)); refine qpb ?_ NB244_260.out _; (with_reducible repeat (first | refine qk ?_ _ | refine ql ?_ | refine qj ?_ _)); refine qpb ?_ NB244_260.out _; (with_reducible repeat (first | refine qk ?_ _ | refine ql ?_ | refine qj ?_ _)); exact BK244.out) : p := h
theorem zz174 {p : Prop} (h : p := by (with_reducible repeat (first | apply Kd.R_alloc | apply Kd.R_drewN | apply Kd.R_drew)); exact Kd.R_mono (Kd.R_far (p := ⟨gb191, 5, none⟩) (Kd.R_far (p := ⟨gb191, 4, none⟩) (Kd.R_far (p := ⟨gb191, 3, none⟩) (Kd.R_far (p := ⟨gb191, 2, none⟩) (Kd.R_far (p := ⟨gb191, 1, none⟩) (Kd.R_far (p := ⟨gb191, 0, none⟩) (Kd.R_types HO_3.out BK191.out (by decide)) (fun _ hk => hk.2) (.int .i64 ((qi l0 x12_1).f0))) (fun _ hk => hk.2) (.int .i64 ((qi l0 x12_1).f1))) (fun _ hk => hk.2) (.string ((qi l0 x12_1).f2))) (fun _ hk => hk.2) (.string ((qi l0 x12_1).f3))) (fun _ hk => hk.2) (.string ((qi l0 x12_1).f4))) (fun _ hk => hk.2) (.slice A190_5 ((qi l0 x12_1).f5).length c190_5)) (fun _ hk => hk.1)) : p := h
theorem zz175 {p : Prop} (h : p := by (with_reducible repeat (first | apply Kd.R_alloc | apply Kd.R_drewN | apply Kd.R_drew)); exact Kd.R_mono (Kd.R_far (p := ⟨gb183, 5, none⟩) (Kd.R_far (p := ⟨gb183, 4, none⟩) (Kd.R_far (p := ⟨gb183, 3, none⟩) (Kd.R_far (p := ⟨gb183, 2, none⟩) (Kd.R_far (p := ⟨gb183, 1, none⟩) (Kd.R_far (p := ⟨gb183, 0, none⟩) (Kd.R_types HO_3.out BK183.out (by decide)) (fun _ hk => hk.2) (.int .i64 ((qi l0 x12_1).f0))) (fun _ hk => hk.2) (.int .i64 ((qi l0 x12_1).f1))) (fun _ hk => hk.2) (.string ((qi l0 x12_1).f2))) (fun _ hk => hk.2) (.string ((qi l0 x12_1).f3))) (fun _ hk => hk.2) (.string ((qi l0 x12_1).f4))) (fun _ hk => hk.2) (.slice A182_5 ((qi l0 x12_1).f5).length c182_5)) (fun _ hk => trivial)) : p := h
theorem zz178 {p : Prop} (h : p := by (with_reducible repeat (first | apply Kd.V_alloc | apply Kd.V_drewN | apply Kd.V_drew)); exact Kd.V_mono (Kd.V_far (p := ⟨gb191, 5, none⟩) (Kd.V_far (p := ⟨gb191, 4, none⟩) (Kd.V_far (p := ⟨gb191, 3, none⟩) (Kd.V_far (p := ⟨gb191, 2, none⟩) (Kd.V_far (p := ⟨gb191, 1, none⟩) (Kd.V_far (p := ⟨gb191, 0, none⟩) (Kd.V_mono HO_0.out (fun k_ hk => (⟨hk, hk.2⟩ : _ ∧ k_ ≠ gb191))) (fun _ hk => hk.2) (.int .i64 ((qi l0 x12_1).f0))) (fun _ hk => hk.2) (.int .i64 ((qi l0 x12_1).f1))) (fun _ hk => hk.2) (.string ((qi l0 x12_1).f2))) (fun _ hk => hk.2) (.string ((qi l0 x12_1).f3))) (fun _ hk => hk.2) (.string ((qi l0 x12_1).f4))) (fun _ hk => hk.2) (.slice A190_5 ((qi l0 x12_1).f5).length c190_5)) (fun _ hk => ⟨hk.1.1.1, ⟨hk.1.1.2, hk.1.2⟩⟩)) : p := h
theorem zz179 {p : Prop} (h : p := by (with_reducible repeat (first | apply Kd.V_alloc | apply Kd.V_drewN | apply Kd.V_drew)); exact Kd.V_mono (Kd.V_far (p := ⟨gb191, 5, none⟩) (Kd.V_far (p := ⟨gb191, 4, none⟩) (Kd.V_far (p := ⟨gb191, 3, none⟩) (Kd.V_far (p := ⟨gb191, 2, none⟩) (Kd.V_far (p := ⟨gb191, 1, none⟩) (Kd.V_far (p := ⟨gb191, 0, none⟩) (Kd.V_mono HO_10.out (fun k_ hk => (⟨hk, hk.2⟩ : _ ∧ k_ ≠ gb191))) (fun _ hk => hk.2) (.int .i64 ((qi l0 x12_1).f0))) (fun _ hk => hk.2) (.int .i64 ((qi l0 x12_1).f1))) (fun _ hk => hk.2) (.string ((qi l0 x12_1).f2))) (fun _ hk => hk.2) (.string ((qi l0 x12_1).f3))) (fun _ hk => hk.2) (.string ((qi l0 x12_1).f4))) (fun _ hk => hk.2) (.slice A190_5 ((qi l0 x12_1).f5).length c190_5)) (fun _ hk => ⟨hk.1.1.1, ⟨hk.1.1.2, hk.1.2⟩⟩)) : p := h
theorem zz180 {p : Prop} (h : p := by (with_reducible repeat (first | apply Kd.V_alloc | apply Kd.V_drewN | apply Kd.V_drew)); exact Kd.V_mono (Kd.V_far (p := ⟨gb191, 5, none⟩) (Kd.V_far (p := ⟨gb191, 4, none⟩) (Kd.V_far (p := ⟨gb191, 3, none⟩) (Kd.V_far (p := ⟨gb191, 2, none⟩) (Kd.V_far (p := ⟨gb191, 1, none⟩) (Kd.V_far (p := ⟨gb191, 0, none⟩) (Kd.V_mono HL190_5.out (fun k_ hk => (⟨hk, hk.2⟩ : _ ∧ k_ ≠ gb191))) (fun _ hk => hk.2) (.int .i64 ((qi l0 x12_1).f0))) (fun _ hk => hk.2) (.int .i64 ((qi l0 x12_1).f1))) (fun _ hk => hk.2) (.string ((qi l0 x12_1).f2))) (fun _ hk => hk.2) (.string ((qi l0 x12_1).f3))) (fun _ hk => hk.2) (.string ((qi l0 x12_1).f4))) (fun _ hk => hk.2) (.slice A190_5 ((qi l0 x12_1).f5).length c190_5)) (fun _ hk => ⟨hk.1.1.1, ⟨hk.1.1.2, hk.1.2⟩⟩)) : p := h
theorem zz184 {p : Prop} (h : p := by (with_reducible repeat (first | refine qk ?_ _ | refine ql ?_ | refine qj ?_ _)); refine qq (cs := #[.bool (false), .bool ((qg l0 x9_1).f1), .string ((qg l0 x9_1).f2), .string ((qg l0 x9_1).f3), .slice none 0 0]) ?_ 4 _ rfl; (with_reducible repeat (first | refine qk ?_ _ | refine ql ?_ | refine qj ?_ _)); refine qq (cs := #[.bool (false), .bool ((qg l0 x9_1).f1), .string ((qg l0 x9_1).f2), .string (⟨#[]⟩ : ByteArray), .slice none 0 0]) ?_ 3 _ rfl; (with_reducible repeat (first | refine qk ?_ _ | refine ql ?_ | refine qj ?_ _)); refine qq (cs := #[.bool (false), .bool ((qg l0 x9_1).f1), .string (⟨#[]⟩ : ByteArray), .string (⟨#[]⟩ : ByteArray), .slice none 0 0]) ?_ 2 _ rfl; (with_reducible repeat (first | refine qk ?_ _ | refine ql ?_ | refine qj ?_ _)); refine qq (cs := #[.bool (false), .bool false, .string (⟨#[]⟩ : ByteArray), .string (⟨#[]⟩ : ByteArray), .slice none 0 0]) ?_ 1 _ rfl; (with_reducible repeat (first | refine qk ?_ _ | refine ql ?_ | refine qj ?_ _)); refine qq (cs := #[.bool false, .bool false, .string (⟨#[]⟩ : ByteArray), .string (⟨#[]⟩ : ByteArray), .slice none 0 0]) ?_ 0 _ rfl; (with_reducible repeat (first | refine qk ?_ _ | refine ql ?_ | refine qj ?_ _)); exact BK361.out) : p := h
theorem zz185 {p : Prop} (h : p := by (with_reducible repeat (first | refine qk ?_ _ | refine ql ?_ | refine qj ?_ _)); refine qq (cs := #[.bool ((qg l0 x23_2).f0), .bool (true), .string ((qg l0 x23_2).f2), .string ((qg l0 x23_2).f3), .slice none 0 0]) ?_ 4 _ rfl; (with_reducible repeat (first | refine qk ?_ _ | refine ql ?_ | refine qj ?_ _)); refine qq (cs := #[.bool ((qg l0 x23_2).f0), .bool (true), .string ((qg l0 x23_2).f2), .string (⟨#[]⟩ : ByteArray), .slice none 0 0]) ?_ 3 _ rfl; (with_reducible repeat (first | refine qk ?_ _ | refine ql ?_ | refine qj ?_ _)); refine qq (cs := #[.bool ((qg l0 x23_2).f0), .bool (true), .string (⟨#[]⟩ : ByteArray), .string (⟨#[]⟩ : ByteArray), .slice none 0 0]) ?_ 2 _ rfl; (with_reducible repeat (first | refine qk ?_ _ | refine ql ?_ | refine qj ?_ _)); refine qq (cs := #[.bool ((qg l0 x23_2).f0), .bool false, .string (⟨#[]⟩ : ByteArray), .string (⟨#[]⟩ : ByteArray), .slice none 0 0]) ?_ 1 _ rfl; (with_reducible repeat (first | refine qk ?_ _ | refine ql ?_ | refine qj ?_ _)); refine qq (cs := #[.bool false, .bool false, .string (⟨#[]⟩ : ByteArray), .string (⟨#[]⟩ : ByteArray), .slice none 0 0]) ?_ 0 _ rfl; (with_reducible repeat (first | refine qk ?_ _ | refine ql ?_ | refine qj ?_ _)); exact BK342.out) : p := h
theorem zz186 {p : Prop} (h : p := by (with_reducible repeat (first | refine qk ?_ _ | refine ql ?_ | refine qj ?_ _)); refine qq (cs := #[.bool ((qg l0 x23_2).f0), .bool (false), .string ((qg l0 x23_2).f2), .string ((qg l0 x23_2).f3), .slice none 0 0]) ?_ 4 _ rfl; (with_reducible repeat (first | refine qk ?_ _ | refine ql ?_ | refine qj ?_ _)); refine qq (cs := #[.bool ((qg l0 x23_2).f0), .bool (false), .string ((qg l0 x23_2).f2), .string (⟨#[]⟩ : ByteArray), .slice none 0 0]) ?_ 3 _ rfl; (with_reducible repeat (first | refine qk ?_ _ | refine ql ?_ | refine qj ?_ _)); refine qq (cs := #[.bool ((qg l0 x23_2).f0), .bool (false), .string (⟨#[]⟩ : ByteArray), .string (⟨#[]⟩ : ByteArray), .slice none 0 0]) ?_ 2 _ rfl; (with_reducible repeat (first | refine qk ?_ _ | refine ql ?_ | refine qj ?_ _)); refine qq (cs := #[.bool ((qg l0 x23_2).f0), .bool false, .string (⟨#[]⟩ : ByteArray), .string (⟨#[]⟩ : ByteArray), .slice none 0 0]) ?_ 1 _ rfl; (with_reducible repeat (first | refine qk ?_ _ | refine ql ?_ | refine qj ?_ _)); refine qq (cs := #[.bool false, .bool false, .string (⟨#[]⟩ : ByteArray), .string (⟨#[]⟩ : ByteArray), .slice none 0 0]) ?_ 0 _ rfl; (with_reducible repeat (first | refine qk ?_ _ | refine ql ?_ | refine qj ?_ _)); exact BK342.out) : p := h
theorem zz187 {p : Prop} (h : p := by (with_reducible repeat (first | refine qk ?_ _ | refine ql ?_ | refine qj ?_ _)); refine qq (cs := #[.string ((qi l0 a1).f2), .string ((qi l0 a1).f3), .string ((qi l0 a1).f4), .slice Ao16 t208.length co16, .slice none 0 0]) ?_ 4 _ rfl; (with_reducible repeat (first | refine qk ?_ _ | refine ql ?_ | refine qj ?_ _)); refine qq (cs := #[.string ((qi l0 a1).f2), .string ((qi l0 a1).f3), .string ((qi l0 a1).f4), .slice none 0 0, .slice none 0 0]) ?_ 3 _ rfl; (with_reducible repeat (first | refine qk ?_ _ | refine ql ?_ | refine qj ?_ _)); refine qq (cs := #[.string ((qi l0 a1).f2), .string ((qi l0 a1).f3), .string (⟨#[]⟩ : ByteArray), .slice none 0 0, .slice none 0 0]) ?_ 2 _ rfl; (with_reducible repeat (first | refine qk ?_ _ | refine ql ?_ | refine qj ?_ _)); refine qq (cs := #[.string ((qi l0 a1).f2), .string (⟨#[]⟩ : ByteArray), .string (⟨#[]⟩ : ByteArray), .slice none 0 0, .slice none 0 0]) ?_ 1 _ rfl; (with_reducible repeat (first | refine qk ?_ _ | refine ql ?_ | refine qj ?_ _)); refine qq (cs := #[.string (⟨#[]⟩ : ByteArray), .string (⟨#[]⟩ : ByteArray), .string (⟨#[]⟩ : ByteArray), .slice none 0 0, .slice none 0 0]) ?_ 0 _ rfl; (with_reducible repeat (first | refine qk ?_ _ | refine ql ?_ | refine qj ?_ _)); exact BK205.out) : p := h
theorem zz188 {p : Prop} (h : p := by (with_reducible repeat (first | refine qk ?_ _ | refine ql ?_ | refine qj ?_ _)); refine qq (cs := #[.bool ((qu l0 x21_2).f0), .bool ((qu l0 x21_2).f1), .string ((qu l0 x21_2).f2), .string ((qu l0 x21_2).f3), .slice none 0 0]) ?_ 4 _ rfl; (with_reducible repeat (first | refine qk ?_ _ | refine ql ?_ | refine qj ?_ _)); refine qq (cs := #[.bool ((qu l0 x21_2).f0), .bool ((qu l0 x21_2).f1), .string ((qu l0 x21_2).f2), .string (⟨#[]⟩ : ByteArray), .slice none 0 0]) ?_ 3 _ rfl; (with_reducible repeat (first | refine qk ?_ _ | refine ql ?_ | refine qj ?_ _)); refine qq (cs := #[.bool ((qu l0 x21_2).f0), .bool ((qu l0 x21_2).f1), .string (⟨#[]⟩ : ByteArray), .string (⟨#[]⟩ : ByteArray), .slice none 0 0]) ?_ 2 _ rfl; (with_reducible repeat (first | refine qk ?_ _ | refine ql ?_ | refine qj ?_ _)); refine qq (cs := #[.bool ((qu l0 x21_2).f0), .bool false, .string (⟨#[]⟩ : ByteArray), .string (⟨#[]⟩ : ByteArray), .slice none 0 0]) ?_ 1 _ rfl; (with_reducible repeat (first | refine qk ?_ _ | refine ql ?_ | refine qj ?_ _)); refine qq (cs := #[.bool false, .bool false, .string (⟨#[]⟩ : ByteArray), .string (⟨#[]⟩ : ByteArray), .slice none 0 0]) ?_ 0 _ rfl; (with_reducible repeat (first | refine qk ?_ _ | refine ql ?_ | refine qj ?_ _)); exact BK127.out) : p := h
theorem zz189 {p : Prop} (h : p := by (with_reducible repeat (first | refine qk ?_ _ | refine ql ?_ | refine qj ?_ _)); refine qq (cs := #[.string (⟨#[]⟩ : ByteArray), .string (⟨#[]⟩ : ByteArray), .string (⟨#[]⟩ : ByteArray), .slice none 0 0, .slice none 0 0]) ?_ 4 _ rfl; (with_reducible repeat (first | refine qk ?_ _ | refine ql ?_ | refine qj ?_ _)); refine qq (cs := #[.string (⟨#[]⟩ : ByteArray), .string (⟨#[]⟩ : ByteArray), .string (⟨#[]⟩ : ByteArray), .slice none 0 0, .slice none 0 0]) ?_ 3 _ rfl; (with_reducible repeat (first | refine qk ?_ _ | refine ql ?_ | refine qj ?_ _)); refine qq (cs := #[.string (⟨#[]⟩ : ByteArray), .string (⟨#[]⟩ : ByteArray), .string (⟨#[]⟩ : ByteArray), .slice none 0 0, .slice none 0 0]) ?_ 2 _ rfl; (with_reducible repeat (first | refine qk ?_ _ | refine ql ?_ | refine qj ?_ _)); refine qq (cs := #[.string (⟨#[]⟩ : ByteArray), .string (⟨#[]⟩ : ByteArray), .string (⟨#[]⟩ : ByteArray), .slice none 0 0, .slice none 0 0]) ?_ 1 _ rfl; (with_reducible repeat (first | refine qk ?_ _ | refine ql ?_ | refine qj ?_ _)); refine qq (cs := #[.string (⟨#[]⟩ : ByteArray), .string (⟨#[]⟩ : ByteArray), .string (⟨#[]⟩ : ByteArray), .slice none 0 0, .slice none 0 0]) ?_ 0 _ rfl; (with_reducible repeat (first | refine qk ?_ _ | refine ql ?_ | refine qj ?_ _)); exact BK244.out) : p := h
theorem zz190 {p : Prop} (h : p := by (with_reducible repeat (first | refine qk ?_ _ | refine ql ?_ | refine qj ?_ _)); refine qq (cs := #[.int .i64 ((qi l0 x12_1).f0), .int .i64 ((qi l0 x12_1).f1), .string ((qi l0 x12_1).f2), .string ((qi l0 x12_1).f3), .string ((qi l0 x12_1).f4), .slice none 0 0]) ?_ 5 _ rfl; (with_reducible repeat (first | refine qk ?_ _ | refine ql ?_ | refine qj ?_ _)); refine qq (cs := #[.int .i64 ((qi l0 x12_1).f0), .int .i64 ((qi l0 x12_1).f1), .string ((qi l0 x12_1).f2), .string ((qi l0 x12_1).f3), .string (⟨#[]⟩ : ByteArray), .slice none 0 0]) ?_ 4 _ rfl; (with_reducible repeat (first | refine qk ?_ _ | refine ql ?_ | refine qj ?_ _)); refine qq (cs := #[.int .i64 ((qi l0 x12_1).f0), .int .i64 ((qi l0 x12_1).f1), .string ((qi l0 x12_1).f2), .string (⟨#[]⟩ : ByteArray), .string (⟨#[]⟩ : ByteArray), .slice none 0 0]) ?_ 3 _ rfl; (with_reducible repeat (first | refine qk ?_ _ | refine ql ?_ | refine qj ?_ _)); refine qq (cs := #[.int .i64 ((qi l0 x12_1).f0), .int .i64 ((qi l0 x12_1).f1), .string (⟨#[]⟩ : ByteArray), .string (⟨#[]⟩ : ByteArray), .string (⟨#[]⟩ : ByteArray), .slice none 0 0]) ?_ 2 _ rfl; (with_reducible repeat (first | refine qk ?_ _ | refine ql ?_ | refine qj ?_ _)); refine qq (cs := #[.int .i64 ((qi l0 x12_1).f0), .int .i64 0, .string (⟨#[]⟩ : ByteArray), .string (⟨#[]⟩ : ByteArray), .string (⟨#[]⟩ : ByteArray), .slice none 0 0]) ?_ 1 _ rfl; (with_reducible repeat (first | refine qk ?_ _ | refine ql ?_ | refine qj ?_ _)); refine qq (cs := #[.int .i64 0, .int .i64 0, .string (⟨#[]⟩ : ByteArray), .string (⟨#[]⟩ : ByteArray), .string (⟨#[]⟩ : ByteArray), .slice none 0 0]) ?_ 0 _ rfl; (with_reducible repeat (first | refine qk ?_ _ | refine ql ?_ | refine qj ?_ _)); exact BK183.out) : p := h
theorem zz191 {p : Prop} (h : p := by (with_reducible repeat (first | refine qk ?_ _ | refine ql ?_ | refine qj ?_ _)); refine qq (cs := #[.int .i64 ((qi l0 x12_1).f0), .int .i64 ((qi l0 x12_1).f1), .string ((qi l0 x12_1).f2), .string ((qi l0 x12_1).f3), .string ((qi l0 x12_1).f4), .slice none 0 0]) ?_ 5 _ rfl; (with_reducible repeat (first | refine qk ?_ _ | refine ql ?_ | refine qj ?_ _)); refine qq (cs := #[.int .i64 ((qi l0 x12_1).f0), .int .i64 ((qi l0 x12_1).f1), .string ((qi l0 x12_1).f2), .string ((qi l0 x12_1).f3), .string (⟨#[]⟩ : ByteArray), .slice none 0 0]) ?_ 4 _ rfl; (with_reducible repeat (first | refine qk ?_ _ | refine ql ?_ | refine qj ?_ _)); refine qq (cs := #[.int .i64 ((qi l0 x12_1).f0), .int .i64 ((qi l0 x12_1).f1), .string ((qi l0 x12_1).f2), .string (⟨#[]⟩ : ByteArray), .string (⟨#[]⟩ : ByteArray), .slice none 0 0]) ?_ 3 _ rfl; (with_reducible repeat (first | refine qk ?_ _ | refine ql ?_ | refine qj ?_ _)); refine qq (cs := #[.int .i64 ((qi l0 x12_1).f0), .int .i64 ((qi l0 x12_1).f1), .string (⟨#[]⟩ : ByteArray), .string (⟨#[]⟩ : ByteArray), .string (⟨#[]⟩ : ByteArray), .slice none 0 0]) ?_ 2 _ rfl; (with_reducible repeat (first | refine qk ?_ _ | refine ql ?_ | refine qj ?_ _)); refine qq (cs := #[.int .i64 ((qi l0 x12_1).f0), .int .i64 0, .string (⟨#[]⟩ : ByteArray), .string (⟨#[]⟩ : ByteArray), .string (⟨#[]⟩ : ByteArray), .slice none 0 0]) ?_ 1 _ rfl; (with_reducible repeat (first | refine qk ?_ _ | refine ql ?_ | refine qj ?_ _)); refine qq (cs := #[.int .i64 0, .int .i64 0, .string (⟨#[]⟩ : ByteArray), .string (⟨#[]⟩ : ByteArray), .string (⟨#[]⟩ : ByteArray), .slice none 0 0]) ?_ 0 _ rfl; (with_reducible repeat (first | refine qk ?_ _ | refine ql ?_ | refine qj ?_ _)); exact BK191.out) : p := h
end Go.Proofs.YtjbobecnlpiejaaDoorZ
namespace Go.Proofs
def Tryd.lays169_ren : Go.Shelf.Ren := ⟨fun | 169 => 27 | n => n, fun | 70 => 68 | 9 => 9 | 0 => 0 | 72 => 71 | 37 => 69 | 127 => 90 | 3 => 3 | 5 => 5 | n => n, fun | n => n⟩
theorem Tryd.lays169 : Go.Proofs.Lays.n169 Tryd.prog Tryd.lays169_ren := {
 mixed := by kernel_rfl
 f169 := Tryd.func27.trans (congrArg some (by kernel_rfl))
 t0 := Tryd.underlying0
 a0 := Tryd.isAgg0
 z0 := Tryd.sizeOf0
 v0 := Tryd.zeroValue0
 t3 := Tryd.underlying3
 a3 := Tryd.isAgg3
 z3 := Tryd.sizeOf3
 v3 := Tryd.zeroValue3
 t9 := Tryd.underlying9
 a9 := Tryd.isAgg9
 z9 := Tryd.sizeOf9
 v9 := Tryd.zeroValue9
 t37 := Tryd.underlying69
 a37 := Tryd.isAgg69
 z37 := Tryd.sizeOf69
 v37 := Tryd.zeroValue69
 t70 := Tryd.underlying68
 a70 := Tryd.isAgg68
 z70 := Tryd.sizeOf68
 v70 := Tryd.zeroValue68
 t72 := Tryd.underlying71
 a72 := Tryd.isAgg71
 z72 := Tryd.sizeOf71
 v72 := Tryd.zeroValue71
 t127 := Tryd.underlying90
 a127 := Tryd.isAgg90
 z127 := Tryd.sizeOf90
 v127 := Tryd.zeroValue90 }
theorem Tryd.Builder_Extra_169 : Builder.Extra Tryd.prog Tryd.lays169_ren := {
 sizeBuilder := by kernel_rfl
 liesBuilder := by kernel_rfl
 t5 := Tryd.underlying5
 a5 := Tryd.isAgg5
 z5 := Tryd.sizeOf5
 v5 := Tryd.zeroValue5
 infoByte := by kernel_rfl
 cellsByte := by kernel_rfl
 sizeByte := by kernel_rfl
 neB5 := by decide }
def Tryd.lays137_ren : Go.Shelf.Ren := ⟨fun | 137 => 69 | 217 => 75 | 266 => 83 | n => n, fun | 9 => 9 | 5 => 5 | 3 => 3 | n => n, fun | n => n⟩
theorem Tryd.lays137 : Go.Proofs.Lays.n137 Tryd.prog Tryd.lays137_ren := {
 mixed := by kernel_rfl
 f137 := Tryd.func69.trans (congrArg some (by kernel_rfl))
 f217 := Tryd.func75.trans (congrArg some (by kernel_rfl))
 f266 := Tryd.func83.trans (congrArg some (by kernel_rfl))
 t3 := Tryd.underlying3
 a3 := Tryd.isAgg3
 z3 := Tryd.sizeOf3
 v3 := Tryd.zeroValue3
 t5 := Tryd.underlying5
 a5 := Tryd.isAgg5
 z5 := Tryd.sizeOf5
 v5 := Tryd.zeroValue5
 t9 := Tryd.underlying9
 a9 := Tryd.isAgg9
 z9 := Tryd.sizeOf9
 v9 := Tryd.zeroValue9 }
open Go.RowKit in
theorem Tryd.strings_IndexByte (s : ByteArray) (c : Int) (w : World) :
  Calls Tryd.prog 69 #[.string s, .int .u8 c] w fun e w' => e = .returned (.int .i64 (Lib.indexByte s.data.toList c.toNat.toUInt8)) ∧ w' = w := Any.strings_IndexByte Tryd.lays137 s c w
open Go.RowKit in
theorem Tryd.Builder_String_any_k (B b : Nat) (l : List UInt8) (w : World) (h : Lib.IsBuilderF 71 5 B b (Lib.byteCells l) w) (hBw : B ≤ w.heap.size) :
  Calls Tryd.prog 27 #[.pointer (some ⟨b, 0, none⟩)] w fun e w' => e = .returned (.string ⟨l.toArray⟩) ∧ (Lib.IsBuilderF 71 5 B b (Lib.byteCells l) w' ∧ Below B w w' ∧ Lib.OthersKept 5 (some b) w w') := Any.Builder_String_any_k Tryd.lays169 Tryd.Builder_Extra_169 B b l w h hBw
def Tryd.laysM171_ren : Go.Shelf.Ren := ⟨fun | 171 => 58 | 243 => 67 | 246 => 74 | 283 => 79 | 284 => 80 | 285 => 81 | 286 => 82 | 129 => 90 | 317 => 89 | 318 => 91 | 319 => 92 | 320 => 93 | 337 => 97 | 338 => 98 | n => n, fun | 3 => 3 | 9 => 9 | 2 => 2 | 4 => 4 | 171 => 126 | 0 => 0 | 53 => 127 | 37 => 69 | 5 => 5 | 173 => 130 | 212 => 140 | 51 => 141 | 20 => 20 | 213 => 142 | 46 => 144 | 232 => 156 | 233 => 157 | n => n, fun | 17 => 0 | 18 => 4 | 19 => 5 | n => n⟩
theorem Tryd.laysM171 : Go.Proofs.LaysM.n171 Tryd.prog Tryd.laysM171_ren := {
 mixed := by kernel_rfl
 f129 := Tryd.func90.trans (congrArg some (by kernel_rfl))
 f171 := Tryd.func58.trans (congrArg some (by kernel_rfl))
 f243 := Tryd.func67.trans (congrArg some (by kernel_rfl))
 f246 := Tryd.func74.trans (congrArg some (by kernel_rfl))
 f283 := Tryd.func79.trans (congrArg some (by kernel_rfl))
 f284 := Tryd.func80.trans (congrArg some (by kernel_rfl))
 f285 := Tryd.func81.trans (congrArg some (by kernel_rfl))
 f286 := Tryd.func82.trans (congrArg some (by kernel_rfl))
 f317 := Tryd.func89.trans (congrArg some (by kernel_rfl))
 f318 := Tryd.func91.trans (congrArg some (by kernel_rfl))
 f319 := Tryd.func92.trans (congrArg some (by kernel_rfl))
 f320 := Tryd.func93.trans (congrArg some (by kernel_rfl))
 f337 := Tryd.func97.trans (congrArg some (by kernel_rfl))
 f338 := Tryd.func98.trans (congrArg some (by kernel_rfl))
 t0 := Tryd.underlying0
 a0 := Tryd.isAgg0
 z0 := Tryd.sizeOf0
 v0 := Tryd.zeroValue0
 t2 := Tryd.underlying2
 a2 := Tryd.isAgg2
 z2 := Tryd.sizeOf2
 v2 := Tryd.zeroValue2
 t3 := Tryd.underlying3
 a3 := Tryd.isAgg3
 z3 := Tryd.sizeOf3
 v3 := Tryd.zeroValue3
 t4 := Tryd.underlying4
 a4 := Tryd.isAgg4
 z4 := Tryd.sizeOf4
 v4 := Tryd.zeroValue4
 t5 := Tryd.underlying5
 a5 := Tryd.isAgg5
 z5 := Tryd.sizeOf5
 v5 := Tryd.zeroValue5
 t9 := Tryd.underlying9
 a9 := Tryd.isAgg9
 z9 := Tryd.sizeOf9
 v9 := Tryd.zeroValue9
 t20 := Tryd.underlying20
 a20 := Tryd.isAgg20
 z20 := Tryd.sizeOf20
 v20 := Tryd.zeroValue20
 t37 := Tryd.underlying69
 a37 := Tryd.isAgg69
 z37 := Tryd.sizeOf69
 v37 := Tryd.zeroValue69
 t46 := Tryd.underlying144
 a46 := Tryd.isAgg144
 z46 := Tryd.sizeOf144
 v46 := Tryd.zeroValue144
 t51 := Tryd.underlying141
 a51 := Tryd.isAgg141
 z51 := Tryd.sizeOf141
 v51 := Tryd.zeroValue141
 t53 := Tryd.underlying127
 a53 := Tryd.isAgg127
 z53 := Tryd.sizeOf127
 v53 := Tryd.zeroValue127
 t171 := Tryd.underlying126
 a171 := Tryd.isAgg126
 z171 := Tryd.sizeOf126
 v171 := Tryd.zeroValue126
 t173 := Tryd.underlying130
 a173 := Tryd.isAgg130
 z173 := Tryd.sizeOf130
 v173 := Tryd.zeroValue130
 t212 := Tryd.underlying140
 a212 := Tryd.isAgg140
 z212 := Tryd.sizeOf140
 v212 := Tryd.zeroValue140
 t213 := Tryd.underlying142
 a213 := Tryd.isAgg142
 z213 := Tryd.sizeOf142
 t232 := Tryd.underlying156
 a232 := Tryd.isAgg156
 z232 := Tryd.sizeOf156
 v232 := Tryd.zeroValue156
 t233 := Tryd.underlying157
 a233 := Tryd.isAgg157
 z233 := Tryd.sizeOf157
 v233 := Tryd.zeroValue157
 g17 := by kernel_rfl
 g18 := by kernel_rfl
 g19 := by kernel_rfl
 i0 := by kernel_rfl
 i2 := by kernel_rfl
 i3 := by kernel_rfl
 i4 := by kernel_rfl
 i5 := by kernel_rfl
 i9 := by kernel_rfl
 i20 := by kernel_rfl
 i37 := by kernel_rfl
 i46 := by kernel_rfl
 i51 := by kernel_rfl
 i53 := by kernel_rfl
 i171 := by kernel_rfl
 i173 := by kernel_rfl
 i212 := by kernel_rfl
 i232 := by kernel_rfl
 i233 := by kernel_rfl
 m17 := by kernel_rfl
 m18 := by kernel_rfl
 m19 := by kernel_rfl }
open Go.RowKit Go.Sort Go.Lib in
theorem Tryd.strconv_Itoa (n : Int) (h0 : -9223372036854775808 ≤ n) (h1 : n ≤ 9223372036854775807) (w : World) (htab : Lib.TabIs Tryd.prog w "internal/strconv.uint64pow10" .u64 Lib.pow10Tab) :
  Calls Tryd.prog 58 #[.int .i64 n] w fun e w' => e = .returned (.string ⟨(Lib.itoa n).toArray⟩) ∧ ∃ k os, w' = grow (w.drewN k) os := Any.strconv_Itoa Tryd.laysM171 n h0 h1 w htab
def Tryd.laysC172_ren : Go.Shelf.Ren := ⟨fun | 172 => 70 | 244 => 76 | 245 => 77 | 247 => 84 | 279 => 85 | 280 => 86 | 281 => 87 | 282 => 88 | 287 => 94 | 316 => 95 | 171 => 58 | 205 => 96 | 321 => 99 | 322 => 100 | 243 => 67 | 246 => 74 | 283 => 79 | 284 => 80 | 285 => 81 | 286 => 82 | 129 => 90 | 317 => 89 | 318 => 91 | 319 => 92 | 320 => 93 | 337 => 97 | 338 => 98 | n => n, fun | 9 => 9 | 3 => 3 | 75 => 73 | 76 => 75 | 4 => 4 | 5 => 5 | 167 => 132 | 37 => 69 | 0 => 0 | 85 => 133 | 2 => 2 | 168 => 135 | 53 => 127 | 175 => 146 | 46 => 144 | 210 => 149 | 127 => 90 | 145 => 155 | 143 => 153 | 21 => 21 | 171 => 126 | 173 => 130 | 212 => 140 | 51 => 141 | 20 => 20 | 213 => 142 | 232 => 156 | 233 => 157 | 80 => 77 | n => n, fun | 15 => 2 | 16 => 3 | 17 => 0 | 18 => 4 | 19 => 5 | n => n⟩
theorem Tryd.laysC172 : Go.Proofs.LaysC.n172 Tryd.prog Tryd.laysC172_ren := {
 mixed := by kernel_rfl
 f129 := Tryd.func90.trans (congrArg some (by kernel_rfl))
 f171 := Tryd.func58.trans (congrArg some (by kernel_rfl))
 f172 := Tryd.func70.trans (congrArg some (by kernel_rfl))
 f205 := Tryd.func96.trans (congrArg some (by kernel_rfl))
 f243 := Tryd.func67.trans (congrArg some (by kernel_rfl))
 f244 := Tryd.func76.trans (congrArg some (by kernel_rfl))
 f245 := Tryd.func77.trans (congrArg some (by kernel_rfl))
 f246 := Tryd.func74.trans (congrArg some (by kernel_rfl))
 f247 := Tryd.func84.trans (congrArg some (by kernel_rfl))
 f279 := Tryd.func85.trans (congrArg some (by kernel_rfl))
 f280 := Tryd.func86.trans (congrArg some (by kernel_rfl))
 f281 := Tryd.func87.trans (congrArg some (by kernel_rfl))
 f282 := Tryd.func88.trans (congrArg some (by kernel_rfl))
 f283 := Tryd.func79.trans (congrArg some (by kernel_rfl))
 f284 := Tryd.func80.trans (congrArg some (by kernel_rfl))
 f285 := Tryd.func81.trans (congrArg some (by kernel_rfl))
 f286 := Tryd.func82.trans (congrArg some (by kernel_rfl))
 f287 := Tryd.func94.trans (congrArg some (by kernel_rfl))
 f316 := Tryd.func95.trans (congrArg some (by kernel_rfl))
 f317 := Tryd.func89.trans (congrArg some (by kernel_rfl))
 f318 := Tryd.func91.trans (congrArg some (by kernel_rfl))
 f319 := Tryd.func92.trans (congrArg some (by kernel_rfl))
 f320 := Tryd.func93.trans (congrArg some (by kernel_rfl))
 f321 := Tryd.func99.trans (congrArg some (by kernel_rfl))
 f322 := Tryd.func100.trans (congrArg some (by kernel_rfl))
 f337 := Tryd.func97.trans (congrArg some (by kernel_rfl))
 f338 := Tryd.func98.trans (congrArg some (by kernel_rfl))
 t0 := Tryd.underlying0
 a0 := Tryd.isAgg0
 z0 := Tryd.sizeOf0
 v0 := Tryd.zeroValue0
 t2 := Tryd.underlying2
 a2 := Tryd.isAgg2
 z2 := Tryd.sizeOf2
 v2 := Tryd.zeroValue2
 t3 := Tryd.underlying3
 a3 := Tryd.isAgg3
 z3 := Tryd.sizeOf3
 v3 := Tryd.zeroValue3
 t4 := Tryd.underlying4
 a4 := Tryd.isAgg4
 z4 := Tryd.sizeOf4
 v4 := Tryd.zeroValue4
 t5 := Tryd.underlying5
 a5 := Tryd.isAgg5
 z5 := Tryd.sizeOf5
 v5 := Tryd.zeroValue5
 t9 := Tryd.underlying9
 a9 := Tryd.isAgg9
 z9 := Tryd.sizeOf9
 v9 := Tryd.zeroValue9
 t20 := Tryd.underlying20
 a20 := Tryd.isAgg20
 z20 := Tryd.sizeOf20
 v20 := Tryd.zeroValue20
 t21 := Tryd.underlying21
 a21 := Tryd.isAgg21
 z21 := Tryd.sizeOf21
 v21 := Tryd.zeroValue21
 t37 := Tryd.underlying69
 a37 := Tryd.isAgg69
 z37 := Tryd.sizeOf69
 v37 := Tryd.zeroValue69
 t46 := Tryd.underlying144
 a46 := Tryd.isAgg144
 z46 := Tryd.sizeOf144
 v46 := Tryd.zeroValue144
 t51 := Tryd.underlying141
 a51 := Tryd.isAgg141
 z51 := Tryd.sizeOf141
 v51 := Tryd.zeroValue141
 t53 := Tryd.underlying127
 a53 := Tryd.isAgg127
 z53 := Tryd.sizeOf127
 v53 := Tryd.zeroValue127
 t75 := Tryd.underlying73
 a75 := Tryd.isAgg73
 z75 := Tryd.sizeOf73
 v75 := Tryd.zeroValue73
 t76 := Tryd.underlying75
 a76 := Tryd.isAgg75
 z76 := Tryd.sizeOf75
 v76 := Tryd.zeroValue75
 t85 := Tryd.underlying133
 a85 := Tryd.isAgg133
 z85 := Tryd.sizeOf133
 v85 := Tryd.zeroValue133
 t127 := Tryd.underlying90
 a127 := Tryd.isAgg90
 z127 := Tryd.sizeOf90
 v127 := Tryd.zeroValue90
 t143 := Tryd.underlying153
 a143 := Tryd.isAgg153
 z143 := Tryd.sizeOf153
 v143 := Tryd.zeroValue153
 t145 := Tryd.underlying155
 a145 := Tryd.isAgg155
 z145 := Tryd.sizeOf155
 v145 := Tryd.zeroValue155
 t167 := Tryd.underlying132
 a167 := Tryd.isAgg132
 z167 := Tryd.sizeOf132
 v167 := Tryd.zeroValue132
 t168 := Tryd.underlying135
 a168 := Tryd.isAgg135
 z168 := Tryd.sizeOf135
 v168 := Tryd.zeroValue135
 t171 := Tryd.underlying126
 a171 := Tryd.isAgg126
 z171 := Tryd.sizeOf126
 v171 := Tryd.zeroValue126
 t173 := Tryd.underlying130
 a173 := Tryd.isAgg130
 z173 := Tryd.sizeOf130
 v173 := Tryd.zeroValue130
 t175 := Tryd.underlying146
 a175 := Tryd.isAgg146
 z175 := Tryd.sizeOf146
 v175 := Tryd.zeroValue146
 t210 := Tryd.underlying149
 a210 := Tryd.isAgg149
 z210 := Tryd.sizeOf149
 v210 := Tryd.zeroValue149
 t212 := Tryd.underlying140
 a212 := Tryd.isAgg140
 z212 := Tryd.sizeOf140
 v212 := Tryd.zeroValue140
 t213 := Tryd.underlying142
 a213 := Tryd.isAgg142
 z213 := Tryd.sizeOf142
 t232 := Tryd.underlying156
 a232 := Tryd.isAgg156
 z232 := Tryd.sizeOf156
 v232 := Tryd.zeroValue156
 t233 := Tryd.underlying157
 a233 := Tryd.isAgg157
 z233 := Tryd.sizeOf157
 v233 := Tryd.zeroValue157
 g15 := by kernel_rfl
 g16 := by kernel_rfl
 g17 := by kernel_rfl
 g18 := by kernel_rfl
 g19 := by kernel_rfl
 t80 := Tryd.underlying77
 a80 := Tryd.isAgg77
 z80 := Tryd.sizeOf77
 v80 := Tryd.zeroValue77
 i0 := by kernel_rfl
 i2 := by kernel_rfl
 i3 := by kernel_rfl
 i4 := by kernel_rfl
 i5 := by kernel_rfl
 i9 := by kernel_rfl
 i20 := by kernel_rfl
 i21 := by kernel_rfl
 i37 := by kernel_rfl
 i46 := by kernel_rfl
 i51 := by kernel_rfl
 i53 := by kernel_rfl
 i75 := by kernel_rfl
 i76 := by kernel_rfl
 i80 := by kernel_rfl
 i85 := by kernel_rfl
 i127 := by kernel_rfl
 i143 := by kernel_rfl
 i145 := by kernel_rfl
 i167 := by kernel_rfl
 i168 := by kernel_rfl
 i171 := by kernel_rfl
 i173 := by kernel_rfl
 i175 := by kernel_rfl
 i210 := by kernel_rfl
 i212 := by kernel_rfl
 i232 := by kernel_rfl
 i233 := by kernel_rfl
 m15 := by kernel_rfl
 m16 := by kernel_rfl
 m17 := by kernel_rfl
 m18 := by kernel_rfl
 m19 := by kernel_rfl
 c0 := by kernel_rfl
 c2 := by kernel_rfl
 c3 := by kernel_rfl
 c4 := by kernel_rfl
 c5 := by kernel_rfl
 c9 := by kernel_rfl
 c20 := by kernel_rfl
 c21 := by kernel_rfl
 c37 := by kernel_rfl
 c46 := by kernel_rfl
 c51 := by kernel_rfl
 c53 := by kernel_rfl
 c75 := by kernel_rfl
 c76 := by kernel_rfl
 c80 := by kernel_rfl
 c85 := by kernel_rfl
 c127 := by kernel_rfl
 c143 := by kernel_rfl
 c145 := by kernel_rfl
 c167 := by kernel_rfl
 c168 := by kernel_rfl
 c171 := by kernel_rfl
 c173 := by kernel_rfl
 c175 := by kernel_rfl
 c210 := by kernel_rfl
 c212 := by kernel_rfl
 c213 := by kernel_rfl
 c232 := by kernel_rfl
 c233 := by kernel_rfl }
open Go.RowKit in
theorem Tryd.strconv_Atoi_ok (s : ByteArray) (hmax : s.size ≤ 9223372036854775806) (v : Int) (h : Lib.atoiAll s.data.toList = .ok v) (w : World) :
  Calls Tryd.prog 70 #[.string s] w fun e w' => e = .returned (.tuple #[.int .i64 v, .nilIface]) ∧ (w' = w ∨ ∃ t, w' = Lib.bytesWorld w 5 t) := Any.strconv_Atoi_ok Tryd.laysC172 s hmax v h w
open Go.RowKit in
theorem Tryd.strconv_Atoi_syntax_var (s : ByteArray) (hlim : s.size ≤ 281474976710656) (h : Lib.atoiAll s.data.toList = Lib.NumEnd.syntax) (tp : TypeId) (p : Value) (w : World) (hvar : w.var? Tryd.prog "strconv.ErrSyntax" = some #[.iface tp p]) :
  Calls Tryd.prog 70 #[.string s] w fun e w' => ∃ N, e = .returned (.tuple #[.int .i64 0, .iface 135 (.pointer (some ⟨N, 0, none⟩))]) ∧ w.heap.size ≤ N ∧ w'.heap[N]? = some (.cells #[.string ⟨#[65, 116, 111, 105]⟩, .string s, .iface tp p] 149 (0, 0)) ∧ Below w.heap.size w w' := Any.strconv_Atoi_syntax_var Tryd.laysC172 s hlim h tp p w hvar
open Go.RowKit in
theorem Tryd.strconv_Atoi_range_var (s : ByteArray) (hlim : s.size ≤ 281474976710656) (h : Lib.atoiAll s.data.toList = .range) (tp : TypeId) (p : Value) (w : World) (hvar : w.var? Tryd.prog "strconv.ErrRange" = some #[.iface tp p]) :
  Calls Tryd.prog 70 #[.string s] w fun e w' => ∃ N, e = .returned (.tuple #[.int .i64 (Lib.atoiSat s.data.toList), .iface 135 (.pointer (some ⟨N, 0, none⟩))]) ∧ w.heap.size ≤ N ∧ w'.heap[N]? = some (.cells #[.string ⟨#[65, 116, 111, 105]⟩, .string s, .iface tp p] 149 (0, 0)) ∧ Below w.heap.size w w' := Any.strconv_Atoi_range_var Tryd.laysC172 s hlim h tp p w hvar
def Tryd.lays167_ren : Go.Shelf.Ren := ⟨fun | 167 => 24 | 240 => 38 | 276 => 56 | n => n, fun | 0 => 0 | 4 => 4 | 5 => 5 | 9 => 9 | 20 => 20 | 37 => 69 | 70 => 68 | 72 => 71 | 75 => 73 | 80 => 77 | 164 => 103 | n => n, fun | n => n⟩
theorem Tryd.lays167 : Go.Proofs.Lays.n167 Tryd.prog Tryd.lays167_ren := {
 mixed := by kernel_rfl
 f167 := Tryd.func24.trans (congrArg some (by kernel_rfl))
 f240 := Tryd.func38.trans (congrArg some (by kernel_rfl))
 f276 := Tryd.func56.trans (congrArg some (by kernel_rfl))
 t0 := Tryd.underlying0
 a0 := Tryd.isAgg0
 z0 := Tryd.sizeOf0
 v0 := Tryd.zeroValue0
 t4 := Tryd.underlying4
 a4 := Tryd.isAgg4
 z4 := Tryd.sizeOf4
 v4 := Tryd.zeroValue4
 t5 := Tryd.underlying5
 a5 := Tryd.isAgg5
 z5 := Tryd.sizeOf5
 v5 := Tryd.zeroValue5
 t9 := Tryd.underlying9
 a9 := Tryd.isAgg9
 z9 := Tryd.sizeOf9
 v9 := Tryd.zeroValue9
 t20 := Tryd.underlying20
 a20 := Tryd.isAgg20
 z20 := Tryd.sizeOf20
 v20 := Tryd.zeroValue20
 t37 := Tryd.underlying69
 a37 := Tryd.isAgg69
 z37 := Tryd.sizeOf69
 v37 := Tryd.zeroValue69
 t70 := Tryd.underlying68
 a70 := Tryd.isAgg68
 z70 := Tryd.sizeOf68
 v70 := Tryd.zeroValue68
 t72 := Tryd.underlying71
 a72 := Tryd.isAgg71
 z72 := Tryd.sizeOf71
 v72 := Tryd.zeroValue71
 t75 := Tryd.underlying73
 a75 := Tryd.isAgg73
 z75 := Tryd.sizeOf73
 v75 := Tryd.zeroValue73
 t164 := Tryd.underlying103
 a164 := Tryd.isAgg103
 z164 := Tryd.sizeOf103
 v164 := Tryd.zeroValue103 }
theorem Tryd.Builder_Extra_167 : Builder.Extra Tryd.prog Tryd.lays167_ren := {
 sizeBuilder := by kernel_rfl
 liesBuilder := by kernel_rfl
 t5 := Tryd.underlying5
 a5 := Tryd.isAgg5
 z5 := Tryd.sizeOf5
 v5 := Tryd.zeroValue5
 infoByte := by kernel_rfl
 cellsByte := by kernel_rfl
 sizeByte := by kernel_rfl
 neB5 := by decide }
def Tryd.lays166_ren : Go.Shelf.Ren := ⟨fun | 166 => 25 | 240 => 38 | 276 => 56 | n => n, fun | 0 => 0 | 3 => 3 | 4 => 4 | 5 => 5 | 9 => 9 | 20 => 20 | 37 => 69 | 70 => 68 | 72 => 71 | 75 => 73 | 80 => 77 | 164 => 103 | n => n, fun | n => n⟩
theorem Tryd.lays166 : Go.Proofs.Lays.n166 Tryd.prog Tryd.lays166_ren := {
 mixed := by kernel_rfl
 f166 := Tryd.func25.trans (congrArg some (by kernel_rfl))
 f240 := Tryd.func38.trans (congrArg some (by kernel_rfl))
 f276 := Tryd.func56.trans (congrArg some (by kernel_rfl))
 t0 := Tryd.underlying0
 a0 := Tryd.isAgg0
 z0 := Tryd.sizeOf0
 v0 := Tryd.zeroValue0
 t3 := Tryd.underlying3
 a3 := Tryd.isAgg3
 z3 := Tryd.sizeOf3
 v3 := Tryd.zeroValue3
 t4 := Tryd.underlying4
 a4 := Tryd.isAgg4
 z4 := Tryd.sizeOf4
 v4 := Tryd.zeroValue4
 t9 := Tryd.underlying9
 a9 := Tryd.isAgg9
 z9 := Tryd.sizeOf9
 v9 := Tryd.zeroValue9
 t20 := Tryd.underlying20
 a20 := Tryd.isAgg20
 z20 := Tryd.sizeOf20
 v20 := Tryd.zeroValue20
 t37 := Tryd.underlying69
 a37 := Tryd.isAgg69
 z37 := Tryd.sizeOf69
 v37 := Tryd.zeroValue69
 t70 := Tryd.underlying68
 a70 := Tryd.isAgg68
 z70 := Tryd.sizeOf68
 v70 := Tryd.zeroValue68
 t72 := Tryd.underlying71
 a72 := Tryd.isAgg71
 z72 := Tryd.sizeOf71
 v72 := Tryd.zeroValue71
 t75 := Tryd.underlying73
 a75 := Tryd.isAgg73
 z75 := Tryd.sizeOf73
 v75 := Tryd.zeroValue73
 t164 := Tryd.underlying103
 a164 := Tryd.isAgg103
 z164 := Tryd.sizeOf103
 v164 := Tryd.zeroValue103 }
theorem Tryd.Builder_Extra_166 : Builder.Extra Tryd.prog Tryd.lays166_ren := {
 sizeBuilder := by kernel_rfl
 liesBuilder := by kernel_rfl
 t5 := Tryd.underlying5
 a5 := Tryd.isAgg5
 z5 := Tryd.sizeOf5
 v5 := Tryd.zeroValue5
 infoByte := by kernel_rfl
 cellsByte := by kernel_rfl
 sizeByte := by kernel_rfl
 neB5 := by decide }
open Go.RowKit in
theorem Tryd.Builder_WriteByte_k (B b : Nat) (bs : List Value) (c : Int) (w : World) (h : Lib.IsBuilderF 71 5 B b bs w) (hlen : bs.length + 1 ≤ 140737488355328) (hBw : B ≤ w.heap.size) :
  Calls Tryd.prog 24 #[.pointer (some ⟨b, 0, none⟩), .int .u8 c] w fun e w' => e = .returned .nilIface ∧ (Lib.BuilderAtF 71 5 B b (.pointer (some ⟨b, 0, none⟩)) (bs ++ [.int .u8 c]) w' ∧ Below B w w' ∧ Lib.OthersKept 5 (some b) w w') := Any.Builder_WriteByte_k Tryd.lays167 Tryd.Builder_Extra_167 B b bs c w h hlen hBw
open Go.RowKit in
theorem Tryd.Builder_WriteString_k (B b : Nat) (bs : List Value) (s : ByteArray) (w : World) (h : Lib.IsBuilderF 71 5 B b bs w) (hlen : bs.length + s.size ≤ 140737488355328) (hBw : B ≤ w.heap.size) :
  Calls Tryd.prog 25 #[.pointer (some ⟨b, 0, none⟩), .string s] w fun e w' => e = .returned (.tuple #[.int .i64 s.size, .nilIface]) ∧ (Lib.BuilderAtF 71 5 B b (.pointer (some ⟨b, 0, none⟩)) (bs ++ Lib.strCells s) w' ∧ Below B w w' ∧ Lib.OthersKept 5 (some b) w w') := Any.Builder_WriteString_k Tryd.lays166 Tryd.Builder_Extra_166 B b bs s w h hlen hBw
end Go.Proofs
namespace Go.Proofs.YtjbobecnlpiejaaDoor.Q
open Go.Proofs.YtjbobecnlpiejaaDoorZ
open Go.RowKit Go.Proofs.YtjbobecnlpiejaaDoorW.PrintWords Go.Proofs.YtjbobecnlpiejaaDoorW.PrintLast Go.Proofs.YtjbobecnlpiejaaDoorW.PrintMore
attribute [local go_sem] qvb qwb qzb qyb
def errW : Option Int → Value
 | none => .nilIface
 | some c => .iface 0 (.int .i64 c)
theorem qr : errW none = .nilIface := rfl
theorem qt (c : Int) : errW (some c) = .iface 0 (.int .i64 c) := rfl
def Glob (w : World) : Prop := Lib.TabIs Tryd.prog w "internal/strconv.uint64pow10" .u64 Lib.pow10Tab ∧ (∃ tp p, w.var? Tryd.prog "strconv.ErrSyntax" = some #[.iface tp p]) ∧ ∃ tp p, w.var? Tryd.prog "strconv.ErrRange" = some #[.iface tp p]
theorem var_keeps {P : Program} {w w' : World} {n : String} {cs : Array Value} (h : w.var? P n = some cs) (hb : Below w.heap.size w w') : w'.var? P n = some cs := by
 unfold World.var? at h ⊢
 obtain ⟨g, hg, h⟩ := Option.bind_eq_some_iff.1 h
 have hlt : g < w.heap.size := by
  rcases Nat.lt_or_ge g w.heap.size with h1 | h1
  ·exact h1
  ·rw [Array.getElem?_eq_none h1] at h; cases h
 rw [hg]
 simp only [Option.bind_some]
 rw [hb.block g hlt]
 exact h
theorem Glob.below {w w' : World} (h : Glob w) (hb : Below w.heap.size w w') : Glob w' := by
 obtain ⟨h1, ⟨tp, p, h2⟩, tp', p', h3⟩ := h
 exact ⟨var_keeps h1 hb, ⟨tp, p, var_keeps h2 hb⟩, tp', p', var_keeps h3 hb⟩
theorem R_empty {α : Type} (d : Kd α) (e : Nat) (W : World) (base : Nat) (hb : base ≤ W.heap.size) : d.R e (W.alloc (.cells #[] e)) base (fun _ => True) (.slice (some ⟨W.heap.size, 0, none⟩) 0 0) [] :=
 ⟨fun _ _ => trivial, [], ⟨by simp, .inr ⟨W.heap.size, 0, #[], rfl, hb, heap_alloc_new W _, by simp, by simp, by simp, by simp⟩⟩, Reps.none _ _⟩
def Bld (B : Nat) (l : List UInt8) (W : World) : Prop := Lib.IsBuilderF 71 5 B B (Lib.byteCells l) W
theorem Bld.below {B : Nat} {l : List UInt8} {W W1 : World} (h : Bld B l W) (hb : Below W.heap.size W W1) : Bld B l W1 := by
 have key : ∀ p, Lib.BuilderAtF 71 5 B B p (Lib.byteCells l) W → Lib.BuilderAtF 71 5 B B p (Lib.byteCells l) W1 := by
  rintro p ⟨hB, v, hv, hown, hne⟩
  have hlt : B < W.heap.size := (Array.getElem?_eq_some_iff.1 hv).1
  exact ⟨hB, v, (hb.block B hlt).trans hv, hown.kept (grown_of_below hb none) (by cases v.ownBlock <;> simp), hne⟩
 exact h.imp (key _) (key _)
theorem Bld.fresh (w : World) : Bld w.heap.size [] (w.alloc (.cells #[.pointer none, .slice none 0 0] 71)) := Lib.IsBuilderF.of (Lib.fresh_isBuilder _ _ w)
theorem Bld.byte (B : Nat) (l : List UInt8) (c : Int) (w : World) (h : Bld B l w) (h0 : 0 ≤ c) (h1 : c ≤ 255) (hlen : l.length + 1 ≤ 140737488355328) (hB : B ≤ w.heap.size) :
  Calls Tryd.prog 24 #[.pointer (some ⟨B, 0, none⟩), .int .u8 c] w fun e w' => e = .returned .nilIface ∧ Bld B (l ++ [c.toNat.toUInt8]) w' ∧ Below B w w' ∧ Lib.OthersKept 5 (some B) w w' := by
 refine (Tryd.Builder_WriteByte_k B B _ c w h (by rw [Lib.byteCells_length]; exact hlen) hB).mono ?_
 rintro e w' ⟨rfl, h2, hb, ho⟩
 refine ⟨rfl, .inr ?_, hb, ho⟩
 rw [Lib.byteCells_append]
 have hc : ((c.toNat.toUInt8).toNat : Int) = c := by
  obtain ⟨n, rfl⟩ := Int.eq_ofNat_of_zero_le h0
  simp
  omega
 have e1 : Lib.byteCells [c.toNat.toUInt8] = [.int .u8 c] := by simp only [Lib.byteCells, List.map_cons, List.map_nil, hc]
 rw [e1]
 exact h2
theorem Bld.str (B : Nat) (l : List UInt8) (s : ByteArray) (w : World) (h : Bld B l w) (hlen : l.length + s.size ≤ 140737488355328) (hB : B ≤ w.heap.size) :
  Calls Tryd.prog 25 #[.pointer (some ⟨B, 0, none⟩), .string s] w fun e w' => e = .returned (.tuple #[.int .i64 s.size, .nilIface]) ∧ Bld B (l ++ s.data.toList) w' ∧ Below B w w' ∧ Lib.OthersKept 5 (some B) w w' := by
 refine (Tryd.Builder_WriteString_k B B _ s w h (by rw [Lib.byteCells_length]; exact hlen) hB).mono ?_
 rintro e w' ⟨rfl, h2, hb, ho⟩
 refine ⟨rfl, .inr ?_, hb, ho⟩
 rw [Lib.byteCells_append]
 exact h2
theorem Bld.out (B : Nat) (l : List UInt8) (w : World) (h : Bld B l w) (hB : B ≤ w.heap.size) :
  Calls Tryd.prog 27 #[.pointer (some ⟨B, 0, none⟩)] w fun e w' => e = .returned (.string ⟨l.toArray⟩) ∧ Below B w w' := by
 refine (Tryd.Builder_String_any_k B B l w h hB).mono ?_
 rintro e w' ⟨rfl, _, hb, _⟩
 exact ⟨rfl, hb⟩
theorem info3 : (Tryd.prog.info? 3).map (fun i => (i.zero, i.size, i.bytes)) = some (some (.int .i64 0), 1, 8) := by kernel_rfl
theorem info41 : (Tryd.prog.info? 41).map (fun i => (i.zero, i.size, i.bytes)) = some (some (.agg #[(.bool false), (.bool false), (.string ⟨#[]⟩), (.string ⟨#[]⟩), (.slice none 0 0)]), 5, 64) := by kernel_rfl
theorem info46 : (Tryd.prog.info? 46).map (fun i => (i.zero, i.size, i.bytes)) = some (some (.agg #[(.int .i64 0), (.int .i64 0), (.string ⟨#[]⟩), (.string ⟨#[]⟩), (.string ⟨#[]⟩), (.slice none 0 0)]), 6, 88) := by kernel_rfl
theorem info60 : (Tryd.prog.info? 60).map (fun i => (i.zero, i.size, i.bytes)) = some (some (.agg #[(.bool false), (.bool false), (.string ⟨#[]⟩), (.string ⟨#[]⟩), (.slice none 0 0)]), 5, 64) := by kernel_rfl
theorem info61 : (Tryd.prog.info? 61).map (fun i => (i.zero, i.size, i.bytes)) = some (some (.agg #[(.string ⟨#[]⟩), (.string ⟨#[]⟩), (.bool false)]), 3, 40) := by kernel_rfl
theorem info84 : (Tryd.prog.info? 84).map (fun i => (i.zero, i.size, i.bytes)) = some (some (.agg #[(.string ⟨#[]⟩), (.string ⟨#[]⟩), (.string ⟨#[]⟩), (.slice none 0 0), (.slice none 0 0)]), 5, 96) := by kernel_rfl
structure S33 where
 f0 : ByteArray
 f1 : ByteArray
 f2 : Bool
def z33 : S33 := ⟨(⟨#[]⟩ : ByteArray), (⟨#[]⟩ : ByteArray), false⟩
def k33 : Kd S33 := Kd.iso (Kd.pair Kd.string (Kd.pair Kd.string Kd.bool)) (fun x : S33 => (x.f0, x.f1, x.f2))
theorem k33_open {w : World} {x : S33} {cs : List Value} (h : k33.K w x cs) : cs = [.string x.f0, .string x.f1, .bool x.f2] := by
 obtain ⟨_, _, rfl, rfl, ⟨_, _, rfl, rfl, rfl⟩⟩ := h
 exact rfl
theorem k33_mkM (w : World) (base : Nat) (ok : Nat → Prop) (x : S33)  : k33.M w base ok x [.string x.f0, .string x.f1, .bool x.f2] := ⟨[.string x.f0], [.string x.f1, .bool x.f2], rfl, rfl, ⟨[.string x.f1], [.bool x.f2], rfl, rfl, rfl⟩⟩
def rd_T33 (xs : List S33) (i : Int) : S33 := xs.getD i.toNat z33
theorem at_T33 {w : World} {A : Option Addr} {n : Nat} {xs : List S33} (h : Kd.C k33 w A n xs) (i : Int) (h0 : 0 ≤ i) (h1 : i < n) : ∃ ad , A = some ad ∧ w.cell? (ad.add (i.toNat * 3)) = some (.string (rd_T33 xs i).f0) ∧ w.cell? ⟨(ad.add (i.toNat * 3)).block, (ad.add (i.toNat * 3)).off + 1, none⟩ = some (.string (rd_T33 xs i).f1) ∧ w.cell? ⟨(ad.add (i.toNat * 3)).block, (ad.add (i.toNat * 3)).off + 2, none⟩ = some (.bool (rd_T33 xs i).f2) := by
 obtain ⟨ad, c, e, _, hK, hc0⟩ := Kd.C_get h z33 i h0 h1
 have hc : ∀ j u, c[j]? = some u → w.cell? (ad.add (i.toNat * 3 + j)) = some u := hc0
 obtain rfl := k33_open hK
 exact ⟨ad, e, hc 0 _ rfl, zz8, zz9⟩
structure S41 where
 f0 : Bool
 f1 : Bool
 f2 : ByteArray
 f3 : ByteArray
 f4 : (List S33)
def z41 : S41 := ⟨false, false, (⟨#[]⟩ : ByteArray), (⟨#[]⟩ : ByteArray), ([] : List S33)⟩
def k41 : Kd S41 := Kd.iso (Kd.pair Kd.bool (Kd.pair Kd.bool (Kd.pair Kd.string (Kd.pair Kd.string (Kd.slice 33 k33))))) (fun x : S41 => (x.f0, x.f1, x.f2, x.f3, x.f4))
theorem k41_open {w : World} {x : S41} {cs : List Value} (h : k41.K w x cs) : ∃ A4 c4, cs = [.bool x.f0, .bool x.f1, .string x.f2, .string x.f3, .slice A4 x.f4.length c4] ∧ x.f4.length ≤ c4 ∧ k33.C w A4 x.f4.length x.f4 := by
 obtain ⟨_, _, rfl, rfl, ⟨_, _, rfl, rfl, ⟨_, _, rfl, rfl, ⟨_, _, rfl, rfl, ⟨A4, c4, rfl, l4, g4⟩⟩⟩⟩⟩ := h
 exact ⟨A4, c4, rfl, l4, g4⟩
theorem k41_mk (w : World) (x : S41) {A4 : Option Addr} {c4 : Nat} (l4 : x.f4.length ≤ c4) (g4 : k33.C w A4 x.f4.length x.f4) : k41.K w x [.bool x.f0, .bool x.f1, .string x.f2, .string x.f3, .slice A4 x.f4.length c4] := ⟨[.bool x.f0], [.bool x.f1, .string x.f2, .string x.f3, .slice A4 x.f4.length c4], rfl, rfl, ⟨[.bool x.f1], [.string x.f2, .string x.f3, .slice A4 x.f4.length c4], rfl, rfl, ⟨[.string x.f2], [.string x.f3, .slice A4 x.f4.length c4], rfl, rfl, ⟨[.string x.f3], [.slice A4 x.f4.length c4], rfl, rfl, ⟨A4, c4, rfl, l4, g4⟩⟩⟩⟩⟩
theorem k41_mkF (W : World) (ok : Nat → Prop) (x : S41) {A4 : Option Addr} {c4 : Nat} (l4 : x.f4.length ≤ c4) (g4 : Kd.F k33 W ok A4 x.f4.length x.f4) : Kd.FK k41 W ok x [.bool x.f0, .bool x.f1, .string x.f2, .string x.f3, .slice A4 x.f4.length c4] := fun W2 hW => k41_mk W2 x l4 (g4 W2 hW)
def qu (xs : List S41) (i : Int) : S41 := xs.getD i.toNat z41
theorem at_T41 {w : World} {A : Option Addr} {n : Nat} {xs : List S41} (h : Kd.C k41 w A n xs) (i : Int) (h0 : 0 ≤ i) (h1 : i < n) : ∃ ad A4 c4, A = some ad ∧ w.cell? (ad.add (i.toNat * 5)) = some (.bool (qu xs i).f0) ∧ w.cell? ⟨(ad.add (i.toNat * 5)).block, (ad.add (i.toNat * 5)).off + 1, none⟩ = some (.bool (qu xs i).f1) ∧ w.cell? ⟨(ad.add (i.toNat * 5)).block, (ad.add (i.toNat * 5)).off + 2, none⟩ = some (.string (qu xs i).f2) ∧ w.cell? ⟨(ad.add (i.toNat * 5)).block, (ad.add (i.toNat * 5)).off + 3, none⟩ = some (.string (qu xs i).f3) ∧ w.cell? ⟨(ad.add (i.toNat * 5)).block, (ad.add (i.toNat * 5)).off + 4, none⟩ = some (.slice A4 (qu xs i).f4.length c4) ∧ (qu xs i).f4.length ≤ c4 ∧ k33.C w A4 (qu xs i).f4.length (qu xs i).f4 := by
 obtain ⟨ad, c, e, _, hK, hc0⟩ := Kd.C_get h z41 i h0 h1
 have hc : ∀ j u, c[j]? = some u → w.cell? (ad.add (i.toNat * 5 + j)) = some u := hc0
 obtain ⟨A4, c4, rfl, l4, g4⟩ := k41_open hK
 exact ⟨ad, A4, c4, e, hc 0 _ rfl, zz8, zz9, zz10, zz11, l4, g4⟩
structure S48 where
 f0 : ByteArray
 f1 : ByteArray
def z48 : S48 := ⟨(⟨#[]⟩ : ByteArray), (⟨#[]⟩ : ByteArray)⟩
def k48 : Kd S48 := Kd.iso (Kd.pair Kd.string Kd.string) (fun x : S48 => (x.f0, x.f1))
theorem k48_heap : Kd.Heap k48 := Kd.heap_iso _ (Kd.heap_pair Kd.heap_string Kd.heap_string)
theorem k48_open {w : World} {x : S48} {cs : List Value} (h : k48.K w x cs) : cs = [.string x.f0, .string x.f1] := by
 obtain ⟨_, _, rfl, rfl, rfl⟩ := h
 exact rfl
theorem k48_mkM (w : World) (base : Nat) (ok : Nat → Prop) (x : S48)  : k48.M w base ok x [.string x.f0, .string x.f1] := ⟨[.string x.f0], [.string x.f1], rfl, rfl, rfl⟩
def qhb (xs : List S48) (i : Int) : S48 := xs.getD i.toNat z48
theorem at_T48 {w : World} {A : Option Addr} {n : Nat} {xs : List S48} (h : Kd.C k48 w A n xs) (i : Int) (h0 : 0 ≤ i) (h1 : i < n) : ∃ ad , A = some ad ∧ w.cell? (ad.add (i.toNat * 2)) = some (.string (qhb xs i).f0) ∧ w.cell? ⟨(ad.add (i.toNat * 2)).block, (ad.add (i.toNat * 2)).off + 1, none⟩ = some (.string (qhb xs i).f1) := by
 obtain ⟨ad, c, e, _, hK, hc0⟩ := Kd.C_get h z48 i h0 h1
 have hc : ∀ j u, c[j]? = some u → w.cell? (ad.add (i.toNat * 2 + j)) = some u := hc0
 obtain rfl := k48_open hK
 exact ⟨ad, e, hc 0 _ rfl, zz8⟩
structure S46 where
 f0 : Int
 f1 : Int
 f2 : ByteArray
 f3 : ByteArray
 f4 : ByteArray
 f5 : (List S48)
def z46 : S46 := ⟨(0 : Int), (0 : Int), (⟨#[]⟩ : ByteArray), (⟨#[]⟩ : ByteArray), (⟨#[]⟩ : ByteArray), ([] : List S48)⟩
def k46 : Kd S46 := Kd.iso (Kd.pair (Kd.int .i64) (Kd.pair (Kd.int .i64) (Kd.pair Kd.string (Kd.pair Kd.string (Kd.pair Kd.string (Kd.slice 48 k48)))))) (fun x : S46 => (x.f0, x.f1, x.f2, x.f3, x.f4, x.f5))
theorem k46_heap : Kd.Heap k46 := Kd.heap_iso _ (Kd.heap_pair (Kd.heap_int .i64) (Kd.heap_pair (Kd.heap_int .i64) (Kd.heap_pair Kd.heap_string (Kd.heap_pair Kd.heap_string (Kd.heap_pair Kd.heap_string (Kd.heap_slice 48 k48_heap))))))
theorem k46_open {w : World} {x : S46} {cs : List Value} (h : k46.K w x cs) : ∃ A5 c5, cs = [.int .i64 x.f0, .int .i64 x.f1, .string x.f2, .string x.f3, .string x.f4, .slice A5 x.f5.length c5] ∧ x.f5.length ≤ c5 ∧ k48.C w A5 x.f5.length x.f5 := by
 obtain ⟨_, _, rfl, rfl, ⟨_, _, rfl, rfl, ⟨_, _, rfl, rfl, ⟨_, _, rfl, rfl, ⟨_, _, rfl, rfl, ⟨A5, c5, rfl, l5, g5⟩⟩⟩⟩⟩⟩ := h
 exact ⟨A5, c5, rfl, l5, g5⟩
theorem k46_mk (w : World) (x : S46) {A5 : Option Addr} {c5 : Nat} (l5 : x.f5.length ≤ c5) (g5 : k48.C w A5 x.f5.length x.f5) : k46.K w x [.int .i64 x.f0, .int .i64 x.f1, .string x.f2, .string x.f3, .string x.f4, .slice A5 x.f5.length c5] := ⟨[.int .i64 x.f0], [.int .i64 x.f1, .string x.f2, .string x.f3, .string x.f4, .slice A5 x.f5.length c5], rfl, rfl, ⟨[.int .i64 x.f1], [.string x.f2, .string x.f3, .string x.f4, .slice A5 x.f5.length c5], rfl, rfl, ⟨[.string x.f2], [.string x.f3, .string x.f4, .slice A5 x.f5.length c5], rfl, rfl, ⟨[.string x.f3], [.string x.f4, .slice A5 x.f5.length c5], rfl, rfl, ⟨[.string x.f4], [.slice A5 x.f5.length c5], rfl, rfl, ⟨A5, c5, rfl, l5, g5⟩⟩⟩⟩⟩⟩
theorem k46_openF {W : World} {ok : Nat → Prop} {x : S46} {cs : List Value} (h : Kd.FK k46 W ok x cs) : ∃ A5 c5, cs = [.int .i64 x.f0, .int .i64 x.f1, .string x.f2, .string x.f3, .string x.f4, .slice A5 x.f5.length c5] ∧ x.f5.length ≤ c5 ∧ Kd.F k48 W ok A5 x.f5.length x.f5 := by
 obtain ⟨A5, c5, rfl, l5, _⟩ := k46_open (Kd.FK_now h)
 exact ⟨A5, c5, rfl, l5, (fun W' hW => by obtain ⟨A5_, c5_, he, l5_, g5_⟩ := k46_open (h W' hW); injection (Option.some.inj (show some (Value.slice A5 x.f5.length c5) = some (Value.slice A5_ x.f5.length c5_) from congrArg (fun l => l[5]?) he)) with ha_ _ _; rw [ha_]; exact g5_)⟩
theorem k46_mkF (W : World) (ok : Nat → Prop) (x : S46) {A5 : Option Addr} {c5 : Nat} (l5 : x.f5.length ≤ c5) (g5 : Kd.F k48 W ok A5 x.f5.length x.f5) : Kd.FK k46 W ok x [.int .i64 x.f0, .int .i64 x.f1, .string x.f2, .string x.f3, .string x.f4, .slice A5 x.f5.length c5] := fun W2 hW => k46_mk W2 x l5 (g5 W2 hW)
def qi (xs : List S46) (i : Int) : S46 := xs.getD i.toNat z46
theorem at_T46 {w : World} {A : Option Addr} {n : Nat} {xs : List S46} (h : Kd.C k46 w A n xs) (i : Int) (h0 : 0 ≤ i) (h1 : i < n) : ∃ ad A5 c5, A = some ad ∧ w.cell? (ad.add (i.toNat * 6)) = some (.int .i64 (qi xs i).f0) ∧ w.cell? ⟨(ad.add (i.toNat * 6)).block, (ad.add (i.toNat * 6)).off + 1, none⟩ = some (.int .i64 (qi xs i).f1) ∧ w.cell? ⟨(ad.add (i.toNat * 6)).block, (ad.add (i.toNat * 6)).off + 2, none⟩ = some (.string (qi xs i).f2) ∧ w.cell? ⟨(ad.add (i.toNat * 6)).block, (ad.add (i.toNat * 6)).off + 3, none⟩ = some (.string (qi xs i).f3) ∧ w.cell? ⟨(ad.add (i.toNat * 6)).block, (ad.add (i.toNat * 6)).off + 4, none⟩ = some (.string (qi xs i).f4) ∧ w.cell? ⟨(ad.add (i.toNat * 6)).block, (ad.add (i.toNat * 6)).off + 5, none⟩ = some (.slice A5 (qi xs i).f5.length c5) ∧ (qi xs i).f5.length ≤ c5 ∧ k48.C w A5 (qi xs i).f5.length (qi xs i).f5 := by
 obtain ⟨ad, c, e, _, hK, hc0⟩ := Kd.C_get h z46 i h0 h1
 have hc : ∀ j u, c[j]? = some u → w.cell? (ad.add (i.toNat * 6 + j)) = some u := hc0
 obtain ⟨A5, c5, rfl, l5, g5⟩ := k46_open hK
 exact ⟨ad, A5, c5, e, hc 0 _ rfl, zz8, zz9, zz10, zz11, by rw [← qqc _ _ 5 (by omega)]; exact hc 5 _ rfl, l5, g5⟩
structure S84 where
 f0 : ByteArray
 f1 : ByteArray
 f2 : ByteArray
 f3 : (List S48)
 f4 : (List S84)
def z84 : S84 := ⟨(⟨#[]⟩ : ByteArray), (⟨#[]⟩ : ByteArray), (⟨#[]⟩ : ByteArray), ([] : List S48), ([] : List S84)⟩
def F84 (d : Kd S84) : Kd S84 := Kd.iso (Kd.pair Kd.string (Kd.pair Kd.string (Kd.pair Kd.string (Kd.pair (Kd.slice 48 k48) (Kd.slice 84 d))))) (fun x : S84 => (x.f0, x.f1, x.f2, x.f3, x.f4))
theorem mono84 : Kd.Mono F84 := Kd.mono_iso _ (Kd.mono_pair (Kd.mono_const _) (Kd.mono_pair (Kd.mono_const _) (Kd.mono_pair (Kd.mono_const _) (Kd.mono_pair (Kd.mono_const _) (Kd.mono_slice 84 Kd.mono_id)))))
theorem sub84 : Kd.Sub F84 [48, 84] := Kd.sub_iso _ (Kd.sub_pair (Kd.sub_const _ (by decide)) (Kd.sub_pair (Kd.sub_const _ (by decide)) (Kd.sub_pair (Kd.sub_const _ (by decide)) (Kd.sub_pair (Kd.sub_const _ (by decide)) (Kd.sub_slice 84 (by decide) Kd.sub_id)))))
theorem sz84 : ∀ n, (Kd.upto F84 5 [48, 84] n).sz = 5 := Kd.upto_sz (fun _ => rfl)
def k84 : Kd S84 := Kd.fix F84 5 [48, 84] sz84 (Kd.upto_E sub84)
theorem k84_open {w : World} {x : S84} {cs : List Value} (h : k84.K w x cs) : ∃ A3 c3 A4 c4, cs = [.string x.f0, .string x.f1, .string x.f2, .slice A3 x.f3.length c3, .slice A4 x.f4.length c4] ∧ x.f3.length ≤ c3 ∧ k48.C w A3 x.f3.length x.f3 ∧ x.f4.length ≤ c4 ∧ k84.C w A4 x.f4.length x.f4 := by
 obtain ⟨n, h⟩ := h
 cases n with
 | zero => exact h.elim
 | succ n =>
  obtain ⟨_, _, rfl, rfl, ⟨_, _, rfl, rfl, ⟨_, _, rfl, rfl, ⟨_, _, rfl, ⟨A3, c3, rfl, l3, g3⟩, ⟨A4, c4, rfl, l4, g4⟩⟩⟩⟩⟩ := h
  exact ⟨A3, c3, A4, c4, rfl, l3, g3, l4, Kd.fix_C g4⟩
theorem k84_mkM (w : World) (base : Nat) (ok : Nat → Prop) (x : S84) {v3 : Value} (g3 : k48.R 48 w base ok v3 x.f3) {v4 : Value} (g4 : k84.R 84 w base ok v4 x.f4) : k84.M w base ok x [.string x.f0, .string x.f1, .string x.f2, v3, v4] := by
 obtain ⟨n4, q4⟩ := Kd.fix_R_back mono84 g4
 have r4 := Kd.upto_R_le mono84 sz84 (show n4 ≤ n4 by omega) q4
 exact ⟨n4 + 1, ⟨[.string x.f0], [.string x.f1, .string x.f2, v3, v4], rfl, rfl, ⟨[.string x.f1], [.string x.f2, v3, v4], rfl, rfl, ⟨[.string x.f2], [v3, v4], rfl, rfl, ⟨[v3], [v4], rfl, ⟨v3, rfl, g3⟩, ⟨v4, rfl, r4⟩⟩⟩⟩⟩⟩
def rd_T84 (xs : List S84) (i : Int) : S84 := xs.getD i.toNat z84
theorem at_T84 {w : World} {A : Option Addr} {n : Nat} {xs : List S84} (h : Kd.C k84 w A n xs) (i : Int) (h0 : 0 ≤ i) (h1 : i < n) : ∃ ad A3 c3 A4 c4, A = some ad ∧ w.cell? (ad.add (i.toNat * 5)) = some (.string (rd_T84 xs i).f0) ∧ w.cell? ⟨(ad.add (i.toNat * 5)).block, (ad.add (i.toNat * 5)).off + 1, none⟩ = some (.string (rd_T84 xs i).f1) ∧ w.cell? ⟨(ad.add (i.toNat * 5)).block, (ad.add (i.toNat * 5)).off + 2, none⟩ = some (.string (rd_T84 xs i).f2) ∧ w.cell? ⟨(ad.add (i.toNat * 5)).block, (ad.add (i.toNat * 5)).off + 3, none⟩ = some (.slice A3 (rd_T84 xs i).f3.length c3) ∧ w.cell? ⟨(ad.add (i.toNat * 5)).block, (ad.add (i.toNat * 5)).off + 4, none⟩ = some (.slice A4 (rd_T84 xs i).f4.length c4) ∧ (rd_T84 xs i).f3.length ≤ c3 ∧ k48.C w A3 (rd_T84 xs i).f3.length (rd_T84 xs i).f3 ∧ (rd_T84 xs i).f4.length ≤ c4 ∧ k84.C w A4 (rd_T84 xs i).f4.length (rd_T84 xs i).f4 := by
 obtain ⟨ad, c, e, _, hK, hc0⟩ := Kd.C_get h z84 i h0 h1
 have hc : ∀ j u, c[j]? = some u → w.cell? (ad.add (i.toNat * 5 + j)) = some u := hc0
 obtain ⟨A3, c3, A4, c4, rfl, l3, g3, l4, g4⟩ := k84_open hK
 exact ⟨ad, A3, c3, A4, c4, e, hc 0 _ rfl, zz8, zz9, zz10, zz11, l3, g3, l4, g4⟩
def rd_L12 (xs : List (List Bool)) (i : Int) : (List Bool) := xs.getD i.toNat ([] : List Bool)
theorem at_L12 {w : World} {A : Option Addr} {n : Nat} {xs : List (List Bool)} (h : Kd.C (Kd.slice 4 Kd.bool) w A n xs) (i : Int) (h0 : 0 ≤ i) (h1 : i < n) : ∃ ad A0 c0, A = some ad ∧ w.cell? (ad.add i.toNat) = some (.slice A0 (rd_L12 xs i).length c0) ∧ (rd_L12 xs i).length ≤ c0 ∧ Kd.bool.C w A0 (rd_L12 xs i).length (rd_L12 xs i) := by
 obtain ⟨ad, c, e, _, hK, hc0⟩ := Kd.C_get h ([] : List Bool) i h0 h1
 have hc : ∀ j u, c[j]? = some u → w.cell? (ad.add (i.toNat * 1 + j)) = some u := hc0
 obtain ⟨A0, c0, rfl, l0, g0⟩ := hK
 exact ⟨ad, A0, c0, e, by have hq := hc 0 _ rfl; rwa [Nat.mul_one, Nat.add_zero] at hq, l0, g0⟩
structure S61 where
 f0 : ByteArray
 f1 : ByteArray
 f2 : Bool
def z61 : S61 := ⟨(⟨#[]⟩ : ByteArray), (⟨#[]⟩ : ByteArray), false⟩
def k61 : Kd S61 := Kd.iso (Kd.pair Kd.string (Kd.pair Kd.string Kd.bool)) (fun x : S61 => (x.f0, x.f1, x.f2))
theorem k61_open {w : World} {x : S61} {cs : List Value} (h : k61.K w x cs) : cs = [.string x.f0, .string x.f1, .bool x.f2] := by
 obtain ⟨_, _, rfl, rfl, ⟨_, _, rfl, rfl, rfl⟩⟩ := h
 exact rfl
theorem k61_mkM (w : World) (base : Nat) (ok : Nat → Prop) (x : S61)  : k61.M w base ok x [.string x.f0, .string x.f1, .bool x.f2] := ⟨[.string x.f0], [.string x.f1, .bool x.f2], rfl, rfl, ⟨[.string x.f1], [.bool x.f2], rfl, rfl, rfl⟩⟩
def qgb (xs : List S61) (i : Int) : S61 := xs.getD i.toNat z61
theorem at_T61 {w : World} {A : Option Addr} {n : Nat} {xs : List S61} (h : Kd.C k61 w A n xs) (i : Int) (h0 : 0 ≤ i) (h1 : i < n) : ∃ ad , A = some ad ∧ w.cell? (ad.add (i.toNat * 3)) = some (.string (qgb xs i).f0) ∧ w.cell? ⟨(ad.add (i.toNat * 3)).block, (ad.add (i.toNat * 3)).off + 1, none⟩ = some (.string (qgb xs i).f1) ∧ w.cell? ⟨(ad.add (i.toNat * 3)).block, (ad.add (i.toNat * 3)).off + 2, none⟩ = some (.bool (qgb xs i).f2) := by
 obtain ⟨ad, c, e, _, hK, hc0⟩ := Kd.C_get h z61 i h0 h1
 have hc : ∀ j u, c[j]? = some u → w.cell? (ad.add (i.toNat * 3 + j)) = some u := hc0
 obtain rfl := k61_open hK
 exact ⟨ad, e, hc 0 _ rfl, zz8, zz9⟩
structure S60 where
 f0 : Bool
 f1 : Bool
 f2 : ByteArray
 f3 : ByteArray
 f4 : (List S61)
def z60 : S60 := ⟨false, false, (⟨#[]⟩ : ByteArray), (⟨#[]⟩ : ByteArray), ([] : List S61)⟩
def k60 : Kd S60 := Kd.iso (Kd.pair Kd.bool (Kd.pair Kd.bool (Kd.pair Kd.string (Kd.pair Kd.string (Kd.slice 61 k61))))) (fun x : S60 => (x.f0, x.f1, x.f2, x.f3, x.f4))
theorem k60_open {w : World} {x : S60} {cs : List Value} (h : k60.K w x cs) : ∃ A4 c4, cs = [.bool x.f0, .bool x.f1, .string x.f2, .string x.f3, .slice A4 x.f4.length c4] ∧ x.f4.length ≤ c4 ∧ k61.C w A4 x.f4.length x.f4 := by
 obtain ⟨_, _, rfl, rfl, ⟨_, _, rfl, rfl, ⟨_, _, rfl, rfl, ⟨_, _, rfl, rfl, ⟨A4, c4, rfl, l4, g4⟩⟩⟩⟩⟩ := h
 exact ⟨A4, c4, rfl, l4, g4⟩
theorem k60_mkM (w : World) (base : Nat) (ok : Nat → Prop) (x : S60) {v4 : Value} (g4 : k61.R 61 w base ok v4 x.f4) : k60.M w base ok x [.bool x.f0, .bool x.f1, .string x.f2, .string x.f3, v4] := ⟨[.bool x.f0], [.bool x.f1, .string x.f2, .string x.f3, v4], rfl, rfl, ⟨[.bool x.f1], [.string x.f2, .string x.f3, v4], rfl, rfl, ⟨[.string x.f2], [.string x.f3, v4], rfl, rfl, ⟨[.string x.f3], [v4], rfl, rfl, ⟨v4, rfl, g4⟩⟩⟩⟩⟩
def qg (xs : List S60) (i : Int) : S60 := xs.getD i.toNat z60
theorem at_T60 {w : World} {A : Option Addr} {n : Nat} {xs : List S60} (h : Kd.C k60 w A n xs) (i : Int) (h0 : 0 ≤ i) (h1 : i < n) : ∃ ad A4 c4, A = some ad ∧ w.cell? (ad.add (i.toNat * 5)) = some (.bool (qg xs i).f0) ∧ w.cell? ⟨(ad.add (i.toNat * 5)).block, (ad.add (i.toNat * 5)).off + 1, none⟩ = some (.bool (qg xs i).f1) ∧ w.cell? ⟨(ad.add (i.toNat * 5)).block, (ad.add (i.toNat * 5)).off + 2, none⟩ = some (.string (qg xs i).f2) ∧ w.cell? ⟨(ad.add (i.toNat * 5)).block, (ad.add (i.toNat * 5)).off + 3, none⟩ = some (.string (qg xs i).f3) ∧ w.cell? ⟨(ad.add (i.toNat * 5)).block, (ad.add (i.toNat * 5)).off + 4, none⟩ = some (.slice A4 (qg xs i).f4.length c4) ∧ (qg xs i).f4.length ≤ c4 ∧ k61.C w A4 (qg xs i).f4.length (qg xs i).f4 := by
 obtain ⟨ad, c, e, _, hK, hc0⟩ := Kd.C_get h z60 i h0 h1
 have hc : ∀ j u, c[j]? = some u → w.cell? (ad.add (i.toNat * 5 + j)) = some u := hc0
 obtain ⟨A4, c4, rfl, l4, g4⟩ := k60_open hK
 exact ⟨ad, A4, c4, e, hc 0 _ rfl, zz8, zz9, zz10, zz11, l4, g4⟩
end Go.Proofs.YtjbobecnlpiejaaDoor.Q
namespace Go.Proofs.YtjbobecnlpiejaaDoor.Q.P
open Go.Proofs.YtjbobecnlpiejaaDoorZ
open Go.RowKit Go.Proofs.YtjbobecnlpiejaaDoorW.PrintWords Go.Proofs.YtjbobecnlpiejaaDoorW.PrintLast Go.Proofs.YtjbobecnlpiejaaDoorW.PrintMore
set_option maxRecDepth 100000 in
theorem glob_of_laid {W : World} (h : laidMet Tryd.prog [("math/bits.deBruijn32tab", Rows.laid_math_bits_deBruijn32tab), ("math/bits.deBruijn64tab", Rows.laid_math_bits_deBruijn64tab), ("internal/strconv.uint64pow10", Rows.laid_internal_strconv_uint64pow10), ("strconv.ErrRange", Rows.laid_strconv_ErrRange), ("strconv.ErrSyntax", Rows.laid_strconv_ErrSyntax)] W) : Glob W := by
 have h3 := laidMet.tail (laidMet.tail h)
 have h4 := laidMet.tail h3
 have h5 := laidMet.tail h4
 have e3 : Rows.laid_internal_strconv_uint64pow10 (H := Unit) = Lib.tabData .u64 Lib.pow10Tab := by kernel_rfl
 rw [e3] at h3
 have star : ("*errors.errorString" : String) = "*" ++ "errors.errorString" := by decide +kernel
 have hrow : ∀ u, Tryd.prog.typeName? 3 u = some "*errors.errorString" → u = 153 := fun u hu =>
  typeName_ptr_named (nm := "errors.errorString") (by rw [← star]; kernel_rfl) (by kernel_rfl) (by decide +kernel) u (by rw [← star]; exact hu)
 refine ⟨Lib.tabIs_of_head (g := 0) (t := 140) (e := 127) (n := 20) (by kernel_rfl) (by kernel_rfl) (by kernel_rfl) (by kernel_rfl) (by kernel_rfl) (by kernel_rfl) h3, ?_, ?_⟩
 ·obtain ⟨a, s, hv, _⟩ := laid_sentinel (g := 2) h5 (by kernel_rfl) rfl Tryd.underlying73 hrow Tryd.underlying153 Tryd.underlying155 rfl rfl Tryd.underlying9 (by kernel_rfl) (by kernel_rfl)
  exact ⟨_, _, hv⟩
 ·obtain ⟨a, s, hv, _⟩ := laid_sentinel (g := 3) h4 (by kernel_rfl) rfl Tryd.underlying73 hrow Tryd.underlying153 Tryd.underlying155 rfl rfl Tryd.underlying9 (by kernel_rfl) (by kernel_rfl)
  exact ⟨_, _, hv⟩
theorem own : ownKnob Tryd.prog.godebug = none := by kernel_rfl
end Go.Proofs.YtjbobecnlpiejaaDoor.Q.P
namespace Go.Proofs.YtjbobecnlpiejaaDoor.Q
open Go.Proofs.YtjbobecnlpiejaaDoorZ
open Go.RowKit Go.Proofs.YtjbobecnlpiejaaDoorW.PrintWords Go.Proofs.YtjbobecnlpiejaaDoorW.PrintLast Go.Proofs.YtjbobecnlpiejaaDoorW.PrintMore
attribute [local go_sem] qvb qwb qzb qyb
def strings_IndexByte.f (a0 : ByteArray) (a1 : Int) : Option Int := some (Lib.indexByte a0.data.toList a1.toNat.toUInt8)
theorem strings_IndexByte.calls (a0 : ByteArray) (a1 : Int) (r : Int) (w : World) (h : strings_IndexByte.f a0 a1 = some r) :
  Calls Tryd.prog 69 #[.string a0, .int .u8 a1] w fun e w' => e = .returned (.int .i64 r) ∧ Drawn0 w w' := by
 obtain rfl := Option.some.inj h
 refine (Tryd.strings_IndexByte a0 a1 w).mono ?_
 rintro e w' ⟨rfl, rfl⟩
 exact ⟨rfl, Drawn0.refl _⟩
def chars_small.f (a0 : Int) : Option (Bool) := if a0 ≥ 97 then (some (decide (a0 ≤ 122))) else (some false)
set_option maxHeartbeats 8000000 in
set_option maxRecDepth 100000 in
theorem chars_small.calls (a0 : Int) (r : Bool) (w : World) (h : chars_small.f a0 = some r) :
  Calls Tryd.prog 71 #[.int .u8 a0] w fun e w' => e = .returned (.bool r) ∧ Drawn0 w w' := by
 have H : (if a0 ≥ 97 then (some (decide (a0 ≤ 122))) else (some false)) = some r := h
 clear h
 by_cases c2 : a0 ≥ 97
 ·rw [if_pos c2] at H
  have c2b0 : decide (97 ≤ a0) = true := decide_eq_true c2
  clear c2
  obtain rfl := Option.some.inj H
  go_enter Tryd.func71, Tryd.ntmps71
  go_wp2
  go_ret
  exact ⟨zz7, zz14⟩
 ·rw [if_neg c2] at H
  have c2b0 : decide (97 ≤ a0) = false := decide_eq_false c2
  clear c2
  obtain rfl := Option.some.inj H
  go_enter Tryd.func71, Tryd.ntmps71
  go_wp2
  go_ret
  exact ⟨zz7, zz14⟩
mutual
def qcb.j0 : Nat → ByteArray → ByteArray → Bool → Option (Bool)
 | 0, _, _, _ => none
 | k + 1, x0, x1, x19 => if x19 = true then (some false) else (qcb.l0 k x0 x1 (x0.size : Int) 0)
def qcb.l0 : Nat → ByteArray → ByteArray → Int → Int → Option (Bool)
 | 0, _, _, _, _ => none
 | k + 1, x0, x1, x21, x22 => if x22 < x21 then (if 0 ≤ x22 then (if x22 < (x0.size : Int) then ((chars_small.f (bt x0 x22)).bind fun t117 => (if t117 = true then (qcb.l0 k x0 x1 x21 (wrap64 (x22 + 1))) else (if (bt x0 x22) < 48 then ((strings_IndexByte.f x1 (bt x0 x22)).bind fun t118 => (if t118 < 0 then (some false) else (qcb.l0 k x0 x1 x21 (wrap64 (x22 + 1))))) else (if (bt x0 x22) > 57 then ((strings_IndexByte.f x1 (bt x0 x22)).bind fun t119 => (if t119 < 0 then (some false) else (qcb.l0 k x0 x1 x21 (wrap64 (x22 + 1))))) else (qcb.l0 k x0 x1 x21 (wrap64 (x22 + 1))))))) else (none)) else (none)) else (some true)
end
def qcb.f (k : Nat) (a0 : ByteArray) (a1 : ByteArray) : Option (Bool) := if a0.toList = ([] : List UInt8) then (qcb.j0 k a0 a1 true) else (if (a0.size : Int) > 32 then (qcb.j0 k a0 a1 true) else (if 0 < (a0.size : Int) then ((chars_small.f (bt a0 0)).bind fun t116 => (qcb.j0 k a0 a1 (!t116))) else (none)))
theorem qcb.mono_l : ∀ k, (∀ y0 y1 y2, LeO (qcb.j0 k y0 y1 y2) (qcb.j0 (k + 1) y0 y1 y2)) ∧ (∀ y0 y1 y2 y3, LeO (qcb.l0 k y0 y1 y2 y3) (qcb.l0 (k + 1) y0 y1 y2 y3))
 | 0 => ⟨fun _ _ _ r h => by simp [qcb.j0] at h, fun _ _ _ _ r h => by simp [qcb.l0] at h⟩
 | k + 1 => by
  obtain ⟨ih0, ih1⟩ := qcb.mono_l k
  refine ⟨?_, ?_⟩
  ·intro y0 y1 y2
   unfold qcb.j0
   repeat' first
   | (with_reducible exact ih0 _ _ _)
   | (with_reducible exact ih1 _ _ _ _)
   | (with_reducible exact LeO.refl _)
   | (with_reducible exact LeO.none _)
   | (with_reducible refine LeO.ite ?_ ?_)
   | (with_reducible refine LeO.bind ?_ (fun _ => ?_))
   | exact ih0 _ _ _
   | exact ih1 _ _ _ _
   | exact LeO.none _
   | refine LeO.ite ?_ ?_
   | refine LeO.bind ?_ (fun _ => ?_)
  ·intro y0 y1 y2 y3
   unfold qcb.l0
   repeat' first
   | (with_reducible exact ih0 _ _ _)
   | (with_reducible exact ih1 _ _ _ _)
   | (with_reducible exact LeO.refl _)
   | (with_reducible exact LeO.none _)
   | (with_reducible refine LeO.ite ?_ ?_)
   | (with_reducible refine LeO.bind ?_ (fun _ => ?_))
   | exact ih0 _ _ _
   | exact ih1 _ _ _ _
   | exact LeO.none _
   | refine LeO.ite ?_ ?_
   | refine LeO.bind ?_ (fun _ => ?_)
theorem qcb.mono : ∀ a0 a1 k, LeO (qcb.f k a0 a1) (qcb.f (k + 1) a0 a1) := by
 intro a0 a1 k
 obtain ⟨ih0, ih1⟩ := qcb.mono_l k
 unfold qcb.f
 repeat' first
   | (with_reducible exact ih0 _ _ _)
   | (with_reducible exact ih1 _ _ _ _)
   | (with_reducible exact LeO.refl _)
   | (with_reducible exact LeO.none _)
   | (with_reducible refine LeO.ite ?_ ?_)
   | (with_reducible refine LeO.bind ?_ (fun _ => ?_))
   | exact ih0 _ _ _
   | exact ih1 _ _ _ _
   | exact LeO.none _
   | refine LeO.ite ?_ ?_
   | refine LeO.bind ?_ (fun _ => ?_)
set_option maxHeartbeats 8000000 in
set_option maxRecDepth 100000 in
theorem qcb.calls (k : Nat) (a0 : ByteArray) (a1 : ByteArray) (r : Bool) (w : World) (h : qcb.f k a0 a1 = some r) :
  Calls Tryd.prog 61 #[.string a0, .string a1] w fun e w' => e = .returned (.bool r) ∧ Drawn0 w w' := by
 have H : (if a0.toList = ([] : List UInt8) then (qcb.j0 k a0 a1 true) else (if (a0.size : Int) > 32 then (qcb.j0 k a0 a1 true) else (if 0 < (a0.size : Int) then ((chars_small.f (bt a0 0)).bind fun t116 => (qcb.j0 k a0 a1 (!t116))) else (none)))) = some r := h
 clear h
 have HC3 := qa.mk H
 clear H
 go_enter Tryd.func61, Tryd.ntmps61
 go_upto_region 1 with (fail)
 go_cut [19] (fun v19 wc => ∃ (kq : Nat) (x19_2 : Bool), v19 = .bool x19_2 ∧ qa (qcb.j0 kq a0 a1 x19_2 = some r) ∧ qa (kq ≤ k) ∧ Drawn0 w wc)
 case first =>
  have H := HC3.out
  clear HC3
  by_cases c4 : a0.toList = ([] : List UInt8)
  ·rw [if_pos c4] at H
   have c4b0 : (a0.toList == ([] : List UInt8)) = true := beq_iff_eq.mpr c4
   have c4b1 : (a0.toList != ([] : List UInt8)) = false := bne_eq_false_iff_eq.mpr c4
   (try (have c4b2 : List.isEmpty (a0.toList) = true := by simpa using c4))
   clear c4
   (first | rw [c4b0] | (simp only [i64_w, i32_w]; rw [c4b0]) | rw [c4b2] | skip)
   have H' := qa.mk H
   clear H
   go_wp2
   go_meet
   case rel => exact ⟨_, (true), zz7, H', ⟨zz3⟩, zz14⟩
  ·rw [if_neg c4] at H
   have c4b0 : (a0.toList == ([] : List UInt8)) = false := beq_eq_false_iff_ne.mpr c4
   have c4b1 : (a0.toList != ([] : List UInt8)) = true := bne_iff_ne.mpr c4
   (try (have c4b2 : List.isEmpty (a0.toList) = false := by simpa using c4))
   (first | rw [c4b0] | (simp only [i64_w, i32_w]; rw [c4b0]) | rw [c4b2] | skip)
   by_cases c5 : (a0.size : Int) > 32
   ·rw [if_pos c5] at H
    have c5b0 : decide (32 < (a0.size : Int)) = true := decide_eq_true c5
    have c5b1 : decide (32 < a0.size) = true := decide_eq_true (by omega)
    clear c5
    have H' := qa.mk H
    clear H
    go_wp2
    go_meet
    case rel => exact ⟨_, (true), zz7, H', ⟨zz3⟩, zz14⟩
   ·rw [if_neg c5] at H
    have c5b0 : decide (32 < (a0.size : Int)) = false := decide_eq_false c5
    have c5b1 : decide (32 < a0.size) = false := decide_eq_false (by omega)
    clear c5
    by_cases c6 : 0 < (a0.size : Int)
    ·rw [if_pos c6] at H
     have c6b0 : decide (0 < (a0.size : Int)) = true := decide_eq_true c6
     have c6b1 : decide (0 < a0.size) = true := decide_eq_true (by omega)
     clear c6
     replace H := Option.bind_eq_some_iff.mp H
     obtain ⟨t116, A80, H⟩ := H
     replace H : (qcb.j0 k a0 a1 (!t116)) = some r := H
     have A8 := qa.mk A80
     clear A80
     have H' := qa.mk H
     clear H
     have p7 : 0 ≤ (0 : Int) := (by omega)
     have q7 : 0 < a0.size := (by have : (0 : Int) < (a0.size : Int) := of_decide_eq_true zz12; omega)
     have hx7 : ∀ h : 0 < a0.size, ((a0[0]'h).toNat : Int) = bt a0 0 := bt_at a0 0
     clear p7
     have qi7 : (0 < (a0.size : Int)) = True := eq_true (of_decide_eq_true zz12)
     replace q7 := eq_true q7
     go_wp2_with (first | (go_at_call 71; (with_reducible refine (chars_small.calls (bt a0 0) t116 _ A8.out).mono ?_); rintro e w' ⟨rfl, ⟨nd, rfl⟩⟩))
     go_meet
     case rel => exact ⟨_, (!t116), zz7, H', ⟨zz3⟩, zz14⟩
    ·rw [if_neg c6] at H
     exact absurd H (by simp)
 case rest =>
  clear HC3
  try clear p2
  try clear c4
  try clear c4b0
  try clear c4b1
  try clear c4b2
  try clear c5
  try clear c5b0
  try clear c5b1
  try clear c6
  try clear c6b0
  try clear c6b1
  try clear p7
  try clear q7
  try clear hx7
  try clear qi7
  try clear p7
  try clear q7
  obtain ⟨kq, x19_2, rfl, HA, HJ2, ⟨mc2, rfl⟩⟩ := hcut
  cases kq with
  | zero => exact absurd HA.out (by simp [qcb.j0])
  | succ kj2 =>
   have H := HA.out
   clear HA
   simp only [qcb.j0] at H
   by_cases c9 : x19_2 = true
   ·subst c9
    have H1 : (some false) = some r := by rw [if_pos rfl] at H; exact H
    clear H
    have H := H1
    clear H1
    obtain rfl := Option.some.inj H
    go_wp2
    go_ret
    exact ⟨zz7, zz14⟩
   ·replace c9 := Bool.eq_false_iff.mpr c9
    subst c9
    have H1 : (qcb.l0 kj2 a0 a1 (a0.size : Int) 0) = some r := by rw [if_neg (show ¬ (false = true) by decide)] at H; exact H
    clear H
    have H := H1
    clear H1
    have H' := qa.mk H
    clear H
    go_wp2
    go_loopg [22] kj2 (fun kq v22 w' => ∃ (x22_2 : Int), v22 = .int .i64 x22_2 ∧ qa (qcb.l0 kq a0 a1 (a0.size : Int) x22_2 = some r) ∧ qa (kq ≤ kj2) ∧ Drawn0 w w')
    case atStart => exact ⟨(0), zz7, H', ⟨Nat.le_refl _⟩, zz14⟩
    case round =>
     clear H'
     try clear c2
     try clear p2
     try clear c4
     try clear c4b0
     try clear c4b1
     try clear c4b2
     try clear c5
     try clear c5b0
     try clear c5b1
     try clear c6
     try clear c6b0
     try clear c6b1
     try clear p7
     try clear q7
     try clear hx7
     try clear qi7
     try clear c9
     try clear p2
     try clear p7
     try clear q7
     obtain ⟨x22_2, rfl, HA, HK2, ⟨m2, rfl⟩⟩ := hrel
     cases gk with
     | zero => exact absurd HA.out (by simp [qcb.l0])
     | succ k2 =>
      have H := HA.out
      clear HA
      simp only [qcb.l0] at H
      by_cases c10 : x22_2 < (a0.size : Int)
      ·rw [if_pos c10] at H
       have c10b0 : decide (x22_2 < (a0.size : Int)) = true := decide_eq_true c10
       clear c10
       by_cases c11 : 0 ≤ x22_2
       ·rw [if_pos c11] at H
        have c11b0 : decide (0 ≤ x22_2) = true := decide_eq_true c11
        clear c11
        by_cases c12 : x22_2 < (a0.size : Int)
        ·rw [if_pos c12] at H
         have c12b0 : decide (x22_2 < (a0.size : Int)) = true := decide_eq_true c12
         clear c12
         replace H := Option.bind_eq_some_iff.mp H
         obtain ⟨t117, A140, H⟩ := H
         replace H : (if t117 = true then (qcb.l0 k2 a0 a1 (a0.size : Int) (wrap64 (x22_2 + 1))) else (if (bt a0 x22_2) < 48 then ((strings_IndexByte.f a1 (bt a0 x22_2)).bind fun t118 => (if t118 < 0 then (some false) else (qcb.l0 k2 a0 a1 (a0.size : Int) (wrap64 (x22_2 + 1))))) else (if (bt a0 x22_2) > 57 then ((strings_IndexByte.f a1 (bt a0 x22_2)).bind fun t119 => (if t119 < 0 then (some false) else (qcb.l0 k2 a0 a1 (a0.size : Int) (wrap64 (x22_2 + 1))))) else (qcb.l0 k2 a0 a1 (a0.size : Int) (wrap64 (x22_2 + 1)))))) = some r := H
         have A14 := qa.mk A140
         clear A140
         by_cases c15 : t117 = true
         ·subst c15
          have H1 : (qcb.l0 k2 a0 a1 (a0.size : Int) (wrap64 (x22_2 + 1))) = some r := by rw [if_pos rfl] at H; exact H
          clear H
          have H := H1
          clear H1
          have H' := qa.mk H
          clear H
          have p13 : 0 ≤ (x22_2 : Int) := of_decide_eq_true zz12
          have q13 : x22_2 < (a0.size : Int) := of_decide_eq_true zz12
          have hx13 := bt_at a0 x22_2
          replace p13 := eq_true p13
          replace q13 := eq_true q13
          go_wp2_with (first | ((with_reducible refine qy (f := 71) rfl ?_); refine qqb (some 29) rfl rfl Tryd.func71 (by kernel_rfl) rfl #[.int .u8 (bt a0 x22_2)] rfl zz94 ?_; (with_reducible refine (chars_small.calls (bt a0 x22_2) true _ A14.out).mono ?_); rintro e w' ⟨rfl, ⟨nd, rfl⟩⟩; refine ⟨_, rfl, ?_⟩))
          go_roundg k2
          case measure => have := HJ2.out; have := HK2.out; omega
          case rel => exact ⟨(wrap64 (x22_2 + 1)), zz7, H', ⟨zz5⟩, zz14⟩
         ·replace c15 := Bool.eq_false_iff.mpr c15
          subst c15
          have H1 : (if (bt a0 x22_2) < 48 then ((strings_IndexByte.f a1 (bt a0 x22_2)).bind fun t118 => (if t118 < 0 then (some false) else (qcb.l0 k2 a0 a1 (a0.size : Int) (wrap64 (x22_2 + 1))))) else (if (bt a0 x22_2) > 57 then ((strings_IndexByte.f a1 (bt a0 x22_2)).bind fun t119 => (if t119 < 0 then (some false) else (qcb.l0 k2 a0 a1 (a0.size : Int) (wrap64 (x22_2 + 1))))) else (qcb.l0 k2 a0 a1 (a0.size : Int) (wrap64 (x22_2 + 1))))) = some r := by rw [if_neg (show ¬ (false = true) by decide)] at H; exact H
          clear H
          have H := H1
          clear H1
          by_cases c16 : (bt a0 x22_2) < 48
          ·rw [if_pos c16] at H
           have c16b0 : decide ((bt a0 x22_2) < 48) = true := decide_eq_true c16
           clear c16
           replace H := Option.bind_eq_some_iff.mp H
           obtain ⟨t118, A170, H⟩ := H
           replace H : (if t118 < 0 then (some false) else (qcb.l0 k2 a0 a1 (a0.size : Int) (wrap64 (x22_2 + 1)))) = some r := H
           have A17 := qa.mk A170
           clear A170
           by_cases c18 : t118 < 0
           ·rw [if_pos c18] at H
            have c18b0 : decide (t118 < 0) = true := decide_eq_true c18
            clear c18
            obtain rfl := Option.some.inj H
            have p13 : 0 ≤ (x22_2 : Int) := of_decide_eq_true zz12
            have q13 : x22_2 < (a0.size : Int) := of_decide_eq_true zz12
            have hx13 := bt_at a0 x22_2
            replace p13 := eq_true p13
            replace q13 := eq_true q13
            go_wp2_with (first | ((with_reducible refine qy (f := 71) rfl ?_); refine qqb (some 29) rfl rfl Tryd.func71 (by kernel_rfl) rfl #[.int .u8 (bt a0 x22_2)] rfl zz94 ?_; (with_reducible refine (chars_small.calls (bt a0 x22_2) false _ A14.out).mono ?_); rintro e w' ⟨rfl, ⟨nd, rfl⟩⟩; refine ⟨_, rfl, ?_⟩) | (go_at_call 69; (with_reducible refine (strings_IndexByte.calls a1 (bt a0 x22_2) t118 _ A17.out).mono ?_); rintro e w' ⟨rfl, ⟨nd, rfl⟩⟩))
            go_ret
            exact ⟨zz7, zz14⟩
           ·rw [if_neg c18] at H
            have c18b0 : decide (t118 < 0) = false := decide_eq_false c18
            clear c18
            have H' := qa.mk H
            clear H
            have p13 : 0 ≤ (x22_2 : Int) := of_decide_eq_true zz12
            have q13 : x22_2 < (a0.size : Int) := of_decide_eq_true zz12
            have hx13 := bt_at a0 x22_2
            replace p13 := eq_true p13
            replace q13 := eq_true q13
            go_wp2_with (first | ((with_reducible refine qy (f := 71) rfl ?_); refine qqb (some 29) rfl rfl Tryd.func71 (by kernel_rfl) rfl #[.int .u8 (bt a0 x22_2)] rfl zz94 ?_; (with_reducible refine (chars_small.calls (bt a0 x22_2) false _ A14.out).mono ?_); rintro e w' ⟨rfl, ⟨nd, rfl⟩⟩; refine ⟨_, rfl, ?_⟩) | (go_at_call 69; (with_reducible refine (strings_IndexByte.calls a1 (bt a0 x22_2) t118 _ A17.out).mono ?_); rintro e w' ⟨rfl, ⟨nd, rfl⟩⟩))
            go_roundg k2
            case measure => have := HJ2.out; have := HK2.out; omega
            case rel => exact ⟨(wrap64 (x22_2 + 1)), zz7, H', ⟨zz5⟩, zz14⟩
          ·rw [if_neg c16] at H
           have c16b0 : decide ((bt a0 x22_2) < 48) = false := decide_eq_false c16
           clear c16
           by_cases c19 : (bt a0 x22_2) > 57
           ·rw [if_pos c19] at H
            have c19b0 : decide (57 < (bt a0 x22_2)) = true := decide_eq_true c19
            clear c19
            replace H := Option.bind_eq_some_iff.mp H
            obtain ⟨t119, A200, H⟩ := H
            replace H : (if t119 < 0 then (some false) else (qcb.l0 k2 a0 a1 (a0.size : Int) (wrap64 (x22_2 + 1)))) = some r := H
            have A20 := qa.mk A200
            clear A200
            by_cases c21 : t119 < 0
            ·rw [if_pos c21] at H
             have c21b0 : decide (t119 < 0) = true := decide_eq_true c21
             clear c21
             obtain rfl := Option.some.inj H
             have p13 : 0 ≤ (x22_2 : Int) := of_decide_eq_true zz12
             have q13 : x22_2 < (a0.size : Int) := of_decide_eq_true zz12
             have hx13 := bt_at a0 x22_2
             replace p13 := eq_true p13
             replace q13 := eq_true q13
             go_wp2_with (first | ((with_reducible refine qy (f := 71) rfl ?_); refine qqb (some 29) rfl rfl Tryd.func71 (by kernel_rfl) rfl #[.int .u8 (bt a0 x22_2)] rfl zz94 ?_; (with_reducible refine (chars_small.calls (bt a0 x22_2) false _ A14.out).mono ?_); rintro e w' ⟨rfl, ⟨nd, rfl⟩⟩; refine ⟨_, rfl, ?_⟩) | (go_at_call 69; (with_reducible refine (strings_IndexByte.calls a1 (bt a0 x22_2) t119 _ A20.out).mono ?_); rintro e w' ⟨rfl, ⟨nd, rfl⟩⟩))
             go_ret
             exact ⟨zz7, zz14⟩
            ·rw [if_neg c21] at H
             have c21b0 : decide (t119 < 0) = false := decide_eq_false c21
             clear c21
             have H' := qa.mk H
             clear H
             have p13 : 0 ≤ (x22_2 : Int) := of_decide_eq_true zz12
             have q13 : x22_2 < (a0.size : Int) := of_decide_eq_true zz12
             have hx13 := bt_at a0 x22_2
             replace p13 := eq_true p13
             replace q13 := eq_true q13
             go_wp2_with (first | ((with_reducible refine qy (f := 71) rfl ?_); refine qqb (some 29) rfl rfl Tryd.func71 (by kernel_rfl) rfl #[.int .u8 (bt a0 x22_2)] rfl zz94 ?_; (with_reducible refine (chars_small.calls (bt a0 x22_2) false _ A14.out).mono ?_); rintro e w' ⟨rfl, ⟨nd, rfl⟩⟩; refine ⟨_, rfl, ?_⟩) | (go_at_call 69; (with_reducible refine (strings_IndexByte.calls a1 (bt a0 x22_2) t119 _ A20.out).mono ?_); rintro e w' ⟨rfl, ⟨nd, rfl⟩⟩))
             go_roundg k2
             case measure => have := HJ2.out; have := HK2.out; omega
             case rel => exact ⟨(wrap64 (x22_2 + 1)), zz7, H', ⟨zz5⟩, zz14⟩
           ·rw [if_neg c19] at H
            have c19b0 : decide (57 < (bt a0 x22_2)) = false := decide_eq_false c19
            clear c19
            have H' := qa.mk H
            clear H
            have p13 : 0 ≤ (x22_2 : Int) := of_decide_eq_true zz12
            have q13 : x22_2 < (a0.size : Int) := of_decide_eq_true zz12
            have hx13 := bt_at a0 x22_2
            replace p13 := eq_true p13
            replace q13 := eq_true q13
            go_wp2_with (first | ((with_reducible refine qy (f := 71) rfl ?_); refine qqb (some 29) rfl rfl Tryd.func71 (by kernel_rfl) rfl #[.int .u8 (bt a0 x22_2)] rfl zz94 ?_; (with_reducible refine (chars_small.calls (bt a0 x22_2) false _ A14.out).mono ?_); rintro e w' ⟨rfl, ⟨nd, rfl⟩⟩; refine ⟨_, rfl, ?_⟩))
            go_roundg k2
            case measure => have := HJ2.out; have := HK2.out; omega
            case rel => exact ⟨(wrap64 (x22_2 + 1)), zz7, H', ⟨zz5⟩, zz14⟩
        ·rw [if_neg c12] at H
         exact absurd H (by simp)
       ·rw [if_neg c11] at H
        exact absurd H (by simp)
      ·rw [if_neg c10] at H
       have c10b0 : decide (x22_2 < (a0.size : Int)) = false := decide_eq_false c10
       clear c10
       obtain rfl := Option.some.inj H
       go_wp2
       go_ret
       exact ⟨zz7, zz14⟩
def qrc.f (k : Nat) (a0 : ByteArray) : Option (Bool) := (qcb.f k a0 (⟨#[45]⟩ : ByteArray)).bind fun t120 => (some t120)
theorem qrc.mono : ∀ a0 k, LeO (qrc.f k a0) (qrc.f (k + 1) a0) := by
 intro a0 k
 unfold qrc.f
 repeat' first
   | (with_reducible exact qcb.mono _ _ _)
   | (with_reducible exact LeO.refl _)
   | (with_reducible exact LeO.none _)
   | (with_reducible refine LeO.ite ?_ ?_)
   | (with_reducible refine LeO.bind ?_ (fun _ => ?_))
   | exact qcb.mono _ _ _
   | exact LeO.none _
   | refine LeO.ite ?_ ?_
   | refine LeO.bind ?_ (fun _ => ?_)
set_option maxHeartbeats 8000000 in
set_option maxRecDepth 100000 in
theorem qrc.calls (k : Nat) (a0 : ByteArray) (r : Bool) (w : World) (h : qrc.f k a0 = some r) :
  Calls Tryd.prog 43 #[.string a0] w fun e w' => e = .returned (.bool r) ∧ Drawn0 w w' := by
 have H : ((qcb.f k a0 (⟨#[45]⟩ : ByteArray)).bind fun t120 => (some t120)) = some r := h
 clear h
 replace H := Option.bind_eq_some_iff.mp H
 obtain ⟨t120, A20, H⟩ := H
 replace H : (some t120) = some r := H
 have A2 := qa.mk A20
 clear A20
 obtain rfl := Option.some.inj H
 go_enter Tryd.func43, Tryd.ntmps43
 go_wp2_with (first | ((with_reducible refine qy (f := 61) rfl ?_); refine qqb (some 4) rfl rfl Tryd.func61 (by kernel_rfl) rfl #[.string a0, .string (⟨#[45]⟩ : ByteArray)] rfl zz94 ?_; (with_reducible refine (qcb.calls k a0 (⟨#[45]⟩ : ByteArray) t120 _ A2.out).mono ?_); rintro e w' ⟨rfl, ⟨nd, rfl⟩⟩; refine ⟨_, rfl, ?_⟩))
 go_ret
 exact ⟨zz7, zz14⟩
def qxb.f (a0 : ByteArray) : Option (Bool) := some (decide ((a0.size : Int) ≤ 65536))
set_option maxHeartbeats 8000000 in
set_option maxRecDepth 100000 in
theorem qxb.calls (a0 : ByteArray) (r : Bool) (w : World) (h : qxb.f a0 = some r) :
  Calls Tryd.prog 44 #[.string a0] w fun e w' => e = .returned (.bool r) ∧ Drawn0 w w' := by
 have H : (some (decide ((a0.size : Int) ≤ 65536))) = some r := h
 clear h
 obtain rfl := Option.some.inj H
 go_enter Tryd.func44, Tryd.ntmps44
 go_wp2
 go_ret
 exact ⟨zz7, zz14⟩
def qdc.f (k : Nat) (a0 : ByteArray) : Option (Bool) := (qcb.f k a0 (⟨#[45, 58, 46]⟩ : ByteArray)).bind fun t121 => (some t121)
theorem qdc.mono : ∀ a0 k, LeO (qdc.f k a0) (qdc.f (k + 1) a0) := by
 intro a0 k
 unfold qdc.f
 repeat' first
   | (with_reducible exact qcb.mono _ _ _)
   | (with_reducible exact LeO.refl _)
   | (with_reducible exact LeO.none _)
   | (with_reducible refine LeO.ite ?_ ?_)
   | (with_reducible refine LeO.bind ?_ (fun _ => ?_))
   | exact qcb.mono _ _ _
   | exact LeO.none _
   | refine LeO.ite ?_ ?_
   | refine LeO.bind ?_ (fun _ => ?_)
set_option maxHeartbeats 8000000 in
set_option maxRecDepth 100000 in
theorem qdc.calls (k : Nat) (a0 : ByteArray) (r : Bool) (w : World) (h : qdc.f k a0 = some r) :
  Calls Tryd.prog 47 #[.string a0] w fun e w' => e = .returned (.bool r) ∧ Drawn0 w w' := by
 have H : ((qcb.f k a0 (⟨#[45, 58, 46]⟩ : ByteArray)).bind fun t121 => (some t121)) = some r := h
 clear h
 replace H := Option.bind_eq_some_iff.mp H
 obtain ⟨t121, A20, H⟩ := H
 replace H : (some t121) = some r := H
 have A2 := qa.mk A20
 clear A20
 obtain rfl := Option.some.inj H
 go_enter Tryd.func47, Tryd.ntmps47
 go_wp2_with (first | ((with_reducible refine qy (f := 61) rfl ?_); refine qqb (some 4) rfl rfl Tryd.func61 (by kernel_rfl) rfl #[.string a0, .string (⟨#[45, 58, 46]⟩ : ByteArray)] rfl zz94 ?_; (with_reducible refine (qcb.calls k a0 (⟨#[45, 58, 46]⟩ : ByteArray) t121 _ A2.out).mono ?_); rintro e w' ⟨rfl, ⟨nd, rfl⟩⟩; refine ⟨_, rfl, ?_⟩))
 go_ret
 exact ⟨zz7, zz14⟩
def tendrilref02_inner.f (a0 : Int) (a1 : Bool) : Option (Bool) := if a0 ≥ 97 then (if a0 ≤ 122 then (some true) else (if a0 ≥ 48 then (if a0 ≤ 57 then (some true) else (if a0 = 45 then (some true) else (if a1 = true then (if a0 = 58 then (some true) else (some (a0 == 46))) else (some false)))) else (if a0 = 45 then (some true) else (if a1 = true then (if a0 = 58 then (some true) else (some (a0 == 46))) else (some false))))) else (if a0 ≥ 48 then (if a0 ≤ 57 then (some true) else (if a0 = 45 then (some true) else (if a1 = true then (if a0 = 58 then (some true) else (some (a0 == 46))) else (some false)))) else (if a0 = 45 then (some true) else (if a1 = true then (if a0 = 58 then (some true) else (some (a0 == 46))) else (some false))))
set_option maxHeartbeats 8000000 in
set_option maxRecDepth 100000 in
theorem tendrilref02_inner.calls (a0 : Int) (a1 : Bool) (r : Bool) (w : World) (h : tendrilref02_inner.f a0 a1 = some r) :
  Calls Tryd.prog 33 #[.int .u8 a0, .bool a1] w fun e w' => e = .returned (.bool r) ∧ Drawn0 w w' := by
 have H : (if a0 ≥ 97 then (if a0 ≤ 122 then (some true) else (if a0 ≥ 48 then (if a0 ≤ 57 then (some true) else (if a0 = 45 then (some true) else (if a1 = true then (if a0 = 58 then (some true) else (some (a0 == 46))) else (some false)))) else (if a0 = 45 then (some true) else (if a1 = true then (if a0 = 58 then (some true) else (some (a0 == 46))) else (some false))))) else (if a0 ≥ 48 then (if a0 ≤ 57 then (some true) else (if a0 = 45 then (some true) else (if a1 = true then (if a0 = 58 then (some true) else (some (a0 == 46))) else (some false)))) else (if a0 = 45 then (some true) else (if a1 = true then (if a0 = 58 then (some true) else (some (a0 == 46))) else (some false))))) = some r := h
 clear h
 by_cases c3 : a0 ≥ 97
 ·rw [if_pos c3] at H
  have c3b0 : decide (97 ≤ a0) = true := decide_eq_true c3
  clear c3
  by_cases c4 : a0 ≤ 122
  ·rw [if_pos c4] at H
   have c4b0 : decide (a0 ≤ 122) = true := decide_eq_true c4
   clear c4
   obtain rfl := Option.some.inj H
   go_enter Tryd.func33, Tryd.ntmps33
   go_wp2
   go_ret
   exact ⟨zz7, zz14⟩
  ·rw [if_neg c4] at H
   have c4b0 : decide (a0 ≤ 122) = false := decide_eq_false c4
   clear c4
   by_cases c5 : a0 ≥ 48
   ·rw [if_pos c5] at H
    have c5b0 : decide (48 ≤ a0) = true := decide_eq_true c5
    clear c5
    by_cases c6 : a0 ≤ 57
    ·rw [if_pos c6] at H
     have c6b0 : decide (a0 ≤ 57) = true := decide_eq_true c6
     clear c6
     obtain rfl := Option.some.inj H
     go_enter Tryd.func33, Tryd.ntmps33
     go_wp2
     go_ret
     exact ⟨zz7, zz14⟩
    ·rw [if_neg c6] at H
     have c6b0 : decide (a0 ≤ 57) = false := decide_eq_false c6
     clear c6
     by_cases c7 : a0 = 45
     ·rw [if_pos c7] at H
      have c7b0 : (a0 == 45) = true := beq_iff_eq.mpr c7
      have c7b1 : (a0 != 45) = false := bne_eq_false_iff_eq.mpr c7
      clear c7
      obtain rfl := Option.some.inj H
      go_enter Tryd.func33, Tryd.ntmps33
      go_wp2
      go_ret
      exact ⟨zz7, zz14⟩
     ·rw [if_neg c7] at H
      have c7b0 : (a0 == 45) = false := beq_eq_false_iff_ne.mpr c7
      have c7b1 : (a0 != 45) = true := bne_iff_ne.mpr c7
      by_cases c8 : a1 = true
      ·subst c8
       have H1 : (if a0 = 58 then (some true) else (some (a0 == 46))) = some r := by rw [if_pos rfl] at H; exact H
       clear H
       have H := H1
       clear H1
       by_cases c9 : a0 = 58
       ·rw [if_pos c9] at H
        have c9b0 : (a0 == 58) = true := beq_iff_eq.mpr c9
        have c9b1 : (a0 != 58) = false := bne_eq_false_iff_eq.mpr c9
        clear c9
        obtain rfl := Option.some.inj H
        go_enter Tryd.func33, Tryd.ntmps33
        go_wp2
        go_ret
        exact ⟨zz7, zz14⟩
       ·rw [if_neg c9] at H
        have c9b0 : (a0 == 58) = false := beq_eq_false_iff_ne.mpr c9
        have c9b1 : (a0 != 58) = true := bne_iff_ne.mpr c9
        obtain rfl := Option.some.inj H
        go_enter Tryd.func33, Tryd.ntmps33
        go_wp2
        go_ret
        exact ⟨zz7, zz14⟩
      ·replace c8 := Bool.eq_false_iff.mpr c8
       subst c8
       have H1 : (some false) = some r := by rw [if_neg (show ¬ (false = true) by decide)] at H; exact H
       clear H
       have H := H1
       clear H1
       obtain rfl := Option.some.inj H
       go_enter Tryd.func33, Tryd.ntmps33
       go_wp2
       go_ret
       exact ⟨zz7, zz14⟩
   ·rw [if_neg c5] at H
    have c5b0 : decide (48 ≤ a0) = false := decide_eq_false c5
    clear c5
    by_cases c10 : a0 = 45
    ·rw [if_pos c10] at H
     have c10b0 : (a0 == 45) = true := beq_iff_eq.mpr c10
     have c10b1 : (a0 != 45) = false := bne_eq_false_iff_eq.mpr c10
     clear c10
     obtain rfl := Option.some.inj H
     go_enter Tryd.func33, Tryd.ntmps33
     go_wp2
     go_ret
     exact ⟨zz7, zz14⟩
    ·rw [if_neg c10] at H
     have c10b0 : (a0 == 45) = false := beq_eq_false_iff_ne.mpr c10
     have c10b1 : (a0 != 45) = true := bne_iff_ne.mpr c10
     by_cases c11 : a1 = true
     ·subst c11
      have H1 : (if a0 = 58 then (some true) else (some (a0 == 46))) = some r := by rw [if_pos rfl] at H; exact H
      clear H
      have H := H1
      clear H1
      by_cases c12 : a0 = 58
      ·rw [if_pos c12] at H
       have c12b0 : (a0 == 58) = true := beq_iff_eq.mpr c12
       have c12b1 : (a0 != 58) = false := bne_eq_false_iff_eq.mpr c12
       clear c12
       obtain rfl := Option.some.inj H
       go_enter Tryd.func33, Tryd.ntmps33
       go_wp2
       go_ret
       exact ⟨zz7, zz14⟩
      ·rw [if_neg c12] at H
       have c12b0 : (a0 == 58) = false := beq_eq_false_iff_ne.mpr c12
       have c12b1 : (a0 != 58) = true := bne_iff_ne.mpr c12
       obtain rfl := Option.some.inj H
       go_enter Tryd.func33, Tryd.ntmps33
       go_wp2
       go_ret
       exact ⟨zz7, zz14⟩
     ·replace c11 := Bool.eq_false_iff.mpr c11
      subst c11
      have H1 : (some false) = some r := by rw [if_neg (show ¬ (false = true) by decide)] at H; exact H
      clear H
      have H := H1
      clear H1
      obtain rfl := Option.some.inj H
      go_enter Tryd.func33, Tryd.ntmps33
      go_wp2
      go_ret
      exact ⟨zz7, zz14⟩
 ·rw [if_neg c3] at H
  have c3b0 : decide (97 ≤ a0) = false := decide_eq_false c3
  clear c3
  by_cases c13 : a0 ≥ 48
  ·rw [if_pos c13] at H
   have c13b0 : decide (48 ≤ a0) = true := decide_eq_true c13
   clear c13
   by_cases c14 : a0 ≤ 57
   ·rw [if_pos c14] at H
    have c14b0 : decide (a0 ≤ 57) = true := decide_eq_true c14
    clear c14
    obtain rfl := Option.some.inj H
    go_enter Tryd.func33, Tryd.ntmps33
    go_wp2
    go_ret
    exact ⟨zz7, zz14⟩
   ·rw [if_neg c14] at H
    have c14b0 : decide (a0 ≤ 57) = false := decide_eq_false c14
    clear c14
    by_cases c15 : a0 = 45
    ·rw [if_pos c15] at H
     have c15b0 : (a0 == 45) = true := beq_iff_eq.mpr c15
     have c15b1 : (a0 != 45) = false := bne_eq_false_iff_eq.mpr c15
     clear c15
     obtain rfl := Option.some.inj H
     go_enter Tryd.func33, Tryd.ntmps33
     go_wp2
     go_ret
     exact ⟨zz7, zz14⟩
    ·rw [if_neg c15] at H
     have c15b0 : (a0 == 45) = false := beq_eq_false_iff_ne.mpr c15
     have c15b1 : (a0 != 45) = true := bne_iff_ne.mpr c15
     by_cases c16 : a1 = true
     ·subst c16
      have H1 : (if a0 = 58 then (some true) else (some (a0 == 46))) = some r := by rw [if_pos rfl] at H; exact H
      clear H
      have H := H1
      clear H1
      by_cases c17 : a0 = 58
      ·rw [if_pos c17] at H
       have c17b0 : (a0 == 58) = true := beq_iff_eq.mpr c17
       have c17b1 : (a0 != 58) = false := bne_eq_false_iff_eq.mpr c17
       clear c17
       obtain rfl := Option.some.inj H
       go_enter Tryd.func33, Tryd.ntmps33
       go_wp2
       go_ret
       exact ⟨zz7, zz14⟩
      ·rw [if_neg c17] at H
       have c17b0 : (a0 == 58) = false := beq_eq_false_iff_ne.mpr c17
       have c17b1 : (a0 != 58) = true := bne_iff_ne.mpr c17
       obtain rfl := Option.some.inj H
       go_enter Tryd.func33, Tryd.ntmps33
       go_wp2
       go_ret
       exact ⟨zz7, zz14⟩
     ·replace c16 := Bool.eq_false_iff.mpr c16
      subst c16
      have H1 : (some false) = some r := by rw [if_neg (show ¬ (false = true) by decide)] at H; exact H
      clear H
      have H := H1
      clear H1
      obtain rfl := Option.some.inj H
      go_enter Tryd.func33, Tryd.ntmps33
      go_wp2
      go_ret
      exact ⟨zz7, zz14⟩
  ·rw [if_neg c13] at H
   have c13b0 : decide (48 ≤ a0) = false := decide_eq_false c13
   clear c13
   by_cases c18 : a0 = 45
   ·rw [if_pos c18] at H
    have c18b0 : (a0 == 45) = true := beq_iff_eq.mpr c18
    have c18b1 : (a0 != 45) = false := bne_eq_false_iff_eq.mpr c18
    clear c18
    obtain rfl := Option.some.inj H
    go_enter Tryd.func33, Tryd.ntmps33
    go_wp2
    go_ret
    exact ⟨zz7, zz14⟩
   ·rw [if_neg c18] at H
    have c18b0 : (a0 == 45) = false := beq_eq_false_iff_ne.mpr c18
    have c18b1 : (a0 != 45) = true := bne_iff_ne.mpr c18
    by_cases c19 : a1 = true
    ·subst c19
     have H1 : (if a0 = 58 then (some true) else (some (a0 == 46))) = some r := by rw [if_pos rfl] at H; exact H
     clear H
     have H := H1
     clear H1
     by_cases c20 : a0 = 58
     ·rw [if_pos c20] at H
      have c20b0 : (a0 == 58) = true := beq_iff_eq.mpr c20
      have c20b1 : (a0 != 58) = false := bne_eq_false_iff_eq.mpr c20
      clear c20
      obtain rfl := Option.some.inj H
      go_enter Tryd.func33, Tryd.ntmps33
      go_wp2
      go_ret
      exact ⟨zz7, zz14⟩
     ·rw [if_neg c20] at H
      have c20b0 : (a0 == 58) = false := beq_eq_false_iff_ne.mpr c20
      have c20b1 : (a0 != 58) = true := bne_iff_ne.mpr c20
      obtain rfl := Option.some.inj H
      go_enter Tryd.func33, Tryd.ntmps33
      go_wp2
      go_ret
      exact ⟨zz7, zz14⟩
    ·replace c19 := Bool.eq_false_iff.mpr c19
     subst c19
     have H1 : (some false) = some r := by rw [if_neg (show ¬ (false = true) by decide)] at H; exact H
     clear H
     have H := H1
     clear H1
     obtain rfl := Option.some.inj H
     go_enter Tryd.func33, Tryd.ntmps33
     go_wp2
     go_ret
     exact ⟨zz7, zz14⟩
mutual
def qab.j0 : Nat → ByteArray → Bool → Bool → Option (Bool)
 | 0, _, _, _ => none
 | k + 1, x0, x1, x23 => if x23 = true then (some false) else (qab.l0 k x0 x1 1)
def qab.l0 : Nat → ByteArray → Bool → Int → Option (Bool)
 | 0, _, _, _ => none
 | k + 1, x0, x1, x5 => if x5 < (x0.size : Int) then (if 0 ≤ x5 then ((tendrilref02_inner.f (bt x0 x5) x1).bind fun t339 => (if t339 = true then (qab.l0 k x0 x1 (wrap64 (x5 + 1))) else (some false))) else (none)) else (some true)
end
def qab.f (k : Nat) (a0 : ByteArray) (a1 : Bool) : Option (Bool) := if (a0.size : Int) < 1 then (qab.j0 k a0 a1 true) else (if (a0.size : Int) > 32 then (qab.j0 k a0 a1 true) else (if 0 < (a0.size : Int) then (if (bt a0 0) < 97 then (qab.j0 k a0 a1 true) else (qab.j0 k a0 a1 (decide ((bt a0 0) > 122)))) else (none)))
set_option maxHeartbeats 8000000 in
set_option maxRecDepth 100000 in
theorem qab.calls (k : Nat) (a0 : ByteArray) (a1 : Bool) (r : Bool) (w : World) (h : qab.f k a0 a1 = some r) :
  Calls Tryd.prog 20 #[.string a0, .bool a1] w fun e w' => e = .returned (.bool r) ∧ Drawn0 w w' := by
 have H : (if (a0.size : Int) < 1 then (qab.j0 k a0 a1 true) else (if (a0.size : Int) > 32 then (qab.j0 k a0 a1 true) else (if 0 < (a0.size : Int) then (if (bt a0 0) < 97 then (qab.j0 k a0 a1 true) else (qab.j0 k a0 a1 (decide ((bt a0 0) > 122)))) else (none)))) = some r := h
 clear h
 have HC3 := qa.mk H
 clear H
 go_enter Tryd.func20, Tryd.ntmps20
 go_upto_region 1 with (fail)
 go_cut [23] (fun v23 wc => ∃ (kq : Nat) (x23_2 : Bool), v23 = .bool x23_2 ∧ qa (qab.j0 kq a0 a1 x23_2 = some r) ∧ qa (kq ≤ k) ∧ Drawn0 w wc)
 case first =>
  have H := HC3.out
  clear HC3
  by_cases c4 : (a0.size : Int) < 1
  ·rw [if_pos c4] at H
   have c4b0 : decide ((a0.size : Int) < 1) = true := decide_eq_true c4
   have c4b1 : decide (a0.size < 1) = true := decide_eq_true (by omega)
   clear c4
   (first | rw [c4b0] | (simp only [i64_w, i32_w]; rw [c4b0]) | rw [c4b2] | skip)
   have H' := qa.mk H
   clear H
   go_wp2
   go_meet
   case rel => exact ⟨_, (true), zz7, H', ⟨zz3⟩, zz14⟩
  ·rw [if_neg c4] at H
   have c4b0 : decide ((a0.size : Int) < 1) = false := decide_eq_false c4
   have c4b1 : decide (a0.size < 1) = false := decide_eq_false (by omega)
   clear c4
   (first | rw [c4b0] | (simp only [i64_w, i32_w]; rw [c4b0]) | rw [c4b2] | skip)
   by_cases c5 : (a0.size : Int) > 32
   ·rw [if_pos c5] at H
    have c5b0 : decide (32 < (a0.size : Int)) = true := decide_eq_true c5
    have c5b1 : decide (32 < a0.size) = true := decide_eq_true (by omega)
    clear c5
    have H' := qa.mk H
    clear H
    go_wp2
    go_meet
    case rel => exact ⟨_, (true), zz7, H', ⟨zz3⟩, zz14⟩
   ·rw [if_neg c5] at H
    have c5b0 : decide (32 < (a0.size : Int)) = false := decide_eq_false c5
    have c5b1 : decide (32 < a0.size) = false := decide_eq_false (by omega)
    clear c5
    by_cases c6 : 0 < (a0.size : Int)
    ·rw [if_pos c6] at H
     have c6b0 : decide (0 < (a0.size : Int)) = true := decide_eq_true c6
     have c6b1 : decide (0 < a0.size) = true := decide_eq_true (by omega)
     clear c6
     by_cases c8 : (bt a0 0) < 97
     ·rw [if_pos c8] at H
      have c8b0 : decide ((bt a0 0) < 97) = true := decide_eq_true c8
      clear c8
      have H' := qa.mk H
      clear H
      have p7 : 0 ≤ (0 : Int) := (by omega)
      have q7 : 0 < a0.size := (by have : (0 : Int) < (a0.size : Int) := of_decide_eq_true zz12; omega)
      have hx7 : ∀ h : 0 < a0.size, ((a0[0]'h).toNat : Int) = bt a0 0 := bt_at a0 0
      clear p7
      have qi7 : (0 < (a0.size : Int)) = True := eq_true (of_decide_eq_true zz12)
      replace q7 := eq_true q7
      go_wp2
      go_meet
      case rel => exact ⟨_, (true), zz7, H', ⟨zz3⟩, zz14⟩
     ·rw [if_neg c8] at H
      have c8b0 : decide ((bt a0 0) < 97) = false := decide_eq_false c8
      clear c8
      have H' := qa.mk H
      clear H
      have p7 : 0 ≤ (0 : Int) := (by omega)
      have q7 : 0 < a0.size := (by have : (0 : Int) < (a0.size : Int) := of_decide_eq_true zz12; omega)
      have hx7 : ∀ h : 0 < a0.size, ((a0[0]'h).toNat : Int) = bt a0 0 := bt_at a0 0
      clear p7
      have qi7 : (0 < (a0.size : Int)) = True := eq_true (of_decide_eq_true zz12)
      replace q7 := eq_true q7
      have p9 : 0 ≤ (0 : Int) := (by omega)
      have q9 : 0 < a0.size := (by have : (0 : Int) < (a0.size : Int) := of_decide_eq_true zz12; omega)
      have hx9 : ∀ h : 0 < a0.size, ((a0[0]'h).toNat : Int) = bt a0 0 := bt_at a0 0
      clear p9
      have qi9 : (0 < (a0.size : Int)) = True := eq_true (of_decide_eq_true zz12)
      replace q9 := eq_true q9
      go_wp2
      go_meet
      case rel => exact ⟨_, (decide ((bt a0 0) > 122)), zz7, H', ⟨zz3⟩, zz14⟩
    ·rw [if_neg c6] at H
     exact absurd H (by simp)
 case rest =>
  clear HC3
  try clear c2
  try clear p2
  try clear c4
  try clear c4b0
  try clear c4b1
  try clear c4b2
  try clear c5
  try clear c5b0
  try clear c5b1
  try clear c6
  try clear c6b0
  try clear c6b1
  try clear p7
  try clear q7
  try clear hx7
  try clear qi7
  try clear c8
  try clear c8b0
  try clear p9
  try clear q9
  try clear hx9
  try clear qi9
  try clear p7
  try clear p9
  try clear q7
  try clear q9
  obtain ⟨kq, x23_2, rfl, HA, HJ2, ⟨mc2, rfl⟩⟩ := hcut
  cases kq with
  | zero => exact absurd HA.out (by simp [qab.j0])
  | succ kj2 =>
   have H := HA.out
   clear HA
   simp only [qab.j0] at H
   by_cases c10 : x23_2 = true
   ·subst c10
    have H1 : (some false) = some r := by rw [if_pos rfl] at H; exact H
    clear H
    have H := H1
    clear H1
    obtain rfl := Option.some.inj H
    go_wp2
    go_ret
    exact ⟨zz7, zz14⟩
   ·replace c10 := Bool.eq_false_iff.mpr c10
    subst c10
    have H1 : (qab.l0 kj2 a0 a1 1) = some r := by rw [if_neg (show ¬ (false = true) by decide)] at H; exact H
    clear H
    have H := H1
    clear H1
    have H' := qa.mk H
    clear H
    go_wp2
    go_loopg [5] kj2 (fun kq v5 w' => ∃ (x5_2 : Int), v5 = .int .i64 x5_2 ∧ qa (qab.l0 kq a0 a1 x5_2 = some r) ∧ qa (kq ≤ kj2) ∧ Drawn0 w w')
    case atStart => exact ⟨(1), zz7, H', ⟨Nat.le_refl _⟩, zz14⟩
    case round =>
     clear H'
     try clear c1
     try clear c2
     try clear p2
     try clear c4
     try clear c4b0
     try clear c4b1
     try clear c4b2
     try clear c5
     try clear c5b0
     try clear c5b1
     try clear c6
     try clear c6b0
     try clear c6b1
     try clear p7
     try clear q7
     try clear hx7
     try clear qi7
     try clear c8
     try clear c8b0
     try clear p9
     try clear q9
     try clear hx9
     try clear qi9
     try clear c10
     try clear p2
     try clear p7
     try clear p9
     try clear q7
     try clear q9
     obtain ⟨x5_2, rfl, HA, HK2, ⟨m2, rfl⟩⟩ := hrel
     cases gk with
     | zero => exact absurd HA.out (by simp [qab.l0])
     | succ k2 =>
      have H := HA.out
      clear HA
      simp only [qab.l0] at H
      by_cases c11 : x5_2 < (a0.size : Int)
      ·rw [if_pos c11] at H
       have c11b0 : decide (x5_2 < (a0.size : Int)) = true := decide_eq_true c11
       clear c11
       by_cases c12 : 0 ≤ x5_2
       ·rw [if_pos c12] at H
        have c12b0 : decide (0 ≤ x5_2) = true := decide_eq_true c12
        clear c12
        replace H := Option.bind_eq_some_iff.mp H
        obtain ⟨t339, A140, H⟩ := H
        replace H : (if t339 = true then (qab.l0 k2 a0 a1 (wrap64 (x5_2 + 1))) else (some false)) = some r := H
        have A14 := qa.mk A140
        clear A140
        by_cases c15 : t339 = true
        ·subst c15
         have H1 : (qab.l0 k2 a0 a1 (wrap64 (x5_2 + 1))) = some r := by rw [if_pos rfl] at H; exact H
         clear H
         have H := H1
         clear H1
         have H' := qa.mk H
         clear H
         have p13 : 0 ≤ (x5_2 : Int) := of_decide_eq_true zz12
         have q13 : x5_2 < (a0.size : Int) := of_decide_eq_true zz12
         have hx13 := bt_at a0 x5_2
         replace p13 := eq_true p13
         replace q13 := eq_true q13
         go_wp2_with (first | ((with_reducible refine qy (f := 33) rfl ?_); refine qqb (some 34) rfl rfl Tryd.func33 (by kernel_rfl) rfl #[.int .u8 (bt a0 x5_2), .bool a1] rfl zz94 ?_; (with_reducible refine (tendrilref02_inner.calls (bt a0 x5_2) a1 true _ A14.out).mono ?_); rintro e w' ⟨rfl, ⟨nd, rfl⟩⟩; refine ⟨_, rfl, ?_⟩))
         go_roundg k2
         case measure => have := HJ2.out; have := HK2.out; omega
         case rel => exact ⟨(wrap64 (x5_2 + 1)), zz7, H', ⟨zz5⟩, zz14⟩
        ·replace c15 := Bool.eq_false_iff.mpr c15
         subst c15
         have H1 : (some false) = some r := by rw [if_neg (show ¬ (false = true) by decide)] at H; exact H
         clear H
         have H := H1
         clear H1
         obtain rfl := Option.some.inj H
         have p13 : 0 ≤ (x5_2 : Int) := of_decide_eq_true zz12
         have q13 : x5_2 < (a0.size : Int) := of_decide_eq_true zz12
         have hx13 := bt_at a0 x5_2
         replace p13 := eq_true p13
         replace q13 := eq_true q13
         go_wp2_with (first | ((with_reducible refine qy (f := 33) rfl ?_); refine qqb (some 34) rfl rfl Tryd.func33 (by kernel_rfl) rfl #[.int .u8 (bt a0 x5_2), .bool a1] rfl zz94 ?_; (with_reducible refine (tendrilref02_inner.calls (bt a0 x5_2) a1 false _ A14.out).mono ?_); rintro e w' ⟨rfl, ⟨nd, rfl⟩⟩; refine ⟨_, rfl, ?_⟩))
         go_ret
         exact ⟨zz7, zz14⟩
       ·rw [if_neg c12] at H
        exact absurd H (by simp)
      ·rw [if_neg c11] at H
       have c11b0 : decide (x5_2 < (a0.size : Int)) = false := decide_eq_false c11
       clear c11
       obtain rfl := Option.some.inj H
       go_wp2
       go_ret
       exact ⟨zz7, zz14⟩
end Go.Proofs.YtjbobecnlpiejaaDoor.Q
namespace Go.Proofs.YtjbobecnlpiejaaDoor.Q.P
open Go.Proofs.YtjbobecnlpiejaaDoorZ
open Go.RowKit Go.Proofs.YtjbobecnlpiejaaDoorW.PrintWords Go.Proofs.YtjbobecnlpiejaaDoorW.PrintLast Go.Proofs.YtjbobecnlpiejaaDoorW.PrintMore
theorem w64 {x : Int} (h : -9223372036854775808 ≤ x) (h' : x ≤ 9223372036854775807) : wrap64 x = x := by unfold wrap64; omega
theorem bt_nat (s : ByteArray) (i : Nat) (h : i < s.size) : bt s (i : Int) = ((s.data.toList.getD i 0).toNat : Int) := by
 unfold bt
 rw [dif_pos (by simpa using h)]
 simp only [Int.toNat_natCast]
 rw [List.getD_eq_getElem?_getD, List.getElem?_eq_getElem (by simpa using h)]
 rfl
theorem qnc (s : ByteArray) : s.size = s.data.toList.length := Array.length_toList.symm
theorem toList_nil_iff (s : ByteArray) : s.toList = [] ↔ s.data.toList = [] := by rw [Lib.toList_data]
def nmC (o : List UInt8) (c : UInt8) : Bool := decide (97 ≤ c.toNat ∧ c.toNat ≤ 122) || decide (48 ≤ c.toNat ∧ c.toNat ≤ 57) || o.contains c
def smallC (c : UInt8) : Bool := decide (97 ≤ c.toNat ∧ c.toNat ≤ 122)
def nm (o : List UInt8) (s : List UInt8) : Bool := !s.isEmpty && decide (s.length ≤ 32) && smallC (s.getD 0 0) && (s.all (nmC o))
theorem small_spec (c : Int) : chars_small.f c = some (decide (97 ≤ c ∧ c ≤ 122)) := by
 unfold chars_small.f
 by_cases h : c ≥ 97
 ·rw [if_pos h]; congr 1; simp [h]
 ·rw [if_neg h]; congr 1; simp; omega
theorem small_byte (s : ByteArray) (i : Nat) (h : i < s.size) : chars_small.f (bt s (i : Int)) = some (smallC (s.data.toList.getD i 0)) := by
 rw [small_spec, bt_nat s i h]
 unfold smallC
 congr 1
 rw [Bool.eq_iff_iff, decide_eq_true_iff, decide_eq_true_iff]
 omega
theorem indexByte_neg (l : List UInt8) (c : UInt8) : (Lib.indexByte l c < 0) ↔ l.contains c = false := by
 induction l with
 | nil => simp [Lib.indexByte]
 | cons b l ih =>
  have hg := Lib.indexByte_ge l c
  unfold Lib.indexByte
  rw [List.contains_cons]
  by_cases h : b == c
  ·rw [if_pos h]
   have : (c == b) = true := by rw [beq_iff_eq] at h ⊢; exact h.symm
   rw [this]
   simp
  ·rw [if_neg h]
   have h2 : (c == b) = false := by
    rw [Bool.eq_false_iff]; intro hh; apply h; rw [beq_iff_eq] at hh ⊢; exact hh.symm
   rw [h2, Bool.false_or, ← ih]
   by_cases h1 : Lib.indexByte l c == -1
   ·rw [if_pos h1]
    rw [beq_iff_eq] at h1
    omega
   ·rw [if_neg h1]
    rw [beq_iff_eq] at h1
    omega
theorem drop_getD (l : List UInt8) (i : Nat) (h : i < l.length) : l.drop i = l.getD i 0 :: l.drop (i + 1) := by
 rw [List.drop_eq_getElem_cons h, List.getD_eq_getElem?_getD, List.getElem?_eq_getElem h]
 rfl
theorem byte_back (c : UInt8) : ((c.toNat : Int)).toNat.toUInt8 = c := by simp
theorem named_loop (x0 x1 : ByteArray) (hs : x0.size ≤ 1000000000000) (d : Nat) : ∀ (k i : Nat), i + d = x0.size → d < k → qcb.l0 k x0 x1 (x0.size : Int) (i : Int) = some ((x0.data.toList.drop i).all (nmC x1.data.toList)) := by
 induction d with
 | zero =>
  intro k i hi hk
  obtain ⟨k, rfl⟩ : ∃ m, k = m + 1 := ⟨k - 1, by omega⟩
  unfold qcb.l0
  rw [if_neg (by omega), List.drop_eq_nil_of_le zz0]
  rfl
 | succ d ih =>
  intro k i hi hk
  obtain ⟨k, rfl⟩ : ∃ m, k = m + 1 := ⟨k - 1, by omega⟩
  have hlt : i < x0.size := by omega
  have hw : wrap64 ((i : Int) + 1) = ((i + 1 : Nat) : Int) := by rw [w64 (by omega) (by omega)]; omega
  have hr := ih k (i + 1) (by omega) (by omega)
  rw [drop_getD _ i (by rw [← qnc]; exact hlt), List.all_cons]
  unfold qcb.l0
  rw [if_pos (by omega), if_pos (by omega), if_pos (by omega), small_byte x0 i hlt, bt_nat x0 i hlt]
  simp only [Option.bind_some, hw, hr, strings_IndexByte.f, byte_back]
  generalize x0.data.toList.getD i 0 = c
  unfold nmC smallC
  by_cases h1 : 97 ≤ c.toNat ∧ c.toNat ≤ 122
  ·simp [h1]
  ·simp only [h1, decide_false, Bool.false_eq_true, if_false, Bool.false_or]
   by_cases h2 : (c.toNat : Int) < 48
   ·rw [if_pos h2]
    have h3 : ¬ (48 ≤ c.toNat ∧ c.toNat ≤ 57) := by omega
    simp only [h3, decide_false, Bool.false_or]
    by_cases h4 : Lib.indexByte x1.data.toList c < 0
    ·rw [if_pos h4, (indexByte_neg _ _).1 h4]; simp
    ·rw [if_neg h4]
     have : x1.data.toList.contains c = true := by
      have := mt (indexByte_neg _ _).2 h4
      simpa using this
     rw [this]; simp
   ·rw [if_neg h2]
    by_cases h5 : (c.toNat : Int) > 57
    ·rw [if_pos h5]
     have h3 : ¬ (48 ≤ c.toNat ∧ c.toNat ≤ 57) := by omega
     simp only [h3, decide_false, Bool.false_or]
     by_cases h4 : Lib.indexByte x1.data.toList c < 0
     ·rw [if_pos h4, (indexByte_neg _ _).1 h4]; simp
     ·rw [if_neg h4]
      have : x1.data.toList.contains c = true := by
       have := mt (indexByte_neg _ _).2 h4
       simpa using this
      rw [this]; simp
    ·rw [if_neg h5]
     have h3 : (48 ≤ c.toNat ∧ c.toNat ≤ 57) := by omega
     simp [h3]
theorem named_spec (x0 x1 : ByteArray) (k : Nat) (hk : 40 ≤ k) : qcb.f k x0 x1 = some (nm x1.data.toList x0.data.toList) := by
 obtain ⟨k, rfl⟩ : ∃ m, k = m + 1 := ⟨k - 1, by omega⟩
 unfold qcb.f nm
 by_cases h0 : x0.toList = []
 ·rw [if_pos h0]
  rw [toList_nil_iff] at h0
  simp only [qcb.j0]
  rw [if_pos trivial, h0]
  rfl
 ·rw [if_neg h0]
  rw [toList_nil_iff] at h0
  have he : x0.data.toList.isEmpty = false := by rw [List.isEmpty_eq_false_iff]; exact h0
  have hpos : 0 < x0.size := by rw [qnc]; exact List.length_pos_iff.2 h0
  by_cases h1 : (x0.size : Int) > 32
  ·rw [if_pos h1]
   simp only [qcb.j0]
   rw [if_pos trivial, he]
   have : decide (x0.data.toList.length ≤ 32) = false := decide_eq_false zz0
   rw [this]
   simp
  ·rw [if_neg h1, if_pos (by omega)]
   have hl : x0.data.toList.length ≤ 32 := by rw [← qnc]; omega
   have h2 := small_byte x0 0 hpos
   simp only [Int.natCast_zero] at h2
   rw [h2]
   simp only [Option.bind_some]
   simp only [qcb.j0]
   have h3 := named_loop x0 x1 (by omega) x0.size k 0 (by omega) (by omega)
   simp only [Int.natCast_zero, List.drop_zero] at h3
   rw [h3, he]
   rw [decide_eq_true hl]
   cases smallC (x0.data.toList.getD 0 0) <;> rfl
def tagO : List UInt8 := [45]
def nameO : List UInt8 := [45, 58, 46]
theorem tag_spec (x : ByteArray) (k : Nat) (hk : 40 ≤ k) : qrc.f k x = some (nm tagO x.data.toList) := by
 unfold qrc.f
 rw [named_spec _ _ k hk]
 rfl
theorem name_spec (x : ByteArray) (k : Nat) (hk : 40 ≤ k) : qdc.f k x = some (nm nameO x.data.toList) := by
 unfold qdc.f
 rw [named_spec _ _ k hk]
 rfl
theorem inner_spec (c : UInt8) (b : Bool) : tendrilref02_inner.f (c.toNat : Int) b = some (nmC (if b = true then nameO else tagO) c) := by
 have h : ∀ (b : Bool) (c : Fin 256), tendrilref02_inner.f (c.val : Int) b = some (nmC (if b = true then nameO else tagO) (UInt8.ofNat c.val)) := by decide +kernel
 have := h b ⟨c.toNat, c.toNat_lt⟩
 simpa using this
theorem Named_loop (x0 : ByteArray) (b : Bool) (hs : x0.size ≤ 1000000000000) (d : Nat) : ∀ (k i : Nat), i + d = x0.size → d < k → qab.l0 k x0 b (i : Int) = some ((x0.data.toList.drop i).all (nmC (if b = true then nameO else tagO))) := by
 induction d with
 | zero =>
  intro k i hi hk
  obtain ⟨k, rfl⟩ : ∃ m, k = m + 1 := ⟨k - 1, by omega⟩
  unfold qab.l0
  rw [if_neg (by omega), List.drop_eq_nil_of_le zz0]
  rfl
 | succ d ih =>
  intro k i hi hk
  obtain ⟨k, rfl⟩ : ∃ m, k = m + 1 := ⟨k - 1, by omega⟩
  have hlt : i < x0.size := by omega
  have hw : wrap64 ((i : Int) + 1) = ((i + 1 : Nat) : Int) := by rw [w64 (by omega) (by omega)]; omega
  have hr := ih k (i + 1) (by omega) (by omega)
  rw [drop_getD _ i (by rw [← qnc]; exact hlt), List.all_cons]
  unfold qab.l0
  rw [if_pos (by omega), if_pos (by omega), bt_nat x0 i hlt, inner_spec]
  simp only [Option.bind_some, hw, hr]
  cases nmC (if b = true then nameO else tagO) (x0.data.toList.getD i 0) <;> simp
theorem Named_spec (x0 : ByteArray) (b : Bool) (k : Nat) (hk : 40 ≤ k) : qab.f k x0 b = some (nm (if b = true then nameO else tagO) x0.data.toList) := by
 obtain ⟨k, rfl⟩ : ∃ m, k = m + 1 := ⟨k - 1, by omega⟩
 unfold qab.f nm
 by_cases h0 : (x0.size : Int) < 1
 ·rw [if_pos h0]
  simp only [qab.j0]
  have : x0.data.toList = [] := List.eq_nil_of_length_eq_zero zz0
  rw [if_pos trivial, this]
  rfl
 ·rw [if_neg h0]
  have hpos : 0 < x0.size := by omega
  have he : x0.data.toList.isEmpty = false := by
   rw [List.isEmpty_eq_false_iff]; intro h; rw [qnc, h] at hpos; simp at hpos
  by_cases h1 : (x0.size : Int) > 32
  ·rw [if_pos h1]
   simp only [qab.j0]
   have : decide (x0.data.toList.length ≤ 32) = false := decide_eq_false zz0
   rw [if_pos trivial, this]
   simp
  ·rw [if_neg h1, if_pos (by omega)]
   have hl : x0.data.toList.length ≤ 32 := by rw [← qnc]; omega
   have hb := bt_nat x0 0 hpos
   simp only [Int.natCast_zero] at hb
   rw [hb]
   have h3 := Named_loop x0 b (by omega) (x0.size - 1) k 1 (by omega) (by omega)
   simp only [Int.natCast_one] at h3
   have hd := drop_getD x0.data.toList 0 (by rw [← qnc]; exact hpos)
   rw [List.drop_zero] at hd
   have hall : x0.data.toList.all (nmC (if b = true then nameO else tagO)) = (nmC (if b = true then nameO else tagO) (x0.data.toList.getD 0 0) && (x0.data.toList.drop 1).all (nmC (if b = true then nameO else tagO))) := by
    conv => lhs; rw [hd]
    rfl
   rw [hall, he]
   generalize x0.data.toList.getD 0 0 = c at *
   by_cases h4 : (c.toNat : Int) < 97
   ·rw [if_pos h4]
    simp only [qab.j0]
    have : smallC c = false := by unfold smallC; simp; omega
    rw [if_pos trivial, this]
    simp
   ·rw [if_neg h4]
    simp only [qab.j0]
    by_cases h5 : (c.toNat : Int) > 122
    ·have : smallC c = false := by unfold smallC; simp; omega
     rw [if_pos (by simpa using h5), this]
     simp
    ·have : smallC c = true := by unfold smallC; simp; omega
     have h6 : nmC (if b = true then nameO else tagO) c = true := by unfold nmC; unfold smallC at this; rw [this]; simp
     rw [if_neg (by simpa using h5), h3, this, h6]
     rw [decide_eq_true hl]
     simp
end Go.Proofs.YtjbobecnlpiejaaDoor.Q.P
namespace Go.Proofs.YtjbobecnlpiejaaDoor.Q
open Go.Proofs.YtjbobecnlpiejaaDoorZ
open Go.RowKit Go.Proofs.YtjbobecnlpiejaaDoorW.PrintWords Go.Proofs.YtjbobecnlpiejaaDoorW.PrintLast Go.Proofs.YtjbobecnlpiejaaDoorW.PrintMore
attribute [local go_sem] qvb qwb qzb qyb
mutual
def qub.l0 : Nat → List (S41) → Int → Int → Int → Option (Bool)
 | 0, _, _, _, _ => none
 | k + 1, x0, x3, x7, x8 => if x8 < x7 then (if 0 ≤ x8 then (if x8 < (x0.length : Int) then (if (wrap64 ((wrap64 (x3 + 1)) + (((qu x0 x8).f4).length : Int))) > 200 then (qub.j1 k x0 (wrap64 ((wrap64 (x3 + 1)) + (((qu x0 x8).f4).length : Int))) x8 x7 x8 true) else (qub.j1 k x0 (wrap64 ((wrap64 (x3 + 1)) + (((qu x0 x8).f4).length : Int))) x8 x7 x8 (decide ((wrap64 ((((qu x0 x8).f2).size : Int) + (((qu x0 x8).f3).size : Int))) > 200000)))) else (none)) else (none)) else (some true)
def qub.j1 : Nat → List (S41) → Int → Int → Int → Int → Bool → Option (Bool)
 | 0, _, _, _, _, _, _ => none
 | k + 1, x0, x3, x4, x7, x8, x37 => if x37 = true then (some false) else (if 0 ≤ x4 then (if x4 < (x0.length : Int) then (qub.l1 k x0 x3 x4 x7 x8 (((qu x0 x4).f4).length : Int) 0) else (none)) else (none))
def qub.l1 : Nat → List (S41) → Int → Int → Int → Int → Int → Int → Option (Bool)
 | 0, _, _, _, _, _, _, _ => none
 | k + 1, x0, x3, x4, x7, x8, x43, x44 => if x44 < x43 then (if 0 ≤ x4 then (if x4 < (x0.length : Int) then (if 0 ≤ x44 then (if x44 < (((qu x0 x4).f4).length : Int) then (if (wrap64 ((((rd_T33 ((qu x0 x4).f4) x44).f0).size : Int) + (((rd_T33 ((qu x0 x4).f4) x44).f1).size : Int))) > 200000 then (some false) else (qub.l1 k x0 x3 x4 x7 x8 x43 (wrap64 (x44 + 1)))) else (none)) else (none)) else (none)) else (none)) else (qub.l0 k x0 x3 x7 (wrap64 (x8 + 1)))
end
def qub.f (k : Nat) (l0 : List (S41)) : Option (Bool) := qub.l0 k l0 0 (l0.length : Int) 0
def query_Part_right_1.f (k : Nat) (a0_0 : ByteArray) (a0_1 : ByteArray) (a0_2 : Bool) : Option (Bool) := (qdc.f k a0_0).bind fun t123 => (if t123 = true then ((qxb.f a0_1).bind fun t124 => (if t124 = true then (if a0_2 = true then (some false) else (some (a0_1.toList != ([] : List UInt8)))) else (some true))) else (some true))
set_option maxHeartbeats 8000000 in
set_option maxRecDepth 100000 in
theorem query_Part_right_1.calls (k : Nat) (a0_0 : ByteArray) (a0_1 : ByteArray) (a0_2 : Bool) (r : Bool) (w : World) (h : query_Part_right_1.f k a0_0 a0_1 a0_2 = some r) :
  Calls Tryd.prog 46 #[.agg #[.string a0_0, .string a0_1, .bool a0_2]] w fun e w' => e = .returned (.bool r) ∧ Below w.heap.size w w' := by
 have hu33 := Tryd.underlying33
 have HB := qa.mk (Below.refl w.heap.size w)
 have H : ((qdc.f k a0_0).bind fun t123 => (if t123 = true then ((qxb.f a0_1).bind fun t124 => (if t124 = true then (if a0_2 = true then (some false) else (some (a0_1.toList != ([] : List UInt8)))) else (some true))) else (some true))) = some r := h
 clear h
 replace H := Option.bind_eq_some_iff.mp H
 obtain ⟨t123, A20, H⟩ := H
 replace H : (if t123 = true then ((qxb.f a0_1).bind fun t124 => (if t124 = true then (if a0_2 = true then (some false) else (some (a0_1.toList != ([] : List UInt8)))) else (some true))) else (some true)) = some r := H
 have A2 := qa.mk A20
 clear A20
 by_cases c3 : t123 = true
 ·subst c3
  have H1 : ((qxb.f a0_1).bind fun t124 => (if t124 = true then (if a0_2 = true then (some false) else (some (a0_1.toList != ([] : List UInt8)))) else (some true))) = some r := by rw [if_pos rfl] at H; exact H
  clear H
  have H := H1
  clear H1
  replace H := Option.bind_eq_some_iff.mp H
  obtain ⟨t124, A40, H⟩ := H
  replace H : (if t124 = true then (if a0_2 = true then (some false) else (some (a0_1.toList != ([] : List UInt8)))) else (some true)) = some r := H
  have A4 := qa.mk A40
  clear A40
  by_cases c5 : t124 = true
  ·subst c5
   have H1 : (if a0_2 = true then (some false) else (some (a0_1.toList != ([] : List UInt8)))) = some r := by rw [if_pos rfl] at H; exact H
   clear H
   have H := H1
   clear H1
   by_cases c6 : a0_2 = true
   ·subst c6
    have H1 : (some false) = some r := by rw [if_pos rfl] at H; exact H
    clear H
    have H := H1
    clear H1
    obtain rfl := Option.some.inj H
    go_enter Tryd.func46, Tryd.ntmps46
    go_wp2_with (first | ((with_reducible refine qeb (N := 1) rfl ?_); refine qjb ?hg (N := 1) ?hd (cs := #[.string a0_0, .string a0_1, .bool true]) (t := 33) ?hr ?_; (case hd => rfl); (case hg => rfl); (case hr => exact zz6); intro gb122 hg w7 hbox hb; have n0_ := qa.mk (qp zz53 hb); have n1_ := qa.mk (hbox); have n2_ := qa.mk ((by rw [hg]; exact (qo zz53) : w.heap.size ≤ gb122)); have n3_ := qa.mk ((by rw [hg]; exact (qo zz53) : w.heap.size ≤ gb122)); clear HB; have HB := n0_; have BK122 := n1_; have GW122 := n2_; have GE122 := n3_; clear n0_ n1_ n2_ n3_; clear hb hbox hg; have hcz8_0 : w7.cell? ⟨gb122, 0, none⟩ = some (.string a0_0) := (qh BK122.out 0).trans rfl; have hcz8_1 : w7.cell? ⟨gb122, 1, none⟩ = some (.string a0_1) := (qh BK122.out 1).trans rfl; have hcz8_2 : w7.cell? ⟨gb122, 2, none⟩ = some (.bool true) := (qh BK122.out 2).trans rfl; have hfz8_0 := qf BK122.out 0; have hfz8_1 := qf BK122.out 1; have hfz8_2 := qf BK122.out 2) | ((with_reducible refine qy (f := 47) rfl ?_); refine qqb (some 5) rfl rfl Tryd.func47 (by kernel_rfl) rfl #[.string a0_0] rfl zz94 ?_; (with_reducible refine (qdc.calls k a0_0 true _ A2.out).mono ?_); rintro e w' ⟨rfl, ⟨nd, rfl⟩⟩; refine ⟨_, rfl, ?_⟩) | (go_at_call 44; (with_reducible refine (qxb.calls a0_1 true _ A4.out).mono ?_); rintro e w' ⟨rfl, ⟨nd, rfl⟩⟩))
    go_ret
    exact ⟨zz103, zz85⟩
   ·replace c6 := Bool.eq_false_iff.mpr c6
    subst c6
    have H1 : (some (a0_1.toList != ([] : List UInt8))) = some r := by rw [if_neg (show ¬ (false = true) by decide)] at H; exact H
    clear H
    have H := H1
    clear H1
    obtain rfl := Option.some.inj H
    go_enter Tryd.func46, Tryd.ntmps46
    go_wp2_with (first | ((with_reducible refine qeb (N := 1) rfl ?_); refine qjb ?hg (N := 1) ?hd (cs := #[.string a0_0, .string a0_1, .bool false]) (t := 33) ?hr ?_; (case hd => rfl); (case hg => rfl); (case hr => exact zz6); intro gb122 hg w9 hbox hb; have n0_ := qa.mk (qp zz53 hb); have n1_ := qa.mk (hbox); have n2_ := qa.mk ((by rw [hg]; exact (qo zz53) : w.heap.size ≤ gb122)); have n3_ := qa.mk ((by rw [hg]; exact (qo zz53) : w.heap.size ≤ gb122)); clear HB; have HB := n0_; have BK122 := n1_; have GW122 := n2_; have GE122 := n3_; clear n0_ n1_ n2_ n3_; clear hb hbox hg; have hcz10_0 : w9.cell? ⟨gb122, 0, none⟩ = some (.string a0_0) := (qh BK122.out 0).trans rfl; have hcz10_1 : w9.cell? ⟨gb122, 1, none⟩ = some (.string a0_1) := (qh BK122.out 1).trans rfl; have hcz10_2 : w9.cell? ⟨gb122, 2, none⟩ = some (.bool false) := (qh BK122.out 2).trans rfl; have hfz10_0 := qf BK122.out 0; have hfz10_1 := qf BK122.out 1; have hfz10_2 := qf BK122.out 2) | ((with_reducible refine qy (f := 47) rfl ?_); refine qqb (some 5) rfl rfl Tryd.func47 (by kernel_rfl) rfl #[.string a0_0] rfl zz94 ?_; (with_reducible refine (qdc.calls k a0_0 true _ A2.out).mono ?_); rintro e w' ⟨rfl, ⟨nd, rfl⟩⟩; refine ⟨_, rfl, ?_⟩) | (go_at_call 44; (with_reducible refine (qxb.calls a0_1 true _ A4.out).mono ?_); rintro e w' ⟨rfl, ⟨nd, rfl⟩⟩))
    go_ret
    exact ⟨zz103, zz85⟩
  ·replace c5 := Bool.eq_false_iff.mpr c5
   subst c5
   have H1 : (some true) = some r := by rw [if_neg (show ¬ (false = true) by decide)] at H; exact H
   clear H
   have H := H1
   clear H1
   obtain rfl := Option.some.inj H
   go_enter Tryd.func46, Tryd.ntmps46
   go_wp2_with (first | ((with_reducible refine qeb (N := 1) rfl ?_); refine qjb ?hg (N := 1) ?hd (cs := #[.string a0_0, .string a0_1, .bool a0_2]) (t := 33) ?hr ?_; (case hd => rfl); (case hg => rfl); (case hr => exact zz6); intro gb122 hg w11 hbox hb; have n0_ := qa.mk (qp zz53 hb); have n1_ := qa.mk (hbox); have n2_ := qa.mk ((by rw [hg]; exact (qo zz53) : w.heap.size ≤ gb122)); have n3_ := qa.mk ((by rw [hg]; exact (qo zz53) : w.heap.size ≤ gb122)); clear HB; have HB := n0_; have BK122 := n1_; have GW122 := n2_; have GE122 := n3_; clear n0_ n1_ n2_ n3_; clear hb hbox hg; have hcz12_0 : w11.cell? ⟨gb122, 0, none⟩ = some (.string a0_0) := (qh BK122.out 0).trans rfl; have hcz12_1 : w11.cell? ⟨gb122, 1, none⟩ = some (.string a0_1) := (qh BK122.out 1).trans rfl; have hcz12_2 : w11.cell? ⟨gb122, 2, none⟩ = some (.bool a0_2) := (qh BK122.out 2).trans rfl; have hfz12_0 := qf BK122.out 0; have hfz12_1 := qf BK122.out 1; have hfz12_2 := qf BK122.out 2) | ((with_reducible refine qy (f := 47) rfl ?_); refine qqb (some 5) rfl rfl Tryd.func47 (by kernel_rfl) rfl #[.string a0_0] rfl zz94 ?_; (with_reducible refine (qdc.calls k a0_0 true _ A2.out).mono ?_); rintro e w' ⟨rfl, ⟨nd, rfl⟩⟩; refine ⟨_, rfl, ?_⟩) | (go_at_call 44; (with_reducible refine (qxb.calls a0_1 false _ A4.out).mono ?_); rintro e w' ⟨rfl, ⟨nd, rfl⟩⟩))
   go_ret
   exact ⟨zz103, zz85⟩
 ·replace c3 := Bool.eq_false_iff.mpr c3
  subst c3
  have H1 : (some true) = some r := by rw [if_neg (show ¬ (false = true) by decide)] at H; exact H
  clear H
  have H := H1
  clear H1
  obtain rfl := Option.some.inj H
  go_enter Tryd.func46, Tryd.ntmps46
  go_wp2_with (first | ((with_reducible refine qeb (N := 1) rfl ?_); refine qjb ?hg (N := 1) ?hd (cs := #[.string a0_0, .string a0_1, .bool a0_2]) (t := 33) ?hr ?_; (case hd => rfl); (case hg => rfl); (case hr => exact zz6); intro gb122 hg w13 hbox hb; have n0_ := qa.mk (qp zz53 hb); have n1_ := qa.mk (hbox); have n2_ := qa.mk ((by rw [hg]; exact (qo zz53) : w.heap.size ≤ gb122)); have n3_ := qa.mk ((by rw [hg]; exact (qo zz53) : w.heap.size ≤ gb122)); clear HB; have HB := n0_; have BK122 := n1_; have GW122 := n2_; have GE122 := n3_; clear n0_ n1_ n2_ n3_; clear hb hbox hg; have hcz14_0 : w13.cell? ⟨gb122, 0, none⟩ = some (.string a0_0) := (qh BK122.out 0).trans rfl; have hcz14_1 : w13.cell? ⟨gb122, 1, none⟩ = some (.string a0_1) := (qh BK122.out 1).trans rfl; have hcz14_2 : w13.cell? ⟨gb122, 2, none⟩ = some (.bool a0_2) := (qh BK122.out 2).trans rfl; have hfz14_0 := qf BK122.out 0; have hfz14_1 := qf BK122.out 1; have hfz14_2 := qf BK122.out 2) | ((with_reducible refine qy (f := 47) rfl ?_); refine qqb (some 5) rfl rfl Tryd.func47 (by kernel_rfl) rfl #[.string a0_0] rfl zz94 ?_; (with_reducible refine (qdc.calls k a0_0 false _ A2.out).mono ?_); rintro e w' ⟨rfl, ⟨nd, rfl⟩⟩; refine ⟨_, rfl, ?_⟩))
  go_ret
  exact ⟨zz103, zz85⟩
def qrb.idx : List S33 → Int → Option Int
 | [], _ => some (-1)
 | c :: r, i => (query_Part_right_1.f 64 c.f0 c.f1 c.f2).bind fun t => if t = true then some i else qrb.idx r (i + 1)
theorem qrb.drop (l : List S33) (j : Nat) (h : j < l.length) : l.drop j = rd_T33 l (j : Int) :: l.drop (j + 1) := by
 rw [List.drop_eq_getElem_cons h]
 unfold rd_T33
 rw [Int.toNat_natCast, List.getD_eq_getElem?_getD, List.getElem?_eq_getElem h]
 rfl
set_option maxHeartbeats 4000000 in
set_option maxRecDepth 100000 in
theorem qrb.index (A0 : Option Addr) (c0 : Nat) (l0 : List S33) (r : Int) (w : World) (hr0 : Kd.C k33 w A0 l0.length l0) (h : qrb.idx l0 0 = some r) :
  Calls Tryd.prog 62 #[.slice A0 l0.length c0, .func (.func 46) #[] #[]] w fun e w' => e = .returned (.int .i64 r) ∧ Below w.heap.size w w' := by
 have hm := hr0.2.1
 have HR0 := qa.mk hr0
 have HH := qa.mk h
 have HB := qa.mk (Below.refl w.heap.size w)
 clear hr0 h
 have hu := Tryd.underlying33
 go_enter Tryd.func62, Tryd.ntmps62
 go_wp2
 go_loopg [8] (l0.length + 1) (fun kq v8 w' => ∃ (j : Nat), v8 = .int .i64 (j : Int) ∧ qa (j ≤ l0.length ∧ kq = l0.length + 1 - j ∧ qrb.idx (l0.drop j) (j : Int) = some r) ∧ qa (Below w.heap.size w w'))
 case atStart => exact ⟨0, rfl, ⟨Nat.zero_le _, rfl, HH.out⟩, HB⟩
 case round =>
  clear HB
  obtain ⟨j, rfl, HJ, HB⟩ := hrel
  obtain ⟨hj, hk, HI⟩ := HJ.out
  clear HJ HH
  subst hk
  by_cases hlt : j < l0.length
  ·rw [qrb.drop l0 j hlt] at HI
   simp only [qrb.idx] at HI
   obtain ⟨t, ht1, HI⟩ := Option.bind_eq_some_iff.1 HI
   have H1 := qa.mk ht1
   have H2 := qa.mk HI
   clear ht1 HI
   obtain ⟨ad, e, hx0, hx1, hx2⟩ := at_T33 HR0.out (j : Int) (by omega) (by omega)
   cases e
   replace hx0 := (HB.out.cell (qwc w _ hx0)).trans hx0
   replace hx1 := (HB.out.cell (qwc w _ hx1)).trans hx1
   replace hx2 := (HB.out.cell (qwc w _ hx2)).trans hx2
   rw [Int.toNat_natCast] at hx0 hx1 hx2
   cases t
   all_goals go_wp2_with (go_at_call 46; refine (query_Part_right_1.calls 64 _ _ _ _ _ H1.out).mono ?_; rintro e w2 ⟨rfl, hb⟩; have HB2 := qa.mk (qp HB.out hb); clear hb)
   ·go_roundg (l0.length + 1 - (j + 1))
    case measure => omega
    case rel => exact ⟨j + 1, by go_num, ⟨by omega, rfl, by simpa using H2.out⟩, HB2⟩
   ·obtain rfl := Option.some.inj H2.out
    go_ret
    exact ⟨rfl, HB2.out⟩
  ·have HI2 := qa.mk HI
   clear HI
   go_wp2
   go_ret
   refine ⟨?_, HB.out⟩
   have h := HI2.out
   rw [List.drop_eq_nil_of_le (by omega)] at h
   obtain rfl := Option.some.inj h
   rfl
set_option maxHeartbeats 4000000 in
set_option maxRecDepth 100000 in
theorem qrb.contains (A0 : Option Addr) (c0 : Nat) (l0 : List S33) (r : Int) (w : World) (hr0 : Kd.C k33 w A0 l0.length l0) (h : qrb.idx l0 0 = some r) :
  Calls Tryd.prog 45 #[.slice A0 l0.length c0, .func (.func 46) #[] #[]] w fun e w' => e = .returned (.bool (decide (0 ≤ r))) ∧ Below w.heap.size w w' := by
 have HR0 := qa.mk hr0
 have HH := qa.mk h
 clear hr0 h
 go_enter Tryd.func45, Tryd.ntmps45
 go_wp2_with (go_at_call 62; refine (qrb.index _ _ _ _ _ HR0.out HH.out).mono ?_; rintro e w2 ⟨rfl, hb⟩; have HB2 := qa.mk hb; clear hb)
 go_ret
 exact ⟨rfl, HB2.out⟩
def qrb.f (a0_0 : Bool) (a0_1 : Bool) (a0_2 : ByteArray) (a0_3 : ByteArray) (l0_4 : List S33) : Option Bool :=
 (qrc.f 64 a0_2).bind fun tg => (qrb.idx l0_4 0).bind fun j => some ((a0_2.toList == [] || tg) && !(a0_1 == (a0_3.toList == [])) && decide ((a0_3.size : Int) ≤ 65536) && !decide (8 < (l0_4.length : Int)) && !decide (0 ≤ j))
set_option maxHeartbeats 8000000 in
set_option maxRecDepth 100000 in
theorem qrb.calls (a0_0 : Bool) (a0_1 : Bool) (a0_2 : ByteArray) (a0_3 : ByteArray) (A0_4 : Option Addr) (c0_4 : Nat) (l0_4 : List S33) (r : Bool) (w : World) (hr0_4 : Kd.C k33 w A0_4 l0_4.length l0_4) (hc0_4 : l0_4.length ≤ c0_4) (h : qrb.f a0_0 a0_1 a0_2 a0_3 l0_4 = some r) :
  Calls Tryd.prog 32 #[.agg #[.bool a0_0, .bool a0_1, .string a0_2, .string a0_3, .slice A0_4 l0_4.length c0_4]] w fun e w' => e = .returned (.bool r) ∧ Below w.heap.size w w' := by
 obtain ⟨tg, ht, h1⟩ := Option.bind_eq_some_iff.1 h
 obtain ⟨j, hj, h2⟩ := Option.bind_eq_some_iff.1 h1
 have HT := qa.mk ht
 have HJ := qa.mk hj
 obtain rfl := Option.some.inj h2
 clear h h1 h2 ht hj hc0_4
 have HX : ∀ W, Below w.heap.size w W → qa (Kd.C k33 W A0_4 l0_4.length l0_4) := fun W hb => ⟨Kd.C_below hr0_4 hb⟩
 clear hr0_4
 have fit : ∀ b, decide ((a0_3.size : Int) ≤ 65536) = b → qa (qxb.f a0_3 = some b) := fun b hb => ⟨by rw [← hb]; rfl⟩
 have hu := Tryd.underlying41
 have ce : ∀ s : ByteArray, ∃ b, (s.toList == ([] : List UInt8)) = b ∧ (s.toList != ([] : List UInt8)) = !b := fun s => ⟨_, rfl, rfl⟩
 obtain ⟨b1, c1, c1'⟩ := ce a0_2
 obtain ⟨b2, c2, c2'⟩ := ce a0_3
 clear ce
 rw [c1, c2]
 by_cases c0 : b1 = false ∧ tg = false
 ·obtain ⟨rfl, rfl⟩ := c0
  simp only [Bool.not_false] at c1'
  clear HJ HX fit c2 c2'
  go_enter Tryd.func32, Tryd.ntmps32; go_wp2_with (first | (go_at_call 43; refine (qrc.calls 64 _ _ _ HT.out).mono ?_; rintro e w2 ⟨rfl, ⟨nd, rfl⟩⟩) | (go_at_call 44; refine (qxb.calls _ _ _ HF.out).mono ?_; rintro e w2 ⟨rfl, ⟨nd, rfl⟩⟩) | (go_at_call 45; refine (qrb.contains _ _ _ _ _ ?hx HJ.out).mono ?_; (case hx => exact zz41); rintro e w2 ⟨rfl, hb⟩; have HB := qa.mk (qp (w := w) zz38 hb); clear hb)); go_ret; refine ⟨by simp [*], ?_⟩; repeat (first | exact HB.out | exact Below.refl _ _ | apply qb | apply qd | apply qc)
 have c0' : (b1 || tg) = true := by cases b1 <;> cases tg <;> simp_all
 rw [c0']
 have hcase : ∀ P : Prop, (b1 = true → P) → (b1 = false → tg = true → P) → P := fun P h1 h2 => by cases b1 <;> cases tg <;> simp_all
 clear c0 c0'
 by_cases hbad : a0_1 = b2
 ·subst hbad
  clear HJ HX fit
  refine hcase _ ?_ ?_
  ·rintro rfl
   clear hcase
   cases a0_1
   all_goals (simp only [Bool.not_true, Bool.not_false] at c1' c2'; go_enter Tryd.func32, Tryd.ntmps32; go_wp2_with (first | (go_at_call 43; refine (qrc.calls 64 _ _ _ HT.out).mono ?_; rintro e w2 ⟨rfl, ⟨nd, rfl⟩⟩) | (go_at_call 44; refine (qxb.calls _ _ _ HF.out).mono ?_; rintro e w2 ⟨rfl, ⟨nd, rfl⟩⟩) | (go_at_call 45; refine (qrb.contains _ _ _ _ _ ?hx HJ.out).mono ?_; (case hx => exact zz41); rintro e w2 ⟨rfl, hb⟩; have HB := qa.mk (qp (w := w) zz38 hb); clear hb)); go_ret; refine ⟨by simp [*], ?_⟩; repeat (first | exact HB.out | exact Below.refl _ _ | apply qb | apply qd | apply qc))
  ·rintro rfl rfl
   clear hcase
   cases a0_1
   all_goals (simp only [Bool.not_true, Bool.not_false] at c1' c2'; go_enter Tryd.func32, Tryd.ntmps32; go_wp2_with (first | (go_at_call 43; refine (qrc.calls 64 _ _ _ HT.out).mono ?_; rintro e w2 ⟨rfl, ⟨nd, rfl⟩⟩) | (go_at_call 44; refine (qxb.calls _ _ _ HF.out).mono ?_; rintro e w2 ⟨rfl, ⟨nd, rfl⟩⟩) | (go_at_call 45; refine (qrb.contains _ _ _ _ _ ?hx HJ.out).mono ?_; (case hx => exact zz41); rintro e w2 ⟨rfl, hb⟩; have HB := qa.mk (qp (w := w) zz38 hb); clear hb)); go_ret; refine ⟨by simp [*], ?_⟩; repeat (first | exact HB.out | exact Below.refl _ _ | apply qb | apply qd | apply qc))
 obtain rfl : b2 = !a0_1 := by cases a0_1 <;> cases b2 <;> simp_all
 clear hbad
 obtain ⟨b3, c3⟩ : ∃ b, decide ((a0_3.size : Int) ≤ 65536) = b := ⟨_, rfl⟩
 obtain ⟨b4, c4⟩ : ∃ b, decide (8 < (l0_4.length : Int)) = b := ⟨_, rfl⟩
 have HF := fit _ c3
 clear fit
 rw [c3, c4]
 cases b3
 ·clear HJ HX c4
  refine hcase _ ?_ ?_
  ·rintro rfl
   clear hcase
   cases a0_1
   all_goals (simp only [Bool.not_true, Bool.not_false] at c1' c2'; go_enter Tryd.func32, Tryd.ntmps32; go_wp2_with (first | (go_at_call 43; refine (qrc.calls 64 _ _ _ HT.out).mono ?_; rintro e w2 ⟨rfl, ⟨nd, rfl⟩⟩) | (go_at_call 44; refine (qxb.calls _ _ _ HF.out).mono ?_; rintro e w2 ⟨rfl, ⟨nd, rfl⟩⟩) | (go_at_call 45; refine (qrb.contains _ _ _ _ _ ?hx HJ.out).mono ?_; (case hx => exact zz41); rintro e w2 ⟨rfl, hb⟩; have HB := qa.mk (qp (w := w) zz38 hb); clear hb)); go_ret; refine ⟨by simp [*], ?_⟩; repeat (first | exact HB.out | exact Below.refl _ _ | apply qb | apply qd | apply qc))
  ·rintro rfl rfl
   clear hcase
   cases a0_1
   all_goals (simp only [Bool.not_true, Bool.not_false] at c1' c2'; go_enter Tryd.func32, Tryd.ntmps32; go_wp2_with (first | (go_at_call 43; refine (qrc.calls 64 _ _ _ HT.out).mono ?_; rintro e w2 ⟨rfl, ⟨nd, rfl⟩⟩) | (go_at_call 44; refine (qxb.calls _ _ _ HF.out).mono ?_; rintro e w2 ⟨rfl, ⟨nd, rfl⟩⟩) | (go_at_call 45; refine (qrb.contains _ _ _ _ _ ?hx HJ.out).mono ?_; (case hx => exact zz41); rintro e w2 ⟨rfl, hb⟩; have HB := qa.mk (qp (w := w) zz38 hb); clear hb)); go_ret; refine ⟨by simp [*], ?_⟩; repeat (first | exact HB.out | exact Below.refl _ _ | apply qb | apply qd | apply qc))
 cases b4
 all_goals
  refine hcase _ ?_ ?_
  ·rintro rfl
   clear hcase
   cases a0_1
   all_goals (simp only [Bool.not_true, Bool.not_false] at c1' c2'; go_enter Tryd.func32, Tryd.ntmps32; go_wp2_with (first | (go_at_call 43; refine (qrc.calls 64 _ _ _ HT.out).mono ?_; rintro e w2 ⟨rfl, ⟨nd, rfl⟩⟩) | (go_at_call 44; refine (qxb.calls _ _ _ HF.out).mono ?_; rintro e w2 ⟨rfl, ⟨nd, rfl⟩⟩) | (go_at_call 45; refine (qrb.contains _ _ _ _ _ ?hx HJ.out).mono ?_; (case hx => exact zz41); rintro e w2 ⟨rfl, hb⟩; have HB := qa.mk (qp (w := w) zz38 hb); clear hb)); go_ret; refine ⟨by simp [*], ?_⟩; repeat (first | exact HB.out | exact Below.refl _ _ | apply qb | apply qd | apply qc))
  ·rintro rfl rfl
   clear hcase
   cases a0_1
   all_goals (simp only [Bool.not_true, Bool.not_false] at c1' c2'; go_enter Tryd.func32, Tryd.ntmps32; go_wp2_with (first | (go_at_call 43; refine (qrc.calls 64 _ _ _ HT.out).mono ?_; rintro e w2 ⟨rfl, ⟨nd, rfl⟩⟩) | (go_at_call 44; refine (qxb.calls _ _ _ HF.out).mono ?_; rintro e w2 ⟨rfl, ⟨nd, rfl⟩⟩) | (go_at_call 45; refine (qrb.contains _ _ _ _ _ ?hx HJ.out).mono ?_; (case hx => exact zz41); rintro e w2 ⟨rfl, hb⟩; have HB := qa.mk (qp (w := w) zz38 hb); clear hb)); go_ret; refine ⟨by simp [*], ?_⟩; repeat (first | exact HB.out | exact Below.refl _ _ | apply qb | apply qd | apply qc))
mutual
def qx.j0 : Nat → List (S41) → Bool → Option (Int)
 | 0, _, _ => none
 | k + 1, x0, x18 => if x18 = true then (some 2) else (qx.l0 k x0 (x0.length : Int) 0)
def qx.l0 : Nat → List (S41) → Int → Int → Option (Int)
 | 0, _, _, _ => none
 | k + 1, x19, x20, x21 => if x21 < x20 then (if 0 ≤ x21 then (if x21 < (x19.length : Int) then ((qrb.f ((qu x19 x21).f0) ((qu x19 x21).f1) ((qu x19 x21).f2) ((qu x19 x21).f3) ((qu x19 x21).f4)).bind fun t128 => (if t128 = true then (qx.l0 k x19 x20 (wrap64 (x21 + 1))) else (some 2))) else (none)) else (none)) else (some 0)
end
def qx.f (k : Nat) (l0 : List (S41)) : Option (Int) := if (l0.length : Int) = 0 then (qx.j0 k l0 true) else (if (l0.length : Int) > 8 then (qx.j0 k l0 true) else (if 0 < (l0.length : Int) then (qx.j0 k l0 ((qu l0 0).f0)) else (none)))
theorem qx.mono_l : ∀ k, (∀ y0 y1, LeO (qx.j0 k y0 y1) (qx.j0 (k + 1) y0 y1)) ∧ (∀ y0 y1 y2, LeO (qx.l0 k y0 y1 y2) (qx.l0 (k + 1) y0 y1 y2))
 | 0 => ⟨fun _ _ r h => by simp [qx.j0] at h, fun _ _ _ r h => by simp [qx.l0] at h⟩
 | k + 1 => by
  obtain ⟨ih0, ih1⟩ := qx.mono_l k
  refine ⟨?_, ?_⟩
  ·intro y0 y1
   unfold qx.j0
   repeat' first
   | (with_reducible exact ih0 _ _)
   | (with_reducible exact ih1 _ _ _)
   | (with_reducible exact LeO.refl _)
   | (with_reducible exact LeO.none _)
   | (with_reducible refine LeO.ite ?_ ?_)
   | (with_reducible refine LeO.bind ?_ (fun _ => ?_))
   | exact ih0 _ _
   | exact ih1 _ _ _
   | exact LeO.none _
   | refine LeO.ite ?_ ?_
   | refine LeO.bind ?_ (fun _ => ?_)
  ·intro y0 y1 y2
   unfold qx.l0
   repeat' first
   | (with_reducible exact ih0 _ _)
   | (with_reducible exact ih1 _ _ _)
   | (with_reducible exact LeO.refl _)
   | (with_reducible exact LeO.none _)
   | (with_reducible refine LeO.ite ?_ ?_)
   | (with_reducible refine LeO.bind ?_ (fun _ => ?_))
   | exact ih0 _ _
   | exact ih1 _ _ _
   | exact LeO.none _
   | refine LeO.ite ?_ ?_
   | refine LeO.bind ?_ (fun _ => ?_)
theorem qx.mono : ∀ a0 k, LeO (qx.f k a0) (qx.f (k + 1) a0) := by
 intro a0 k
 obtain ⟨ih0, ih1⟩ := qx.mono_l k
 unfold qx.f
 repeat' first
   | (with_reducible exact ih0 _ _)
   | (with_reducible exact ih1 _ _ _)
   | (with_reducible exact LeO.refl _)
   | (with_reducible exact LeO.none _)
   | (with_reducible refine LeO.ite ?_ ?_)
   | (with_reducible refine LeO.bind ?_ (fun _ => ?_))
   | exact ih0 _ _
   | exact ih1 _ _ _
   | exact LeO.none _
   | refine LeO.ite ?_ ?_
   | refine LeO.bind ?_ (fun _ => ?_)
set_option maxHeartbeats 8000000 in
set_option maxRecDepth 100000 in
theorem qx.calls (k : Nat) (A0 : Option Addr) (c0 : Nat) (l0 : List (S41)) (r : Int) (w : World) (hr0 : Kd.C k41 w A0 l0.length l0) (hc0 : l0.length ≤ c0) (h : qx.f k l0 = some r) :
  Calls Tryd.prog 19 #[.slice A0 l0.length c0] w fun e w' => e = .returned (.int .i64 r) ∧ Below w.heap.size w w' := by
 have hu41 := Tryd.underlying41
 have HR0 := qa.mk hr0
 have HC0 := qa.mk hc0
 clear hr0 hc0
 have HB := qa.mk (Below.refl w.heap.size w)
 have H : (if (l0.length : Int) = 0 then (qx.j0 k l0 true) else (if (l0.length : Int) > 8 then (qx.j0 k l0 true) else (if 0 < (l0.length : Int) then (qx.j0 k l0 ((qu l0 0).f0)) else (none)))) = some r := h
 clear h
 have HC2 := qa.mk H
 clear H
 go_enter Tryd.func19, Tryd.ntmps19
 go_upto_region 1 with (fail)
 go_cut [18] (fun v18 wc => ∃ (kq : Nat) (x18_1 : Bool), v18 = .bool x18_1 ∧ qa (qx.j0 kq l0 x18_1 = some r) ∧ qa (kq ≤ k) ∧ qa (Below w.heap.size w wc))
 case first =>
  have H := HC2.out
  clear HC2
  by_cases c3 : (l0.length : Int) = 0
  ·rw [if_pos c3] at H
   have c3b0 : ((l0.length : Int) == 0) = true := beq_iff_eq.mpr c3
   have c3b1 : ((l0.length : Int) != 0) = false := bne_eq_false_iff_eq.mpr c3
   clear c3
   (first | rw [c3b0] | (simp only [i64_w, i32_w]; rw [c3b0]) | rw [c3b2] | skip)
   have H' := qa.mk H
   clear H
   go_wp2
   go_meet
   case rel => exact ⟨_, (true), zz7, H', ⟨zz3⟩, ⟨zz53⟩⟩
  ·rw [if_neg c3] at H
   have c3b0 : ((l0.length : Int) == 0) = false := beq_eq_false_iff_ne.mpr c3
   have c3b1 : ((l0.length : Int) != 0) = true := bne_iff_ne.mpr c3
   have c3b2 : ¬ (l0 = []) := fun h_ => c3 (by rw [h_]; rfl)
   (first | rw [c3b0] | (simp only [i64_w, i32_w]; rw [c3b0]) | rw [c3b2] | skip)
   by_cases c4 : (l0.length : Int) > 8
   ·rw [if_pos c4] at H
    have c4b0 : decide (8 < (l0.length : Int)) = true := decide_eq_true c4
    have c4b1 : decide (8 < l0.length) = true := decide_eq_true (by omega)
    clear c4
    have H' := qa.mk H
    clear H
    go_wp2
    go_meet
    case rel => exact ⟨_, (true), zz7, H', ⟨zz3⟩, ⟨zz53⟩⟩
   ·rw [if_neg c4] at H
    have c4b0 : decide (8 < (l0.length : Int)) = false := decide_eq_false c4
    have c4b1 : decide (8 < l0.length) = false := decide_eq_false (by omega)
    clear c4
    by_cases c5 : 0 < (l0.length : Int)
    ·rw [if_pos c5] at H
     have c5b0 : decide (0 < (l0.length : Int)) = true := decide_eq_true c5
     have c5b1 : decide (0 < l0.length) = true := decide_eq_true (by omega)
     clear c5
     have H' := qa.mk H
     clear H
     have p125 : 0 ≤ (0 : Int) := (by omega)
     have q125 : 0 < (l0.length : Int) := of_decide_eq_true zz12
     obtain ⟨ad125, A125_4, c125_4, e125, hx125_0, hx125_1, hx125_2, hx125_3, hx125_4, hl125_4, hi125_4⟩ := at_T41 HR0.out 0 p125 q125
     cases e125
     have qi125 : (0 < l0.length) = True := eq_true (by omega)
     (try rw [show ((0 : Int)).toNat = 0 from rfl] at hx125_0)
     (try rw [show 0 * 5 = 0 from rfl] at hx125_0)
     (try rw [Addr.add_zero'] at hx125_0)
     (try rw [show ((0 : Int)).toNat = 0 from rfl] at hx125_1)
     (try rw [show 0 * 5 = 0 from rfl] at hx125_1)
     (try rw [Addr.add_zero'] at hx125_1)
     (try rw [show ((0 : Int)).toNat = 0 from rfl] at hx125_2)
     (try rw [show 0 * 5 = 0 from rfl] at hx125_2)
     (try rw [Addr.add_zero'] at hx125_2)
     (try rw [show ((0 : Int)).toNat = 0 from rfl] at hx125_3)
     (try rw [show 0 * 5 = 0 from rfl] at hx125_3)
     (try rw [Addr.add_zero'] at hx125_3)
     (try rw [show ((0 : Int)).toNat = 0 from rfl] at hx125_4)
     (try rw [show 0 * 5 = 0 from rfl] at hx125_4)
     (try rw [Addr.add_zero'] at hx125_4)
     replace hx125_0 := (HB.out.cell (qwc w _ hx125_0)).trans hx125_0
     replace hx125_1 := (HB.out.cell (qwc w _ hx125_1)).trans hx125_1
     replace hx125_2 := (HB.out.cell (qwc w _ hx125_2)).trans hx125_2
     replace hx125_3 := (HB.out.cell (qwc w _ hx125_3)).trans hx125_3
     replace hx125_4 := (HB.out.cell (qwc w _ hx125_4)).trans hx125_4
     have HR125_4 := qa.mk hi125_4
     have HC125_4 := qa.mk hl125_4
     clear hi125_4 hl125_4
     replace p125 := eq_true p125
     replace q125 := eq_true q125
     go_wp2
     go_meet
     case rel => exact ⟨_, ((qu l0 0).f0), zz7, H', ⟨zz3⟩, ⟨zz53⟩⟩
    ·rw [if_neg c5] at H
     exact absurd H (by simp)
 case rest =>
  clear HC2
  try clear c1
  try clear p1
  try clear q1
  try clear hx1
  try clear qi1
  try clear p2
  try clear c3
  try clear c3b0
  try clear c3b1
  try clear c3b2
  try clear c4
  try clear c4b0
  try clear c4b1
  try clear c5
  try clear c5b0
  try clear c5b1
  try clear hx125_0
  try clear hx125_1
  try clear hx125_2
  try clear hx125_3
  try clear hx125_4
  try clear p125
  try clear q125
  obtain ⟨kq, x18_1, rfl, HA, HJ1, HB⟩ := hcut
  cases kq with
  | zero => exact absurd HA.out (by simp [qx.j0])
  | succ kj1 =>
   have H := HA.out
   clear HA
   simp only [qx.j0] at H
   by_cases c6 : x18_1 = true
   ·subst c6
    have H1 : (some 2) = some r := by rw [if_pos rfl] at H; exact H
    clear H
    have H := H1
    clear H1
    obtain rfl := Option.some.inj H
    go_wp2
    go_ret
    exact ⟨zz103, zz53⟩
   ·replace c6 := Bool.eq_false_iff.mpr c6
    subst c6
    have H1 : (qx.l0 kj1 l0 (l0.length : Int) 0) = some r := by rw [if_neg (show ¬ (false = true) by decide)] at H; exact H
    clear H
    have H := H1
    clear H1
    have H' := qa.mk H
    clear H
    go_wp2
    go_loopg [21] kj1 (fun kq v21 w' => ∃ (x21_2 : Int), v21 = .int .i64 x21_2 ∧ qa (qx.l0 kq l0 (l0.length : Int) x21_2 = some r) ∧ qa (kq ≤ kj1) ∧ qa (Below w.heap.size w w'))
    case atStart => exact ⟨(0), zz7, H', ⟨Nat.le_refl _⟩, ⟨zz53⟩⟩
    case round =>
     clear H'
     try clear c1
     try clear p1
     try clear q1
     try clear hx1
     try clear qi1
     try clear p2
     try clear c3
     try clear c3b0
     try clear c3b1
     try clear c3b2
     try clear c4
     try clear c4b0
     try clear c4b1
     try clear c5
     try clear c5b0
     try clear c5b1
     try clear c6
     try clear hx125_0
     try clear hx125_1
     try clear hx125_2
     try clear hx125_3
     try clear hx125_4
     try clear p1
     try clear p125
     try clear p2
     try clear q1
     try clear q125
     obtain ⟨x21_2, rfl, HA, HK2, HB⟩ := hrel
     cases gk with
     | zero => exact absurd HA.out (by simp [qx.l0])
     | succ k2 =>
      have H := HA.out
      clear HA
      simp only [qx.l0] at H
      by_cases c7 : x21_2 < (l0.length : Int)
      ·rw [if_pos c7] at H
       have c7b0 : decide (x21_2 < (l0.length : Int)) = true := decide_eq_true c7
       clear c7
       by_cases c8 : 0 ≤ x21_2
       ·rw [if_pos c8] at H
        have c8b0 : decide (0 ≤ x21_2) = true := decide_eq_true c8
        clear c8
        by_cases c9 : x21_2 < (l0.length : Int)
        ·rw [if_pos c9] at H
         have c9b0 : decide (x21_2 < (l0.length : Int)) = true := decide_eq_true c9
         clear c9
         replace H := Option.bind_eq_some_iff.mp H
         obtain ⟨t128, A100, H⟩ := H
         replace H : (if t128 = true then (qx.l0 k2 l0 (l0.length : Int) (wrap64 (x21_2 + 1))) else (some 2)) = some r := H
         have A10 := qa.mk A100
         clear A100
         by_cases c11 : t128 = true
         ·subst c11
          have H1 : (qx.l0 k2 l0 (l0.length : Int) (wrap64 (x21_2 + 1))) = some r := by rw [if_pos rfl] at H; exact H
          clear H
          have H := H1
          clear H1
          have H' := qa.mk H
          clear H
          have p126 : 0 ≤ (x21_2 : Int) := of_decide_eq_true zz12
          have q126 : x21_2 < (l0.length : Int) := of_decide_eq_true zz12
          obtain ⟨ad126, A126_4, c126_4, e126, hx126_0, hx126_1, hx126_2, hx126_3, hx126_4, hl126_4, hi126_4⟩ := at_T41 HR0.out x21_2 p126 q126
          cases e126
          replace hx126_0 := (HB.out.cell (qwc w _ hx126_0)).trans hx126_0
          replace hx126_1 := (HB.out.cell (qwc w _ hx126_1)).trans hx126_1
          replace hx126_2 := (HB.out.cell (qwc w _ hx126_2)).trans hx126_2
          replace hx126_3 := (HB.out.cell (qwc w _ hx126_3)).trans hx126_3
          replace hx126_4 := (HB.out.cell (qwc w _ hx126_4)).trans hx126_4
          have HR126_4 := qa.mk hi126_4
          have HC126_4 := qa.mk hl126_4
          clear hi126_4 hl126_4
          replace p126 := eq_true p126
          replace q126 := eq_true q126
          go_wp2_with (first | ((with_reducible refine qeb (N := 4) rfl ?_); (try (refine qkc (by rfl) ?_; dsimp only)); refine qjb ?hg (N := 4) ?hd (cs := #[.bool false, .bool false, .string (⟨#[]⟩ : ByteArray), .string (⟨#[]⟩ : ByteArray), .slice none 0 0]) (t := 41) ?hr ?_; (case hd => rfl); (case hg => rfl); (case hr => exact zz6); intro gb127 hg w12 hbox hb; have n0_ := qa.mk (qp zz53 hb); have n1_ := qa.mk (hbox); have n2_ := qa.mk ((by rw [hg]; exact (qo zz53) : w.heap.size ≤ gb127)); have n3_ := qa.mk ((by rw [hg]; exact (qo zz53) : w.heap.size ≤ gb127)); clear HB; have HB := n0_; have BK127 := n1_; have GW127 := n2_; have GE127 := n3_; clear n0_ n1_ n2_ n3_; clear hb hbox hg; have hcz13_0 : w12.cell? ⟨gb127, 0, none⟩ = some (.bool false) := (qh BK127.out 0).trans rfl; have hcz13_1 : w12.cell? ⟨gb127, 1, none⟩ = some (.bool false) := (qh BK127.out 1).trans rfl; have hcz13_2 : w12.cell? ⟨gb127, 2, none⟩ = some (.string (⟨#[]⟩ : ByteArray)) := (qh BK127.out 2).trans rfl; have hcz13_3 : w12.cell? ⟨gb127, 3, none⟩ = some (.string (⟨#[]⟩ : ByteArray)) := (qh BK127.out 3).trans rfl; have hcz13_4 : w12.cell? ⟨gb127, 4, none⟩ = some (.slice none 0 0) := (qh BK127.out 4).trans rfl; have hfz13_0 := qf BK127.out 0; have hfz13_1 := qf BK127.out 1; have hfz13_2 := qf BK127.out 2; have hfz13_3 := qf BK127.out 3; have hfz13_4 := qf BK127.out 4) | ((with_reducible refine qy (f := 32) rfl ?_); refine qqb (some 26) rfl rfl Tryd.func32 (by kernel_rfl) rfl #[.agg #[.bool ((qu l0 x21_2).f0), .bool ((qu l0 x21_2).f1), .string ((qu l0 x21_2).f2), .string ((qu l0 x21_2).f3), .slice A126_4 ((qu l0 x21_2).f4).length c126_4]] rfl zz94 ?_; (with_reducible refine (qrb.calls ((qu l0 x21_2).f0) ((qu l0 x21_2).f1) ((qu l0 x21_2).f2) ((qu l0 x21_2).f3) _ _ ((qu l0 x21_2).f4) true _ ?side1 ?side2 A10.out).mono ?_); (case side1 => exact Kd.C_below HR126_4.out zz86); (case side2 => exact HC126_4.out); rintro e w14 ⟨rfl, hb⟩; refine ⟨_, rfl, ?_⟩; have n0_ := qa.mk (qmb (g := gb127) (o := .cells #[.bool ((qu l0 x21_2).f0), .bool ((qu l0 x21_2).f1), .string ((qu l0 x21_2).f2), .string ((qu l0 x21_2).f3), .slice A126_4 ((qu l0 x21_2).f4).length c126_4] 41 (0, 0)) zz188 hb); have n1_ := qa.mk (qp zz86 hb); clear BK127; clear HB; have BK127 := n0_; have HB := n1_; clear n0_ n1_; (try clear hb); (try clear hb2); (try clear hk); (try clear hi)))
          go_roundg k2
          case measure => have := HJ1.out; have := HK2.out; omega
          case rel => exact ⟨(wrap64 (x21_2 + 1)), zz7, H', ⟨by have := HJ1.out; have := HK2.out; omega⟩, ⟨zz86⟩⟩
         ·replace c11 := Bool.eq_false_iff.mpr c11
          subst c11
          have H1 : (some 2) = some r := by rw [if_neg (show ¬ (false = true) by decide)] at H; exact H
          clear H
          have H := H1
          clear H1
          obtain rfl := Option.some.inj H
          have p126 : 0 ≤ (x21_2 : Int) := of_decide_eq_true zz12
          have q126 : x21_2 < (l0.length : Int) := of_decide_eq_true zz12
          obtain ⟨ad126, A126_4, c126_4, e126, hx126_0, hx126_1, hx126_2, hx126_3, hx126_4, hl126_4, hi126_4⟩ := at_T41 HR0.out x21_2 p126 q126
          cases e126
          replace hx126_0 := (HB.out.cell (qwc w _ hx126_0)).trans hx126_0
          replace hx126_1 := (HB.out.cell (qwc w _ hx126_1)).trans hx126_1
          replace hx126_2 := (HB.out.cell (qwc w _ hx126_2)).trans hx126_2
          replace hx126_3 := (HB.out.cell (qwc w _ hx126_3)).trans hx126_3
          replace hx126_4 := (HB.out.cell (qwc w _ hx126_4)).trans hx126_4
          have HR126_4 := qa.mk hi126_4
          have HC126_4 := qa.mk hl126_4
          clear hi126_4 hl126_4
          replace p126 := eq_true p126
          replace q126 := eq_true q126
          go_wp2_with (first | ((with_reducible refine qeb (N := 4) rfl ?_); (try (refine qkc (by rfl) ?_; dsimp only)); refine qjb ?hg (N := 4) ?hd (cs := #[.bool false, .bool false, .string (⟨#[]⟩ : ByteArray), .string (⟨#[]⟩ : ByteArray), .slice none 0 0]) (t := 41) ?hr ?_; (case hd => rfl); (case hg => rfl); (case hr => exact zz6); intro gb127 hg w15 hbox hb; have n0_ := qa.mk (qp zz53 hb); have n1_ := qa.mk (hbox); have n2_ := qa.mk ((by rw [hg]; exact (qo zz53) : w.heap.size ≤ gb127)); have n3_ := qa.mk ((by rw [hg]; exact (qo zz53) : w.heap.size ≤ gb127)); clear HB; have HB := n0_; have BK127 := n1_; have GW127 := n2_; have GE127 := n3_; clear n0_ n1_ n2_ n3_; clear hb hbox hg; have hcz16_0 : w15.cell? ⟨gb127, 0, none⟩ = some (.bool false) := (qh BK127.out 0).trans rfl; have hcz16_1 : w15.cell? ⟨gb127, 1, none⟩ = some (.bool false) := (qh BK127.out 1).trans rfl; have hcz16_2 : w15.cell? ⟨gb127, 2, none⟩ = some (.string (⟨#[]⟩ : ByteArray)) := (qh BK127.out 2).trans rfl; have hcz16_3 : w15.cell? ⟨gb127, 3, none⟩ = some (.string (⟨#[]⟩ : ByteArray)) := (qh BK127.out 3).trans rfl; have hcz16_4 : w15.cell? ⟨gb127, 4, none⟩ = some (.slice none 0 0) := (qh BK127.out 4).trans rfl; have hfz16_0 := qf BK127.out 0; have hfz16_1 := qf BK127.out 1; have hfz16_2 := qf BK127.out 2; have hfz16_3 := qf BK127.out 3; have hfz16_4 := qf BK127.out 4) | ((with_reducible refine qy (f := 32) rfl ?_); refine qqb (some 26) rfl rfl Tryd.func32 (by kernel_rfl) rfl #[.agg #[.bool ((qu l0 x21_2).f0), .bool ((qu l0 x21_2).f1), .string ((qu l0 x21_2).f2), .string ((qu l0 x21_2).f3), .slice A126_4 ((qu l0 x21_2).f4).length c126_4]] rfl zz94 ?_; (with_reducible refine (qrb.calls ((qu l0 x21_2).f0) ((qu l0 x21_2).f1) ((qu l0 x21_2).f2) ((qu l0 x21_2).f3) _ _ ((qu l0 x21_2).f4) false _ ?side1 ?side2 A10.out).mono ?_); (case side1 => exact Kd.C_below HR126_4.out zz86); (case side2 => exact HC126_4.out); rintro e w17 ⟨rfl, hb⟩; refine ⟨_, rfl, ?_⟩; have n0_ := qa.mk (qmb (g := gb127) (o := .cells #[.bool ((qu l0 x21_2).f0), .bool ((qu l0 x21_2).f1), .string ((qu l0 x21_2).f2), .string ((qu l0 x21_2).f3), .slice A126_4 ((qu l0 x21_2).f4).length c126_4] 41 (0, 0)) zz188 hb); have n1_ := qa.mk (qp zz86 hb); clear BK127; clear HB; have BK127 := n0_; have HB := n1_; clear n0_ n1_; (try clear hb); (try clear hb2); (try clear hk); (try clear hi)))
          go_ret
          exact ⟨zz103, zz86⟩
        ·rw [if_neg c9] at H
         exact absurd H (by simp)
       ·rw [if_neg c8] at H
        exact absurd H (by simp)
      ·rw [if_neg c7] at H
       have c7b0 : decide (x21_2 < (l0.length : Int)) = false := decide_eq_false c7
       clear c7
       obtain rfl := Option.some.inj H
       go_wp2
       go_ret
       exact ⟨zz103, zz53⟩
mutual
def qkb.l0 : Nat → List (S41) → List (S60) → Int → Int → Option ((List (S60)))
 | 0, _, _, _, _ => none
 | k + 1, x0, x3, x9, x10 => if x10 < x9 then (if 0 ≤ x10 then (if x10 < (x0.length : Int) then (qkb.l1 k x0 x3 x10 x9 x10 (((qu x0 x10).f4).length : Int) 0 ((qu x0 x10).f0) ((qu x0 x10).f1) ((qu x0 x10).f2) ((qu x0 x10).f3) ([] : List (S61))) else (none)) else (none)) else (some x3)
def qkb.l1 : Nat → List (S41) → List (S60) → Int → Int → Int → Int → Int → Bool → Bool → ByteArray → ByteArray → List (S61) → Option ((List (S60)))
 | 0, _, _, _, _, _, _, _, _, _, _, _, _ => none
 | k + 1, x0, x3, x4, x9, x10, x39, x40, x329000, x329001, x329002, x329003, x329004 => if x40 < x39 then (if 0 ≤ x4 then (if x4 < (x0.length : Int) then (if 0 ≤ x40 then (if x40 < (((qu x0 x4).f4).length : Int) then (if x329004.length < 3518437208883 then (qkb.l1 k x0 x3 x4 x9 x10 x39 (wrap64 (x40 + 1)) x329000 x329001 x329002 x329003 (x329004 ++ [(⟨(rd_T33 ((qu x0 x4).f4) x40).f0, (rd_T33 ((qu x0 x4).f4) x40).f1, (rd_T33 ((qu x0 x4).f4) x40).f2⟩ : S61)])) else (none)) else (none)) else (none)) else (none)) else (none)) else (if x3.length < 2199023255552 then (qkb.l0 k x0 (x3 ++ [(⟨x329000, x329001, x329002, x329003, x329004⟩ : S60)]) x9 (wrap64 (x10 + 1))) else (none))
end
def qkb.f (k : Nat) (l0 : List (S41)) : Option ((List (S60))) := qkb.l0 k l0 ([] : List (S60)) (l0.length : Int) 0
def qkb.T5 : Bool × List (List Nat × List Nat) := (true, [([], []), ([], []), ([0, 1], [0, 1]), ([2], [2]), ([3], [3]), ([], []), ([], []), ([5, 6], [5, 6]), ([7], [7]), ([8], [8]), ([], []), ([], []), ([10, 11], [10, 11]), ([12], [12]), ([13], [13]), ([], []), ([], []), ([15, 16], [15, 16]), ([17], [17]), ([18], [18]), ([4, 9, 14, 19], [4, 9, 14, 19]), ([], []), ([21, 20, 0, 1, 2, 3, 4, 5, 6, 7, 8, 9, 10, 11, 12, 13, 14, 15, 16, 17, 18, 19, 20, 21], [20, 21])])
def qkb.B5 : List Nat := [0, 0, 3, 7, 15, 0, 0, 96, 224, 480, 0, 0, 3072, 7168, 15360, 0, 0, 98304, 229376, 491520, 1048575, 0, 4194303]
theorem qkb.tab5 : rtab .any (opsOf Tryd.f7 5) = qkb.T5 := by kernel_rfl
theorem qkb.bits5 : waitsOk qkb.T5.2 qkb.B5 = true := by kernel_rfl
set_option maxHeartbeats 8000000 in
set_option maxRecDepth 100000 in
theorem qkb.calls (k : Nat) (A0 : Option Addr) (c0 : Nat) (l0 : List (S41)) (r : List (S60)) (w : World) (hr0 : Kd.C k41 w A0 l0.length l0) (hc0 : l0.length ≤ c0) (h : qkb.f k l0 = some r) :
  Calls Tryd.prog 7 #[.slice A0 l0.length c0] w fun e w' => ∃ v0_ : Value, e = .returned (v0_) ∧ Kd.S k60 60 w' w.heap.size (fun _ => True) v0_ r ∧ Below w.heap.size w w' := by
 have hu60 := Tryd.underlying60
 have hu33 := Tryd.underlying33
 have hu61 := Tryd.underlying61
 have HR0 := qa.mk hr0
 have HC0 := qa.mk hc0
 clear hr0 hc0
 have HB := qa.mk (Below.refl w.heap.size w)
 have H : (qkb.l0 k l0 ([] : List (S60)) (l0.length : Int) 0) = some r := h
 clear h
 have H' := qa.mk H
 clear H
 go_enter Tryd.func7, Tryd.ntmps7
 go_wp2
 go_loopg [3, 10] k (fun kq v3 v10 w' => ∃ (x3_1 : List (S60)) (x10_1 : Int), v10 = .int .i64 x10_1 ∧ qa (qkb.l0 kq l0 x3_1 (l0.length : Int) x10_1 = some r) ∧ qa (kq ≤ k) ∧ qa (Kd.S k60 60 w' w.heap.size (fun _ => True) v3 x3_1) ∧ qa (Below w.heap.size w w'))
 case atStart => exact ⟨(([] : List (S60))), (0), zz7, H', ⟨Nat.le_refl _⟩, ⟨zz95⟩, ⟨zz53⟩⟩
 case round =>
  clear H'
  obtain ⟨x3_1, x10_1, rfl, HA, HK1, HO_3, HB⟩ := hrel
  cases gk with
  | zero => exact absurd HA.out (by simp [qkb.l0])
  | succ k1 =>
   have H := HA.out
   clear HA
   simp only [qkb.l0] at H
   by_cases c2 : x10_1 < (l0.length : Int)
   ·rw [if_pos c2] at H
    have c2b0 : decide (x10_1 < (l0.length : Int)) = true := decide_eq_true c2
    clear c2
    by_cases c3 : 0 ≤ x10_1
    ·rw [if_pos c3] at H
     have c3b0 : decide (0 ≤ x10_1) = true := decide_eq_true c3
     clear c3
     by_cases c4 : x10_1 < (l0.length : Int)
     ·rw [if_pos c4] at H
      have c4b0 : decide (x10_1 < (l0.length : Int)) = true := decide_eq_true c4
      clear c4
      have H' := qa.mk H
      clear H
      try go_wp2
      have n0_ := qa.mk (Kd.S_drew HO_3.out)
      have n1_ := qa.mk (qd HB.out)
      clear HO_3
      clear HB
      have HO_3 := n0_
      have HB := n1_
      clear n0_ n1_
      have p324 : 0 ≤ (x10_1 : Int) := of_decide_eq_true zz12
      have q324 : x10_1 < (l0.length : Int) := of_decide_eq_true zz12
      obtain ⟨ad324, A324_4, c324_4, e324, hx324_0, hx324_1, hx324_2, hx324_3, hx324_4, hl324_4, hi324_4⟩ := at_T41 HR0.out x10_1 p324 q324
      have hw324_4 := hx324_4
      have hw324_3 := hx324_3
      have hw324_2 := hx324_2
      have hw324_1 := hx324_1
      have hw324_0 := hx324_0
      cases e324
      replace hx324_0 := (HB.out.cell (qwc w _ hx324_0)).trans hx324_0
      replace hx324_1 := (HB.out.cell (qwc w _ hx324_1)).trans hx324_1
      replace hx324_2 := (HB.out.cell (qwc w _ hx324_2)).trans hx324_2
      replace hx324_3 := (HB.out.cell (qwc w _ hx324_3)).trans hx324_3
      replace hx324_4 := (HB.out.cell (qwc w _ hx324_4)).trans hx324_4
      have HR324_4 := qa.mk hi324_4
      have HC324_4 := qa.mk hl324_4
      clear hi324_4 hl324_4
      replace p324 := eq_true p324
      replace q324 := eq_true q324
      have p325 : 0 ≤ (x10_1 : Int) := of_decide_eq_true zz12
      have q325 : x10_1 < (l0.length : Int) := of_decide_eq_true zz12
      obtain ⟨ad325, A325_4, c325_4, e325, hx325_0, hx325_1, hx325_2, hx325_3, hx325_4, hl325_4, hi325_4⟩ := at_T41 HR0.out x10_1 p325 q325
      have hw325_4 := hx325_4
      have hw325_3 := hx325_3
      have hw325_2 := hx325_2
      have hw325_1 := hx325_1
      have hw325_0 := hx325_0
      obtain rfl : ad324 = ad325 := (by injection e325)
      replace hx325_0 := (HB.out.cell (qwc w _ hx325_0)).trans hx325_0
      replace hx325_1 := (HB.out.cell (qwc w _ hx325_1)).trans hx325_1
      replace hx325_2 := (HB.out.cell (qwc w _ hx325_2)).trans hx325_2
      replace hx325_3 := (HB.out.cell (qwc w _ hx325_3)).trans hx325_3
      replace hx325_4 := (HB.out.cell (qwc w _ hx325_4)).trans hx325_4
      have HR325_4 := qa.mk hi325_4
      have HC325_4 := qa.mk hl325_4
      clear hi325_4 hl325_4
      replace p325 := eq_true p325
      replace q325 := eq_true q325
      have ea_ := Option.some.inj (hx324_4.symm.trans hx325_4)
      injection ea_ with ea_ en_ ec_
      subst ea_
      subst ec_
      clear en_
      have p326 : 0 ≤ (x10_1 : Int) := of_decide_eq_true zz12
      have q326 : x10_1 < (l0.length : Int) := of_decide_eq_true zz12
      obtain ⟨ad326, A326_4, c326_4, e326, hx326_0, hx326_1, hx326_2, hx326_3, hx326_4, hl326_4, hi326_4⟩ := at_T41 HR0.out x10_1 p326 q326
      have hw326_4 := hx326_4
      have hw326_3 := hx326_3
      have hw326_2 := hx326_2
      have hw326_1 := hx326_1
      have hw326_0 := hx326_0
      obtain rfl : ad324 = ad326 := (by injection e326)
      replace hx326_0 := (HB.out.cell (qwc w _ hx326_0)).trans hx326_0
      replace hx326_1 := (HB.out.cell (qwc w _ hx326_1)).trans hx326_1
      replace hx326_2 := (HB.out.cell (qwc w _ hx326_2)).trans hx326_2
      replace hx326_3 := (HB.out.cell (qwc w _ hx326_3)).trans hx326_3
      replace hx326_4 := (HB.out.cell (qwc w _ hx326_4)).trans hx326_4
      have HR326_4 := qa.mk hi326_4
      have HC326_4 := qa.mk hl326_4
      clear hi326_4 hl326_4
      replace p326 := eq_true p326
      replace q326 := eq_true q326
      have ea_ := Option.some.inj (hx324_4.symm.trans hx326_4)
      injection ea_ with ea_ en_ ec_
      subst ea_
      subst ec_
      clear en_
      have p327 : 0 ≤ (x10_1 : Int) := of_decide_eq_true zz12
      have q327 : x10_1 < (l0.length : Int) := of_decide_eq_true zz12
      obtain ⟨ad327, A327_4, c327_4, e327, hx327_0, hx327_1, hx327_2, hx327_3, hx327_4, hl327_4, hi327_4⟩ := at_T41 HR0.out x10_1 p327 q327
      have hw327_4 := hx327_4
      have hw327_3 := hx327_3
      have hw327_2 := hx327_2
      have hw327_1 := hx327_1
      have hw327_0 := hx327_0
      obtain rfl : ad324 = ad327 := (by injection e327)
      replace hx327_0 := (HB.out.cell (qwc w _ hx327_0)).trans hx327_0
      replace hx327_1 := (HB.out.cell (qwc w _ hx327_1)).trans hx327_1
      replace hx327_2 := (HB.out.cell (qwc w _ hx327_2)).trans hx327_2
      replace hx327_3 := (HB.out.cell (qwc w _ hx327_3)).trans hx327_3
      replace hx327_4 := (HB.out.cell (qwc w _ hx327_4)).trans hx327_4
      have HR327_4 := qa.mk hi327_4
      have HC327_4 := qa.mk hl327_4
      clear hi327_4 hl327_4
      replace p327 := eq_true p327
      replace q327 := eq_true q327
      have ea_ := Option.some.inj (hx324_4.symm.trans hx327_4)
      injection ea_ with ea_ en_ ec_
      subst ea_
      subst ec_
      clear en_
      refine start_ (n := 23) (S := fun w' => w'.cell? (ad324.add ((x10_1).toNat * 5)) = some (.bool ((qu l0 x10_1).f0)) ∧ w'.cell? ⟨(ad324.add ((x10_1).toNat * 5)).block, (ad324.add ((x10_1).toNat * 5)).off + 1, none⟩ = some (.bool ((qu l0 x10_1).f1)) ∧ w'.cell? ⟨(ad324.add ((x10_1).toNat * 5)).block, (ad324.add ((x10_1).toNat * 5)).off + 2, none⟩ = some (.string ((qu l0 x10_1).f2)) ∧ w'.cell? ⟨(ad324.add ((x10_1).toNat * 5)).block, (ad324.add ((x10_1).toNat * 5)).off + 3, none⟩ = some (.string ((qu l0 x10_1).f3)) ∧ w'.cell? ⟨(ad324.add ((x10_1).toNat * 5)).block, (ad324.add ((x10_1).toNat * 5)).off + 4, none⟩ = some (.slice A324_4 ((qu l0 x10_1).f4).length c324_4) ∧ w'.cell? (ad324.add ((x10_1).toNat * 5)) = some (.bool ((qu l0 x10_1).f0)) ∧ w'.cell? ⟨(ad324.add ((x10_1).toNat * 5)).block, (ad324.add ((x10_1).toNat * 5)).off + 1, none⟩ = some (.bool ((qu l0 x10_1).f1)) ∧ w'.cell? ⟨(ad324.add ((x10_1).toNat * 5)).block, (ad324.add ((x10_1).toNat * 5)).off + 2, none⟩ = some (.string ((qu l0 x10_1).f2)) ∧ w'.cell? ⟨(ad324.add ((x10_1).toNat * 5)).block, (ad324.add ((x10_1).toNat * 5)).off + 3, none⟩ = some (.string ((qu l0 x10_1).f3)) ∧ w'.cell? ⟨(ad324.add ((x10_1).toNat * 5)).block, (ad324.add ((x10_1).toNat * 5)).off + 4, none⟩ = some (.slice A324_4 ((qu l0 x10_1).f4).length c324_4) ∧ w'.cell? (ad324.add ((x10_1).toNat * 5)) = some (.bool ((qu l0 x10_1).f0)) ∧ w'.cell? ⟨(ad324.add ((x10_1).toNat * 5)).block, (ad324.add ((x10_1).toNat * 5)).off + 1, none⟩ = some (.bool ((qu l0 x10_1).f1)) ∧ w'.cell? ⟨(ad324.add ((x10_1).toNat * 5)).block, (ad324.add ((x10_1).toNat * 5)).off + 2, none⟩ = some (.string ((qu l0 x10_1).f2)) ∧ w'.cell? ⟨(ad324.add ((x10_1).toNat * 5)).block, (ad324.add ((x10_1).toNat * 5)).off + 3, none⟩ = some (.string ((qu l0 x10_1).f3)) ∧ w'.cell? ⟨(ad324.add ((x10_1).toNat * 5)).block, (ad324.add ((x10_1).toNat * 5)).off + 4, none⟩ = some (.slice A324_4 ((qu l0 x10_1).f4).length c324_4) ∧ w'.cell? (ad324.add ((x10_1).toNat * 5)) = some (.bool ((qu l0 x10_1).f0)) ∧ w'.cell? ⟨(ad324.add ((x10_1).toNat * 5)).block, (ad324.add ((x10_1).toNat * 5)).off + 1, none⟩ = some (.bool ((qu l0 x10_1).f1)) ∧ w'.cell? ⟨(ad324.add ((x10_1).toNat * 5)).block, (ad324.add ((x10_1).toNat * 5)).off + 2, none⟩ = some (.string ((qu l0 x10_1).f2)) ∧ w'.cell? ⟨(ad324.add ((x10_1).toNat * 5)).block, (ad324.add ((x10_1).toNat * 5)).off + 3, none⟩ = some (.string ((qu l0 x10_1).f3)) ∧ w'.cell? ⟨(ad324.add ((x10_1).toNat * 5)).block, (ad324.add ((x10_1).toNat * 5)).off + 4, none⟩ = some (.slice A324_4 ((qu l0 x10_1).f4).length c324_4)) (ds := []) #[false, false, false, false, false, false, false, false, false, false, false, false, false, false, false, false, false, false, false, false, false, false, false] (by kernel_rfl) rfl rfl ⟨((HB.out.cell (qwc w _ hw324_0)).trans hw324_0), ((HB.out.cell (qwc w _ hw324_1)).trans hw324_1), ((HB.out.cell (qwc w _ hw324_2)).trans hw324_2), ((HB.out.cell (qwc w _ hw324_3)).trans hw324_3), ((HB.out.cell (qwc w _ hw324_4)).trans hw324_4), ((HB.out.cell (qwc w _ hw325_0)).trans hw325_0), ((HB.out.cell (qwc w _ hw325_1)).trans hw325_1), ((HB.out.cell (qwc w _ hw325_2)).trans hw325_2), ((HB.out.cell (qwc w _ hw325_3)).trans hw325_3), ((HB.out.cell (qwc w _ hw325_4)).trans hw325_4), ((HB.out.cell (qwc w _ hw326_0)).trans hw326_0), ((HB.out.cell (qwc w _ hw326_1)).trans hw326_1), ((HB.out.cell (qwc w _ hw326_2)).trans hw326_2), ((HB.out.cell (qwc w _ hw326_3)).trans hw326_3), ((HB.out.cell (qwc w _ hw326_4)).trans hw326_4), ((HB.out.cell (qwc w _ hw327_0)).trans hw327_0), ((HB.out.cell (qwc w _ hw327_1)).trans hw327_1), ((HB.out.cell (qwc w _ hw327_2)).trans hw327_2), ((HB.out.cell (qwc w _ hw327_3)).trans hw327_3), ((HB.out.cell (qwc w _ hw327_4)).trans hw327_4)⟩ (fun hHeld => ?_); refine with_tabW qkb.tab5 qkb.bits5 (fun HT_ HW_ => ?_)
      generalize wr.drew = w5 at HO_3 HB HR324_4 HR325_4 HR326_4 HR327_4 hx324_0 hx324_1 hx324_2 hx324_3 hx324_4 hx325_0 hx325_1 hx325_2 hx325_3 hx325_4 hx326_0 hx326_1 hx326_2 hx326_3 hx326_4 hx327_0 hx327_1 hx327_2 hx327_3 hx327_4 hHeld ⊢
      refine pure_ (i := 0) (N := some 13) (v := ?_) (a' := ?_) #[true, false, false, false, false, false, false, false, false, false, false, false, false, false, false, false, false, false, false, false, false, false, false] rfl rfl (any_of HT_.out (by kernel_rfl)) (fun _ _ _ h => h) (Or.inl ⟨by rfl, ?_⟩) ?_ ?_
      rotate_left
      ·intro w'
       go_simp
       with_reducible rfl
      rotate_left
      ·simp only [Act.put, List.setIfInBounds_toArray, List.set_cons_zero, List.set_cons_succ, i64_w, i32_w]
       rfl
      refine pure_ (i := 1) (N := some 14) (v := ?_) (a' := ?_) #[true, true, false, false, false, false, false, false, false, false, false, false, false, false, false, false, false, false, false, false, false, false, false] rfl rfl (any_of HT_.out (by kernel_rfl)) (fun _ _ _ h => h) (Or.inl ⟨by rfl, ?_⟩) ?_ ?_
      rotate_left
      ·intro w'
       go_simp
       with_reducible rfl
      rotate_left
      ·simp only [Act.put, List.setIfInBounds_toArray, List.set_cons_zero, List.set_cons_succ, i64_w, i32_w]
       rfl
      refine pure_ (i := 2) (N := some 15) (v := ?_) (a' := ?_) #[true, true, true, false, false, false, false, false, false, false, false, false, false, false, false, false, false, false, false, false, false, false, false] rfl rfl (any_of HT_.out (by kernel_rfl)) (fun _ _ _ h => h) (Or.inl ⟨by rfl, ?_⟩) ?_ ?_
      rotate_left
      ·intro w'
       go_simp
       with_reducible rfl
      rotate_left
      ·simp only [Act.put, List.setIfInBounds_toArray, List.set_cons_zero, List.set_cons_succ, i64_w, i32_w]
       rfl
      refine pure_ (i := 3) (N := some 16) (v := ?_) (a' := ?_) #[true, true, true, true, false, false, false, false, false, false, false, false, false, false, false, false, false, false, false, false, false, false, false] rfl rfl (any_of HT_.out (by kernel_rfl)) (fun _ _ _ h => h) (Or.inl ⟨by rfl, ?_⟩) ?_ ?_
      rotate_left
      ·intro w'
       go_simp
       with_reducible rfl
      rotate_left
      ·simp only [Act.put, List.setIfInBounds_toArray, List.set_cons_zero, List.set_cons_succ, i64_w, i32_w]
       rfl
      refine pure_ (i := 5) (N := some 18) (v := ?_) (a' := ?_) #[true, true, true, true, false, true, false, false, false, false, false, false, false, false, false, false, false, false, false, false, false, false, false] rfl rfl (any_of HT_.out (by kernel_rfl)) (fun _ _ _ h => h) (Or.inl ⟨by rfl, ?_⟩) ?_ ?_
      rotate_left
      ·intro w'
       go_simp
       with_reducible rfl
      rotate_left
      ·simp only [Act.put, List.setIfInBounds_toArray, List.set_cons_zero, List.set_cons_succ, i64_w, i32_w]
       rfl
      refine pure_ (i := 6) (N := some 19) (v := ?_) (a' := ?_) #[true, true, true, true, false, true, true, false, false, false, false, false, false, false, false, false, false, false, false, false, false, false, false] rfl rfl (any_of HT_.out (by kernel_rfl)) (fun _ _ _ h => h) (Or.inl ⟨by rfl, ?_⟩) ?_ ?_
      rotate_left
      ·intro w'
       go_simp
       with_reducible rfl
      rotate_left
      ·simp only [Act.put, List.setIfInBounds_toArray, List.set_cons_zero, List.set_cons_succ, i64_w, i32_w]
       rfl
      refine pure_ (i := 7) (N := some 20) (v := ?_) (a' := ?_) #[true, true, true, true, false, true, true, true, false, false, false, false, false, false, false, false, false, false, false, false, false, false, false] rfl rfl (any_of HT_.out (by kernel_rfl)) (fun _ _ _ h => h) (Or.inl ⟨by rfl, ?_⟩) ?_ ?_
      rotate_left
      ·intro w'
       go_simp
       with_reducible rfl
      rotate_left
      ·simp only [Act.put, List.setIfInBounds_toArray, List.set_cons_zero, List.set_cons_succ, i64_w, i32_w]
       rfl
      refine pure_ (i := 8) (N := some 21) (v := ?_) (a' := ?_) #[true, true, true, true, false, true, true, true, true, false, false, false, false, false, false, false, false, false, false, false, false, false, false] rfl rfl (any_of HT_.out (by kernel_rfl)) (fun _ _ _ h => h) (Or.inl ⟨by rfl, ?_⟩) ?_ ?_
      rotate_left
      ·intro w'
       go_simp
       with_reducible rfl
      rotate_left
      ·simp only [Act.put, List.setIfInBounds_toArray, List.set_cons_zero, List.set_cons_succ, i64_w, i32_w]
       rfl
      refine pure_ (i := 10) (N := some 23) (v := ?_) (a' := ?_) #[true, true, true, true, false, true, true, true, true, false, true, false, false, false, false, false, false, false, false, false, false, false, false] rfl rfl (any_of HT_.out (by kernel_rfl)) (fun _ _ _ h => h) (Or.inl ⟨by rfl, ?_⟩) ?_ ?_
      rotate_left
      ·intro w'
       go_simp
       with_reducible rfl
      rotate_left
      ·simp only [Act.put, List.setIfInBounds_toArray, List.set_cons_zero, List.set_cons_succ, i64_w, i32_w]
       rfl
      refine pure_ (i := 11) (N := some 24) (v := ?_) (a' := ?_) #[true, true, true, true, false, true, true, true, true, false, true, true, false, false, false, false, false, false, false, false, false, false, false] rfl rfl (any_of HT_.out (by kernel_rfl)) (fun _ _ _ h => h) (Or.inl ⟨by rfl, ?_⟩) ?_ ?_
      rotate_left
      ·intro w'
       go_simp
       with_reducible rfl
      rotate_left
      ·simp only [Act.put, List.setIfInBounds_toArray, List.set_cons_zero, List.set_cons_succ, i64_w, i32_w]
       rfl
      refine pure_ (i := 12) (N := some 25) (v := ?_) (a' := ?_) #[true, true, true, true, false, true, true, true, true, false, true, true, true, false, false, false, false, false, false, false, false, false, false] rfl rfl (any_of HT_.out (by kernel_rfl)) (fun _ _ _ h => h) (Or.inl ⟨by rfl, ?_⟩) ?_ ?_
      rotate_left
      ·intro w'
       go_simp
       with_reducible rfl
      rotate_left
      ·simp only [Act.put, List.setIfInBounds_toArray, List.set_cons_zero, List.set_cons_succ, i64_w, i32_w]
       rfl
      refine pure_ (i := 13) (N := some 26) (v := ?_) (a' := ?_) #[true, true, true, true, false, true, true, true, true, false, true, true, true, true, false, false, false, false, false, false, false, false, false] rfl rfl (any_of HT_.out (by kernel_rfl)) (fun _ _ _ h => h) (Or.inl ⟨by rfl, ?_⟩) ?_ ?_
      rotate_left
      ·intro w'
       go_simp
       with_reducible rfl
      rotate_left
      ·simp only [Act.put, List.setIfInBounds_toArray, List.set_cons_zero, List.set_cons_succ, i64_w, i32_w]
       rfl
      refine pure_ (i := 15) (N := some 28) (v := ?_) (a' := ?_) #[true, true, true, true, false, true, true, true, true, false, true, true, true, true, false, true, false, false, false, false, false, false, false] rfl rfl (any_of HT_.out (by kernel_rfl)) (fun _ _ _ h => h) (Or.inl ⟨by rfl, ?_⟩) ?_ ?_
      rotate_left
      ·intro w'
       go_simp
       with_reducible rfl
      rotate_left
      ·simp only [Act.put, List.setIfInBounds_toArray, List.set_cons_zero, List.set_cons_succ, i64_w, i32_w]
       rfl
      refine pure_ (i := 16) (N := some 29) (v := ?_) (a' := ?_) #[true, true, true, true, false, true, true, true, true, false, true, true, true, true, false, true, true, false, false, false, false, false, false] rfl rfl (any_of HT_.out (by kernel_rfl)) (fun _ _ _ h => h) (Or.inl ⟨by rfl, ?_⟩) ?_ ?_
      rotate_left
      ·intro w'
       go_simp
       with_reducible rfl
      rotate_left
      ·simp only [Act.put, List.setIfInBounds_toArray, List.set_cons_zero, List.set_cons_succ, i64_w, i32_w]
       rfl
      refine pure_ (i := 17) (N := some 30) (v := ?_) (a' := ?_) #[true, true, true, true, false, true, true, true, true, false, true, true, true, true, false, true, true, true, false, false, false, false, false] rfl rfl (any_of HT_.out (by kernel_rfl)) (fun _ _ _ h => h) (Or.inl ⟨by rfl, ?_⟩) ?_ ?_
      rotate_left
      ·intro w'
       go_simp
       with_reducible rfl
      rotate_left
      ·simp only [Act.put, List.setIfInBounds_toArray, List.set_cons_zero, List.set_cons_succ, i64_w, i32_w]
       rfl
      refine pure_ (i := 18) (N := some 31) (v := ?_) (a' := ?_) #[true, true, true, true, false, true, true, true, true, false, true, true, true, true, false, true, true, true, true, false, false, false, false] rfl rfl (any_of HT_.out (by kernel_rfl)) (fun _ _ _ h => h) (Or.inl ⟨by rfl, ?_⟩) ?_ ?_
      rotate_left
      ·intro w'
       go_simp
       with_reducible rfl
      rotate_left
      ·simp only [Act.put, List.setIfInBounds_toArray, List.set_cons_zero, List.set_cons_succ, i64_w, i32_w]
       rfl
      refine take_ (i := 4) (N := some 17) (v := ?_) (a' := ?_) #[true, true, true, true, true, true, true, true, true, false, true, true, true, true, false, true, true, true, true, false, false, false, false] rfl rfl (take_ofW HT_.out HW_.out (by kernel_rfl)) (fun _ _ _ h => h) (Or.inl ⟨by rfl, ?_⟩) hHeld ?_ ?_
      rotate_left
      ·rintro w' ⟨s0, s1, s2, s3, s4, s5, s6, s7, s8, s9, s10, s11, s12, s13, s14, s15, s16, s17, s18, s19⟩
       go_simp
       with_reducible rfl
      rotate_left
      ·simp only [Act.put, List.setIfInBounds_toArray, List.set_cons_zero, List.set_cons_succ, i64_w, i32_w]
       rfl
      refine take_ (i := 9) (N := some 22) (v := ?_) (a' := ?_) #[true, true, true, true, true, true, true, true, true, true, true, true, true, true, false, true, true, true, true, false, false, false, false] rfl rfl (take_ofW HT_.out HW_.out (by kernel_rfl)) (fun _ _ _ h => h) (Or.inl ⟨by rfl, ?_⟩) hHeld ?_ ?_
      rotate_left
      ·rintro w' ⟨s0, s1, s2, s3, s4, s5, s6, s7, s8, s9, s10, s11, s12, s13, s14, s15, s16, s17, s18, s19⟩
       go_simp
       with_reducible rfl
      rotate_left
      ·simp only [Act.put, List.setIfInBounds_toArray, List.set_cons_zero, List.set_cons_succ, i64_w, i32_w]
       rfl
      refine take_ (i := 14) (N := some 27) (v := ?_) (a' := ?_) #[true, true, true, true, true, true, true, true, true, true, true, true, true, true, true, true, true, true, true, false, false, false, false] rfl rfl (take_ofW HT_.out HW_.out (by kernel_rfl)) (fun _ _ _ h => h) (Or.inl ⟨by rfl, ?_⟩) hHeld ?_ ?_
      rotate_left
      ·rintro w' ⟨s0, s1, s2, s3, s4, s5, s6, s7, s8, s9, s10, s11, s12, s13, s14, s15, s16, s17, s18, s19⟩
       go_simp
       with_reducible rfl
      rotate_left
      ·simp only [Act.put, List.setIfInBounds_toArray, List.set_cons_zero, List.set_cons_succ, i64_w, i32_w]
       rfl
      refine take_ (i := 19) (N := some 32) (v := ?_) (a' := ?_) #[true, true, true, true, true, true, true, true, true, true, true, true, true, true, true, true, true, true, true, true, false, false, false] rfl rfl (take_ofW HT_.out HW_.out (by kernel_rfl)) (fun _ _ _ h => h) (Or.inl ⟨by rfl, ?_⟩) hHeld ?_ ?_
      rotate_left
      ·rintro w' ⟨s0, s1, s2, s3, s4, s5, s6, s7, s8, s9, s10, s11, s12, s13, s14, s15, s16, s17, s18, s19⟩
       go_simp
       with_reducible rfl
      rotate_left
      ·simp only [Act.put, List.setIfInBounds_toArray, List.set_cons_zero, List.set_cons_succ, i64_w, i32_w]
       rfl
      refine pure_ (i := 20) (N := some 33) (v := ?_) (a' := ?_) #[true, true, true, true, true, true, true, true, true, true, true, true, true, true, true, true, true, true, true, true, true, false, false] rfl rfl (any_of HT_.out (by kernel_rfl)) (fun _ _ _ h => h) (Or.inl ⟨by rfl, ?_⟩) ?_ ?_
      rotate_left
      ·intro w'
       go_simp
       with_reducible rfl
      rotate_left
      ·simp only [Act.put, List.setIfInBounds_toArray, List.set_cons_zero, List.set_cons_succ, i64_w, i32_w]
       rfl
      refine one_ (i := 21) (N := some 5) #[true, true, true, true, true, true, true, true, true, true, true, true, true, true, true, true, true, true, true, true, true, true, false] rfl rfl (one_of HT_.out (by kernel_rfl)) (by decide) (fun K hK => ?_)
      refine box_step ?hg (N := 5) ?hd (cs := #[.bool false, .bool false, .string (⟨#[]⟩ : ByteArray), .string (⟨#[]⟩ : ByteArray), .slice none 0 0]) (t := 60) ?hr ?_; (case hd => rfl); (case hg => rfl); (case hr => exact zz6)
      intro gb328 hg w6 hbox hb
      have n0_ := qa.mk (Kd.S_below (Kd.S_elderB zz59 gb328 (Nat.le_of_eq hg.symm)) hb)
      have n1_ := qa.mk (qp zz53 hb)
      have n2_ := qa.mk (hbox)
      have n3_ := qa.mk ((by rw [hg]; exact (qo zz53) : w.heap.size ≤ gb328))
      have n4_ := qa.mk ((by rw [hg]; exact (qo zz53) : w.heap.size ≤ gb328))
      clear HO_3
      clear HB
      have HO_3 := n0_
      have HB := n1_
      have BK328 := n2_
      have GW328 := n3_
      have GE328 := n4_
      clear n0_ n1_ n2_ n3_ n4_
      clear hb hbox hg
      refine hK.out _ _ ⟨((HB.out.cell (qwc w _ hw324_0)).trans hw324_0), ((HB.out.cell (qwc w _ hw324_1)).trans hw324_1), ((HB.out.cell (qwc w _ hw324_2)).trans hw324_2), ((HB.out.cell (qwc w _ hw324_3)).trans hw324_3), ((HB.out.cell (qwc w _ hw324_4)).trans hw324_4), ((HB.out.cell (qwc w _ hw325_0)).trans hw325_0), ((HB.out.cell (qwc w _ hw325_1)).trans hw325_1), ((HB.out.cell (qwc w _ hw325_2)).trans hw325_2), ((HB.out.cell (qwc w _ hw325_3)).trans hw325_3), ((HB.out.cell (qwc w _ hw325_4)).trans hw325_4), ((HB.out.cell (qwc w _ hw326_0)).trans hw326_0), ((HB.out.cell (qwc w _ hw326_1)).trans hw326_1), ((HB.out.cell (qwc w _ hw326_2)).trans hw326_2), ((HB.out.cell (qwc w _ hw326_3)).trans hw326_3), ((HB.out.cell (qwc w _ hw326_4)).trans hw326_4), ((HB.out.cell (qwc w _ hw327_0)).trans hw327_0), ((HB.out.cell (qwc w _ hw327_1)).trans hw327_1), ((HB.out.cell (qwc w _ hw327_2)).trans hw327_2), ((HB.out.cell (qwc w _ hw327_3)).trans hw327_3), ((HB.out.cell (qwc w _ hw327_4)).trans hw327_4)⟩ (fun hHeld => ?_)
      clear hK K
      refine norm_ (a' := ?_) ?_ ?_
      rotate_left
      ·show Act.put _ (some 5) _ = _
       simp only [Act.put, List.setIfInBounds_toArray, List.set_cons_zero, List.set_cons_succ, i64_w, i32_w]
       rfl
      refine one_ (i := 22) (N := none) #[true, true, true, true, true, true, true, true, true, true, true, true, true, true, true, true, true, true, true, true, true, true, true] rfl rfl (one_of HT_.out (by kernel_rfl)) (by decide) (fun K hK => ?_)
      have hs7 : w6.cell? ⟨gb328, 0, none⟩ = some (.bool false) := (qh BK328.out 0).trans rfl
      have hfs7 := qf BK328.out 0
      have hs8 : w6.cell? ⟨gb328, 1, none⟩ = some (.bool false) := (qh BK328.out 1).trans rfl
      have hfs8 := qf BK328.out 1
      have hs9 : w6.cell? ⟨gb328, 2, none⟩ = some (.string (⟨#[]⟩ : ByteArray)) := (qh BK328.out 2).trans rfl
      have hfs9 := qf BK328.out 2
      have hs10 : w6.cell? ⟨gb328, 3, none⟩ = some (.string (⟨#[]⟩ : ByteArray)) := (qh BK328.out 3).trans rfl
      have hfs10 := qf BK328.out 3
      have hs11 : w6.cell? ⟨gb328, 4, none⟩ = some (.slice none 0 0) := (qh BK328.out 4).trans rfl
      have hfs11 := qf BK328.out 4
      refine skip_ (w1 := ?_) (by rfl) rfl ?_ ?_
      rotate_left
      ·go_simp
       rfl
      refine hK.out _ _ ⟨((qv (p := ⟨gb328, _, none⟩) zz149 _).trans (((qv (p := ⟨gb328, _, none⟩) zz149 _).trans (((qv (p := ⟨gb328, _, none⟩) zz149 _).trans (((qv (p := ⟨gb328, _, none⟩) zz149 _).trans (((qv (p := ⟨gb328, _, none⟩) zz149 _).trans (hHeld.1)))))))))), ((qv (p := ⟨gb328, _, none⟩) zz150 _).trans (((qv (p := ⟨gb328, _, none⟩) zz150 _).trans (((qv (p := ⟨gb328, _, none⟩) zz150 _).trans (((qv (p := ⟨gb328, _, none⟩) zz150 _).trans (((qv (p := ⟨gb328, _, none⟩) zz150 _).trans (hHeld.2.1)))))))))), ((qv (p := ⟨gb328, _, none⟩) zz151 _).trans (((qv (p := ⟨gb328, _, none⟩) zz151 _).trans (((qv (p := ⟨gb328, _, none⟩) zz151 _).trans (((qv (p := ⟨gb328, _, none⟩) zz151 _).trans (((qv (p := ⟨gb328, _, none⟩) zz151 _).trans (hHeld.2.2.1)))))))))), ((qv (p := ⟨gb328, _, none⟩) zz152 _).trans (((qv (p := ⟨gb328, _, none⟩) zz152 _).trans (((qv (p := ⟨gb328, _, none⟩) zz152 _).trans (((qv (p := ⟨gb328, _, none⟩) zz152 _).trans (((qv (p := ⟨gb328, _, none⟩) zz152 _).trans (hHeld.2.2.2.1)))))))))), ((qv (p := ⟨gb328, _, none⟩) zz153 _).trans (((qv (p := ⟨gb328, _, none⟩) zz153 _).trans (((qv (p := ⟨gb328, _, none⟩) zz153 _).trans (((qv (p := ⟨gb328, _, none⟩) zz153 _).trans (((qv (p := ⟨gb328, _, none⟩) zz153 _).trans (hHeld.2.2.2.2.1)))))))))), ((qv (p := ⟨gb328, _, none⟩) zz154 _).trans (((qv (p := ⟨gb328, _, none⟩) zz154 _).trans (((qv (p := ⟨gb328, _, none⟩) zz154 _).trans (((qv (p := ⟨gb328, _, none⟩) zz154 _).trans (((qv (p := ⟨gb328, _, none⟩) zz154 _).trans (hHeld.2.2.2.2.2.1)))))))))), ((qv (p := ⟨gb328, _, none⟩) zz155 _).trans (((qv (p := ⟨gb328, _, none⟩) zz155 _).trans (((qv (p := ⟨gb328, _, none⟩) zz155 _).trans (((qv (p := ⟨gb328, _, none⟩) zz155 _).trans (((qv (p := ⟨gb328, _, none⟩) zz155 _).trans (hHeld.2.2.2.2.2.2.1)))))))))), ((qv (p := ⟨gb328, _, none⟩) zz156 _).trans (((qv (p := ⟨gb328, _, none⟩) zz156 _).trans (((qv (p := ⟨gb328, _, none⟩) zz156 _).trans (((qv (p := ⟨gb328, _, none⟩) zz156 _).trans (((qv (p := ⟨gb328, _, none⟩) zz156 _).trans (hHeld.2.2.2.2.2.2.2.1)))))))))), ((qv (p := ⟨gb328, _, none⟩) zz157 _).trans (((qv (p := ⟨gb328, _, none⟩) zz157 _).trans (((qv (p := ⟨gb328, _, none⟩) zz157 _).trans (((qv (p := ⟨gb328, _, none⟩) zz157 _).trans (((qv (p := ⟨gb328, _, none⟩) zz157 _).trans (hHeld.2.2.2.2.2.2.2.2.1)))))))))), ((qv (p := ⟨gb328, _, none⟩) zz158 _).trans (((qv (p := ⟨gb328, _, none⟩) zz158 _).trans (((qv (p := ⟨gb328, _, none⟩) zz158 _).trans (((qv (p := ⟨gb328, _, none⟩) zz158 _).trans (((qv (p := ⟨gb328, _, none⟩) zz158 _).trans (hHeld.2.2.2.2.2.2.2.2.2.1)))))))))), ((qv (p := ⟨gb328, _, none⟩) zz159 _).trans (((qv (p := ⟨gb328, _, none⟩) zz159 _).trans (((qv (p := ⟨gb328, _, none⟩) zz159 _).trans (((qv (p := ⟨gb328, _, none⟩) zz159 _).trans (((qv (p := ⟨gb328, _, none⟩) zz159 _).trans (hHeld.2.2.2.2.2.2.2.2.2.2.1)))))))))), ((qv (p := ⟨gb328, _, none⟩) zz160 _).trans (((qv (p := ⟨gb328, _, none⟩) zz160 _).trans (((qv (p := ⟨gb328, _, none⟩) zz160 _).trans (((qv (p := ⟨gb328, _, none⟩) zz160 _).trans (((qv (p := ⟨gb328, _, none⟩) zz160 _).trans (hHeld.2.2.2.2.2.2.2.2.2.2.2.1)))))))))), ((qv (p := ⟨gb328, _, none⟩) zz161 _).trans (((qv (p := ⟨gb328, _, none⟩) zz161 _).trans (((qv (p := ⟨gb328, _, none⟩) zz161 _).trans (((qv (p := ⟨gb328, _, none⟩) zz161 _).trans (((qv (p := ⟨gb328, _, none⟩) zz161 _).trans (hHeld.2.2.2.2.2.2.2.2.2.2.2.2.1)))))))))), ((qv (p := ⟨gb328, _, none⟩) zz162 _).trans (((qv (p := ⟨gb328, _, none⟩) zz162 _).trans (((qv (p := ⟨gb328, _, none⟩) zz162 _).trans (((qv (p := ⟨gb328, _, none⟩) zz162 _).trans (((qv (p := ⟨gb328, _, none⟩) zz162 _).trans (hHeld.2.2.2.2.2.2.2.2.2.2.2.2.2.1)))))))))), ((qv (p := ⟨gb328, _, none⟩) zz163 _).trans (((qv (p := ⟨gb328, _, none⟩) zz163 _).trans (((qv (p := ⟨gb328, _, none⟩) zz163 _).trans (((qv (p := ⟨gb328, _, none⟩) zz163 _).trans (((qv (p := ⟨gb328, _, none⟩) zz163 _).trans (hHeld.2.2.2.2.2.2.2.2.2.2.2.2.2.2.1)))))))))), ((qv (p := ⟨gb328, _, none⟩) zz164 _).trans (((qv (p := ⟨gb328, _, none⟩) zz164 _).trans (((qv (p := ⟨gb328, _, none⟩) zz164 _).trans (((qv (p := ⟨gb328, _, none⟩) zz164 _).trans (((qv (p := ⟨gb328, _, none⟩) zz164 _).trans (hHeld.2.2.2.2.2.2.2.2.2.2.2.2.2.2.2.1)))))))))), ((qv (p := ⟨gb328, _, none⟩) zz165 _).trans (((qv (p := ⟨gb328, _, none⟩) zz165 _).trans (((qv (p := ⟨gb328, _, none⟩) zz165 _).trans (((qv (p := ⟨gb328, _, none⟩) zz165 _).trans (((qv (p := ⟨gb328, _, none⟩) zz165 _).trans (hHeld.2.2.2.2.2.2.2.2.2.2.2.2.2.2.2.2.1)))))))))), ((qv (p := ⟨gb328, _, none⟩) zz166 _).trans (((qv (p := ⟨gb328, _, none⟩) zz166 _).trans (((qv (p := ⟨gb328, _, none⟩) zz166 _).trans (((qv (p := ⟨gb328, _, none⟩) zz166 _).trans (((qv (p := ⟨gb328, _, none⟩) zz166 _).trans (hHeld.2.2.2.2.2.2.2.2.2.2.2.2.2.2.2.2.2.1)))))))))), ((qv (p := ⟨gb328, _, none⟩) zz167 _).trans (((qv (p := ⟨gb328, _, none⟩) zz167 _).trans (((qv (p := ⟨gb328, _, none⟩) zz167 _).trans (((qv (p := ⟨gb328, _, none⟩) zz167 _).trans (((qv (p := ⟨gb328, _, none⟩) zz167 _).trans (hHeld.2.2.2.2.2.2.2.2.2.2.2.2.2.2.2.2.2.2.1)))))))))), ((qv (p := ⟨gb328, _, none⟩) zz168 _).trans (((qv (p := ⟨gb328, _, none⟩) zz168 _).trans (((qv (p := ⟨gb328, _, none⟩) zz168 _).trans (((qv (p := ⟨gb328, _, none⟩) zz168 _).trans (((qv (p := ⟨gb328, _, none⟩) zz168 _).trans (hHeld.2.2.2.2.2.2.2.2.2.2.2.2.2.2.2.2.2.2.2))))))))))⟩ (fun hHeld => ?_)
      clear hK K
      refine done_ (done_of HT_.out (by kernel_rfl)) ?_
      have p329 : 0 ≤ (x10_1 : Int) := of_decide_eq_true zz12
      have q329 : x10_1 < (l0.length : Int) := of_decide_eq_true zz12
      obtain ⟨ad329, A329_4, c329_4, e329, hx329_0, hx329_1, hx329_2, hx329_3, hx329_4, hl329_4, hi329_4⟩ := at_T41 HR0.out x10_1 p329 q329
      obtain rfl : ad324 = ad329 := (by injection e329)
      have hn329_0 : ad324.block ≠ gb328 := qyc (qxc zz35 GW328.out)
      have hn329_1 : ad324.block ≠ gb328 := qyc (qxc zz35 GW328.out)
      have hn329_2 : ad324.block ≠ gb328 := qyc (qxc zz35 GW328.out)
      have hn329_3 : ad324.block ≠ gb328 := qyc (qxc zz35 GW328.out)
      have hn329_4 : ad324.block ≠ gb328 := qyc (qxc zz35 GW328.out)
      replace hx329_0 := (HB.out.cell (qwc w _ hx329_0)).trans hx329_0
      replace hx329_1 := (HB.out.cell (qwc w _ hx329_1)).trans hx329_1
      replace hx329_2 := (HB.out.cell (qwc w _ hx329_2)).trans hx329_2
      replace hx329_3 := (HB.out.cell (qwc w _ hx329_3)).trans hx329_3
      replace hx329_4 := (HB.out.cell (qwc w _ hx329_4)).trans hx329_4
      have HR329_4 := qa.mk hi329_4
      have HC329_4 := qa.mk hl329_4
      clear hi329_4 hl329_4
      replace hx329_0 := (qv (p := ⟨gb328, 0, none⟩) zz69 (.bool ((qu l0 x10_1).f0))).trans hx329_0
      replace hx329_1 := (qv (p := ⟨gb328, 0, none⟩) zz69 (.bool ((qu l0 x10_1).f0))).trans hx329_1
      replace hx329_2 := (qv (p := ⟨gb328, 0, none⟩) zz69 (.bool ((qu l0 x10_1).f0))).trans hx329_2
      replace hx329_3 := (qv (p := ⟨gb328, 0, none⟩) zz69 (.bool ((qu l0 x10_1).f0))).trans hx329_3
      replace hx329_4 := (qv (p := ⟨gb328, 0, none⟩) zz69 (.bool ((qu l0 x10_1).f0))).trans hx329_4
      replace hx329_0 := (qv (p := ⟨gb328, 1, none⟩) zz70 (.bool ((qu l0 x10_1).f1))).trans hx329_0
      replace hx329_1 := (qv (p := ⟨gb328, 1, none⟩) zz70 (.bool ((qu l0 x10_1).f1))).trans hx329_1
      replace hx329_2 := (qv (p := ⟨gb328, 1, none⟩) zz70 (.bool ((qu l0 x10_1).f1))).trans hx329_2
      replace hx329_3 := (qv (p := ⟨gb328, 1, none⟩) zz70 (.bool ((qu l0 x10_1).f1))).trans hx329_3
      replace hx329_4 := (qv (p := ⟨gb328, 1, none⟩) zz70 (.bool ((qu l0 x10_1).f1))).trans hx329_4
      replace hx329_0 := (qv (p := ⟨gb328, 2, none⟩) zz71 (.string ((qu l0 x10_1).f2))).trans hx329_0
      replace hx329_1 := (qv (p := ⟨gb328, 2, none⟩) zz71 (.string ((qu l0 x10_1).f2))).trans hx329_1
      replace hx329_2 := (qv (p := ⟨gb328, 2, none⟩) zz71 (.string ((qu l0 x10_1).f2))).trans hx329_2
      replace hx329_3 := (qv (p := ⟨gb328, 2, none⟩) zz71 (.string ((qu l0 x10_1).f2))).trans hx329_3
      replace hx329_4 := (qv (p := ⟨gb328, 2, none⟩) zz71 (.string ((qu l0 x10_1).f2))).trans hx329_4
      replace hx329_0 := (qv (p := ⟨gb328, 3, none⟩) zz72 (.string ((qu l0 x10_1).f3))).trans hx329_0
      replace hx329_1 := (qv (p := ⟨gb328, 3, none⟩) zz72 (.string ((qu l0 x10_1).f3))).trans hx329_1
      replace hx329_2 := (qv (p := ⟨gb328, 3, none⟩) zz72 (.string ((qu l0 x10_1).f3))).trans hx329_2
      replace hx329_3 := (qv (p := ⟨gb328, 3, none⟩) zz72 (.string ((qu l0 x10_1).f3))).trans hx329_3
      replace hx329_4 := (qv (p := ⟨gb328, 3, none⟩) zz72 (.string ((qu l0 x10_1).f3))).trans hx329_4
      replace hx329_0 := (qv (p := ⟨gb328, 4, none⟩) zz73 (.slice none 0 0)).trans hx329_0
      replace hx329_1 := (qv (p := ⟨gb328, 4, none⟩) zz73 (.slice none 0 0)).trans hx329_1
      replace hx329_2 := (qv (p := ⟨gb328, 4, none⟩) zz73 (.slice none 0 0)).trans hx329_2
      replace hx329_3 := (qv (p := ⟨gb328, 4, none⟩) zz73 (.slice none 0 0)).trans hx329_3
      replace hx329_4 := (qv (p := ⟨gb328, 4, none⟩) zz73 (.slice none 0 0)).trans hx329_4
      clear hn329_0
      clear hn329_1
      clear hn329_2
      clear hn329_3
      clear hn329_4
      replace p329 := eq_true p329
      replace q329 := eq_true q329
      try go_wp2
      go_loopg [40] k1 (fun kq v40 w' => ∃ (x40_2 : Int) (x329004_2 : List (S61)) (u329004 : Value), v40 = .int .i64 x40_2 ∧ qa (qkb.l1 kq l0 x3_1 x10_1 (l0.length : Int) x10_1 (((qu l0 x10_1).f4).length : Int) x40_2 ((qu l0 x10_1).f0) ((qu l0 x10_1).f1) ((qu l0 x10_1).f2) ((qu l0 x10_1).f3) x329004_2 = some r) ∧ qa (kq ≤ k1) ∧ qa (Kd.S k60 60 w' w.heap.size (fun k_ => some k_ ≠ (u329004 : Value).ownBlock ∧ k_ ≠ gb328) u3 x3_1) ∧ qa (Kd.R k61 61 w' w.heap.size (fun _ => True) u329004 x329004_2) ∧ qa (w'.heap[gb328]? = some (.cells #[.bool ((qu l0 x10_1).f0), .bool ((qu l0 x10_1).f1), .string ((qu l0 x10_1).f2), .string ((qu l0 x10_1).f3), u329004] 60 (0, 0))) ∧ qa (Below w.heap.size w w'))
      case atStart => exact ⟨(0), (([] : List (S61))), (.slice none 0 0), zz7, H', ⟨Nat.le_refl _⟩, ⟨by (with_reducible repeat (first | apply Kd.S_alloc | apply Kd.S_drewN | apply Kd.S_drew)); exact Kd.S_mono (Kd.S_far (p := ⟨gb328, 4, none⟩) (Kd.S_far (p := ⟨gb328, 3, none⟩) (Kd.S_far (p := ⟨gb328, 2, none⟩) (Kd.S_far (p := ⟨gb328, 1, none⟩) (Kd.S_far (p := ⟨gb328, 0, none⟩) (Kd.S_mono HO_3.out (fun k_ hk => (⟨hk, hk.2⟩ : _ ∧ k_ ≠ gb328))) (fun _ hk => hk.2) (.bool ((qu l0 x10_1).f0))) (fun _ hk => hk.2) (.bool ((qu l0 x10_1).f1))) (fun _ hk => hk.2) (.string ((qu l0 x10_1).f2))) (fun _ hk => hk.2) (.string ((qu l0 x10_1).f3))) (fun _ hk => hk.2) (.slice none 0 0)) (fun _ hk => ⟨(by simp [Value.ownBlock]), hk.1.2⟩)⟩, ⟨zz96⟩, ⟨by (with_reducible repeat (first | refine qk ?_ _ | refine ql ?_ | refine qj ?_ _)); refine qq (cs := #[.bool ((qu l0 x10_1).f0), .bool ((qu l0 x10_1).f1), .string ((qu l0 x10_1).f2), .string ((qu l0 x10_1).f3), .slice none 0 0]) ?_ 4 _ rfl; (with_reducible repeat (first | refine qk ?_ _ | refine ql ?_ | refine qj ?_ _)); refine qq (cs := #[.bool ((qu l0 x10_1).f0), .bool ((qu l0 x10_1).f1), .string ((qu l0 x10_1).f2), .string (⟨#[]⟩ : ByteArray), .slice none 0 0]) ?_ 3 _ rfl; (with_reducible repeat (first | refine qk ?_ _ | refine ql ?_ | refine qj ?_ _)); refine qq (cs := #[.bool ((qu l0 x10_1).f0), .bool ((qu l0 x10_1).f1), .string (⟨#[]⟩ : ByteArray), .string (⟨#[]⟩ : ByteArray), .slice none 0 0]) ?_ 2 _ rfl; (with_reducible repeat (first | refine qk ?_ _ | refine ql ?_ | refine qj ?_ _)); refine qq (cs := #[.bool ((qu l0 x10_1).f0), .bool false, .string (⟨#[]⟩ : ByteArray), .string (⟨#[]⟩ : ByteArray), .slice none 0 0]) ?_ 1 _ rfl; (with_reducible repeat (first | refine qk ?_ _ | refine ql ?_ | refine qj ?_ _)); refine qq (cs := #[.bool false, .bool false, .string (⟨#[]⟩ : ByteArray), .string (⟨#[]⟩ : ByteArray), .slice none 0 0]) ?_ 0 _ rfl; (with_reducible repeat (first | refine qk ?_ _ | refine ql ?_ | refine qj ?_ _)); exact BK328.out⟩, ⟨zz87⟩⟩
      case round =>
       clear H'
       try clear c2
       try clear c2b0
       try clear p2
       try clear c3
       try clear c3b0
       try clear p3
       try clear q3
       try clear hx3
       try clear c4
       try clear c4b0
       try clear c7
       try clear hx324_0
       try clear hx324_1
       try clear hx324_2
       try clear hx324_3
       try clear hx324_4
       try clear hx325_0
       try clear hx325_1
       try clear hx325_2
       try clear hx325_3
       try clear hx325_4
       try clear hx326_0
       try clear hx326_1
       try clear hx326_2
       try clear hx326_3
       try clear hx326_4
       try clear hx327_0
       try clear hx327_1
       try clear hx327_2
       try clear hx327_3
       try clear hx327_4
       try clear hx329_0
       try clear hx329_1
       try clear hx329_2
       try clear hx329_3
       try clear hx329_4
       try clear p324
       try clear p325
       try clear p326
       try clear p327
       try clear p329
       try clear q324
       try clear q325
       try clear q326
       try clear q327
       try clear q329
       obtain ⟨x40_2, x329004_2, u329004, rfl, HA, HK2, HO_3, HO_329004, BK328, HB⟩ := hrel
       cases gk with
       | zero => exact absurd HA.out (by simp [qkb.l1])
       | succ k2 =>
        have H := HA.out
        clear HA
        simp only [qkb.l1] at H
        by_cases c12 : x40_2 < (((qu l0 x10_1).f4).length : Int)
        ·rw [if_pos c12] at H
         have c12b0 : decide (x40_2 < (((qu l0 x10_1).f4).length : Int)) = true := decide_eq_true c12
         clear c12
         by_cases c13 : 0 ≤ x10_1
         ·rw [if_pos c13] at H
          have c13b0 : decide (0 ≤ x10_1) = true := decide_eq_true c13
          clear c13
          by_cases c14 : x10_1 < (l0.length : Int)
          ·rw [if_pos c14] at H
           have c14b0 : decide (x10_1 < (l0.length : Int)) = true := decide_eq_true c14
           clear c14
           by_cases c15 : 0 ≤ x40_2
           ·rw [if_pos c15] at H
            have c15b0 : decide (0 ≤ x40_2) = true := decide_eq_true c15
            clear c15
            by_cases c16 : x40_2 < (((qu l0 x10_1).f4).length : Int)
            ·rw [if_pos c16] at H
             have c16b0 : decide (x40_2 < (((qu l0 x10_1).f4).length : Int)) = true := decide_eq_true c16
             clear c16
             by_cases c17 : x329004_2.length < 3518437208883
             ·rw [if_pos c17] at H
              have LMc17 := qa.mk c17
              clear c17
              obtain ⟨y333, hy333⟩ : ∃ y_ : List (S61), y_ = (x329004_2 ++ [(⟨(rd_T33 ((qu l0 x10_1).f4) x40_2).f0, (rd_T33 ((qu l0 x10_1).f4) x40_2).f1, (rd_T33 ((qu l0 x10_1).f4) x40_2).f2⟩ : S61)]) := ⟨_, rfl⟩
              replace H : (qkb.l1 k2 l0 x3_1 x10_1 (l0.length : Int) x10_1 (((qu l0 x10_1).f4).length : Int) (wrap64 (x40_2 + 1)) ((qu l0 x10_1).f0) ((qu l0 x10_1).f1) ((qu l0 x10_1).f2) ((qu l0 x10_1).f3) y333) = some r := by first | (rw [hy333]; with_reducible exact H) | (have H2_ := (Option.bind_some _ _).symm.trans H; rw [hy333]; with_reducible exact H2_) | (have H2_ := (Option.bind_some _ _).symm.trans H; with_reducible exact H2_) | with_reducible exact H | (rw [hy333]; exact H) | exact H
              have Ny333 := qa.mk hy333
              clear hy333
              have H' := qa.mk H
              clear H
              have p330 : 0 ≤ (x10_1 : Int) := of_decide_eq_true zz12
              have q330 : x10_1 < (l0.length : Int) := of_decide_eq_true zz12
              obtain ⟨ad330, A330_4, c330_4, e330, hx330_0, hx330_1, hx330_2, hx330_3, hx330_4, hl330_4, hi330_4⟩ := at_T41 HR0.out x10_1 p330 q330
              obtain rfl : ad324 = ad330 := (by injection e330)
              replace hx330_0 := (HB.out.cell (qwc w _ hx330_0)).trans hx330_0
              replace hx330_1 := (HB.out.cell (qwc w _ hx330_1)).trans hx330_1
              replace hx330_2 := (HB.out.cell (qwc w _ hx330_2)).trans hx330_2
              replace hx330_3 := (HB.out.cell (qwc w _ hx330_3)).trans hx330_3
              replace hx330_4 := (HB.out.cell (qwc w _ hx330_4)).trans hx330_4
              have HR330_4 := qa.mk hi330_4
              have HC330_4 := qa.mk hl330_4
              clear hi330_4 hl330_4
              replace p330 := eq_true p330
              replace q330 := eq_true q330
              have p331 : 0 ≤ (x40_2 : Int) := of_decide_eq_true zz12
              have q331 : x40_2 < (((qu l0 x10_1).f4).length : Int) := of_decide_eq_true zz12
              obtain ⟨ad331, e331, hx331_0, hx331_1, hx331_2⟩ := at_T33 HR330_4.out x40_2 p331 q331
              cases e331
              replace hx331_0 := (HB.out.cell (qwc w _ hx331_0)).trans hx331_0
              replace hx331_1 := (HB.out.cell (qwc w _ hx331_1)).trans hx331_1
              replace hx331_2 := (HB.out.cell (qwc w _ hx331_2)).trans hx331_2
              replace p331 := eq_true p331
              replace q331 := eq_true q331
              go_wp2_with (first | ((with_reducible refine qeb (N := 7) rfl ?_); refine qjb ?hg (N := 7) ?hd (cs := #[.string (⟨#[]⟩ : ByteArray), .string (⟨#[]⟩ : ByteArray), .bool false]) (t := 33) ?hr ?_; (case hd => rfl); (case hg => rfl); (case hr => exact zz6); intro gb332 hg w18 hbox hb; have n0_ := qa.mk (Kd.S_below zz59 hb); have n1_ := qa.mk (Kd.R_below (by (with_reducible repeat (first | apply Kd.R_alloc | apply Kd.R_drewN | apply Kd.R_drew)); exact HO_329004.out) hb); have n2_ := qa.mk (qmb (g := gb328) (o := .cells #[.bool ((qu l0 x10_1).f0), .bool ((qu l0 x10_1).f1), .string ((qu l0 x10_1).f2), .string ((qu l0 x10_1).f3), u329004] 60 (0, 0)) zz50 hb); have n3_ := qa.mk (qp zz87 hb); have n4_ := qa.mk (hbox); have n5_ := qa.mk ((by rw [hg]; exact (qo zz87) : w.heap.size ≤ gb332)); have n6_ := qa.mk ((by rw [hg]; exact (qo zz87) : w.heap.size ≤ gb332)); have n7_ := qa.mk ((by rw [hg]; exact qyc (qbc (g := gb328) (o := .cells #[.bool ((qu l0 x10_1).f0), .bool ((qu l0 x10_1).f1), .string ((qu l0 x10_1).f2), .string ((qu l0 x10_1).f3), u329004] 60 (0, 0)) zz50) : gb328 ≠ gb332)); have n8_ := qa.mk ((by rw [hg]; exact Nat.ne_of_gt (qbc (g := gb328) (o := .cells #[.bool ((qu l0 x10_1).f0), .bool ((qu l0 x10_1).f1), .string ((qu l0 x10_1).f2), .string ((qu l0 x10_1).f3), u329004] 60 (0, 0)) zz50) : gb332 ≠ gb328)); clear HO_3; clear HO_329004; clear BK328; clear HB; have HO_3 := n0_; have HO_329004 := n1_; have BK328 := n2_; have HB := n3_; have BK332 := n4_; have GW332 := n5_; have GE332 := n6_; have NB328_332 := n7_; have NB332_328 := n8_; clear n0_ n1_ n2_ n3_ n4_ n5_ n6_ n7_ n8_; clear hb hbox hg; have hnb19 := NB332_328.out; have hnc19 := NB328_332.out; have hcz20_0 : w18.cell? ⟨gb332, 0, none⟩ = some (.string (⟨#[]⟩ : ByteArray)) := (qh BK332.out 0).trans rfl; have hcz20_1 : w18.cell? ⟨gb332, 1, none⟩ = some (.string (⟨#[]⟩ : ByteArray)) := (qh BK332.out 1).trans rfl; have hcz20_2 : w18.cell? ⟨gb332, 2, none⟩ = some (.bool false) := (qh BK332.out 2).trans rfl; have hfz20_0 := qf BK332.out 0; have hfz20_1 := qf BK332.out 1; have hfz20_2 := qf BK332.out 2; have hcz21_0 : w18.cell? ⟨gb328, 0, none⟩ = some (.bool ((qu l0 x10_1).f0)) := (qh BK328.out 0).trans rfl; have hcz21_1 : w18.cell? ⟨gb328, 1, none⟩ = some (.bool ((qu l0 x10_1).f1)) := (qh BK328.out 1).trans rfl; have hcz21_2 : w18.cell? ⟨gb328, 2, none⟩ = some (.string ((qu l0 x10_1).f2)) := (qh BK328.out 2).trans rfl; have hcz21_3 : w18.cell? ⟨gb328, 3, none⟩ = some (.string ((qu l0 x10_1).f3)) := (qh BK328.out 3).trans rfl; have hcz21_4 : w18.cell? ⟨gb328, 4, none⟩ = some (u329004) := (qh BK328.out 4).trans rfl; have hfz21_0 := qf BK328.out 0; have hfz21_1 := qf BK328.out 1; have hfz21_2 := qf BK328.out 2; have hfz21_3 := qf BK328.out 3; have hfz21_4 := qf BK328.out 4) | ((with_reducible refine gate_builtin (b := .append) (xs := #[.tmp 52, .tmp 60]) rfl ?_); at_builtin; refine Kd.R_append k61 (w0 := w) w.heap.size rfl (.tmp 52) (.tmp 60) 58 61 (.agg #[(.string ⟨#[]⟩), (.string ⟨#[]⟩), (.bool false)]) 40 rfl Tryd.underlying58 info61 rfl (by decide) (by omega) u329004 x329004_2 (⟨(rd_T33 ((qu l0 x10_1).f4) x40_2).f0, (rd_T33 ((qu l0 x10_1).f4) x40_2).f1, (rd_T33 ((qu l0 x10_1).f4) x40_2).f2⟩ : S61) [.string ((rd_T33 ((qu l0 x10_1).f4) x40_2).f0), .string ((rd_T33 ((qu l0 x10_1).f4) x40_2).f1), .bool ((rd_T33 ((qu l0 x10_1).f4) x40_2).f2)] (fun _ => True) (fun _ => False) rfl zz6 ?aP (fun _ hk => hk.elim) ?aF ?aO ?aB ?aS ?aL ?_; (case aP => exact k61_mkM _ _ _ (⟨(rd_T33 ((qu l0 x10_1).f4) x40_2).f0, (rd_T33 ((qu l0 x10_1).f4) x40_2).f1, (rd_T33 ((qu l0 x10_1).f4) x40_2).f2⟩ : S61)); (case aB => exact zz108); (case aF => exact (fun _ _ => trivial)); (case aO => exact (by (with_reducible repeat (first | apply Kd.R_alloc | apply Kd.R_drewN | apply Kd.R_drew)); exact Kd.R_mono (Kd.R_far (p := ⟨gb332, 2, none⟩) (Kd.R_far (p := ⟨gb332, 1, none⟩) (Kd.R_far (p := ⟨gb332, 0, none⟩) (Kd.R_types HO_329004.out BK332.out (by decide)) (fun _ hk => hk.2) (.string ((rd_T33 ((qu l0 x10_1).f4) x40_2).f0))) (fun _ hk => hk.2) (.string ((rd_T33 ((qu l0 x10_1).f4) x40_2).f1))) (fun _ hk => hk.2) (.bool ((rd_T33 ((qu l0 x10_1).f4) x40_2).f2))) (fun _ hk => trivial))); (case aS => exact (qo zz108)); (case aL => have := LMc17.out; omega); intro v334 w22 ho hb hg hat; rw [← Ny333.out] at ho; have n0_ := qa.mk (Kd.S_after (ok := (fun k_ => k_ ≠ gb328)) (by (with_reducible repeat (first | apply Kd.S_alloc | apply Kd.S_drewN | apply Kd.S_drew)); exact Kd.S_mono (Kd.S_far (p := ⟨gb332, 2, none⟩) (Kd.S_far (p := ⟨gb332, 1, none⟩) (Kd.S_far (p := ⟨gb332, 0, none⟩) (Kd.S_types HO_3.out BK332.out (by decide)) (fun _ hk => hk.2) (.string ((rd_T33 ((qu l0 x10_1).f4) x40_2).f0))) (fun _ hk => hk.2) (.string ((rd_T33 ((qu l0 x10_1).f4) x40_2).f1))) (fun _ hk => hk.2) (.bool ((rd_T33 ((qu l0 x10_1).f4) x40_2).f2))) (fun _ hk => ⟨hk.1.2, hk.1.1⟩)) hg hat); have n1_ := qa.mk (blk_grown (g := gb328) (o := .cells #[.bool ((qu l0 x10_1).f0), .bool ((qu l0 x10_1).f1), .string ((qu l0 x10_1).f2), .string ((qu l0 x10_1).f3), u329004] 60 (0, 0)) (by (with_reducible repeat (first | refine qk ?_ _ | refine ql ?_ | refine qj ?_ _)); refine qpb ?_ NB328_332.out _; (with_reducible repeat (first | refine qk ?_ _ | refine ql ?_ | refine qj ?_ _)); refine qpb ?_ NB328_332.out _; (with_reducible repeat (first | refine qk ?_ _ | refine ql ?_ | refine qj ?_ _)); refine qpb ?_ NB328_332.out _; (with_reducible repeat (first | refine qk ?_ _ | refine ql ?_ | refine qj ?_ _)); exact BK328.out) hg (Kd.R_ne HO_329004.out BK328.out (by decide))); have n2_ := qa.mk (blk_grown (g := gb332) (o := .cells #[.string ((rd_T33 ((qu l0 x10_1).f4) x40_2).f0), .string ((rd_T33 ((qu l0 x10_1).f4) x40_2).f1), .bool ((rd_T33 ((qu l0 x10_1).f4) x40_2).f2)] 33 (0, 0)) (by (with_reducible repeat (first | refine qk ?_ _ | refine ql ?_ | refine qj ?_ _)); refine qq (cs := #[.string ((rd_T33 ((qu l0 x10_1).f4) x40_2).f0), .string ((rd_T33 ((qu l0 x10_1).f4) x40_2).f1), .bool false]) ?_ 2 _ rfl; (with_reducible repeat (first | refine qk ?_ _ | refine ql ?_ | refine qj ?_ _)); refine qq (cs := #[.string ((rd_T33 ((qu l0 x10_1).f4) x40_2).f0), .string (⟨#[]⟩ : ByteArray), .bool false]) ?_ 1 _ rfl; (with_reducible repeat (first | refine qk ?_ _ | refine ql ?_ | refine qj ?_ _)); refine qq (cs := #[.string (⟨#[]⟩ : ByteArray), .string (⟨#[]⟩ : ByteArray), .bool false]) ?_ 0 _ rfl; (with_reducible repeat (first | refine qk ?_ _ | refine ql ?_ | refine qj ?_ _)); exact BK332.out) hg (Kd.R_ne HO_329004.out BK332.out (by decide))); have n3_ := qa.mk (hb); have n4_ := qa.mk (ho); clear HO_3; clear BK328; clear BK332; clear HB; clear HO_329004; have HO_3 := n0_; have BK328 := n1_; have BK332 := n2_; have HB := n3_; have HO335 := n4_; clear n0_ n1_ n2_ n3_ n4_; clear ho hb hg hat; obtain ⟨Ao23, co23, eo23⟩ := Kd.R_slice HO335.out; subst eo23; have hcz24_0 : w22.cell? ⟨gb328, 0, none⟩ = some (.bool ((qu l0 x10_1).f0)) := (qh BK328.out 0).trans rfl; have hcz24_1 : w22.cell? ⟨gb328, 1, none⟩ = some (.bool ((qu l0 x10_1).f1)) := (qh BK328.out 1).trans rfl; have hcz24_2 : w22.cell? ⟨gb328, 2, none⟩ = some (.string ((qu l0 x10_1).f2)) := (qh BK328.out 2).trans rfl; have hcz24_3 : w22.cell? ⟨gb328, 3, none⟩ = some (.string ((qu l0 x10_1).f3)) := (qh BK328.out 3).trans rfl; have hcz24_4 : w22.cell? ⟨gb328, 4, none⟩ = some (u329004) := (qh BK328.out 4).trans rfl; have hfz24_0 := qf BK328.out 0; have hfz24_1 := qf BK328.out 1; have hfz24_2 := qf BK328.out 2; have hfz24_3 := qf BK328.out 3; have hfz24_4 := qf BK328.out 4))
              go_roundg k2
              case measure => have := HK1.out; have := HK2.out; omega
              case rel => exact ⟨(wrap64 (x40_2 + 1)), (y333), (.slice Ao23 y333.length co23), zz7, H', ⟨zz4⟩, ⟨by (with_reducible repeat (first | apply Kd.S_alloc | apply Kd.S_drewN | apply Kd.S_drew)); exact Kd.S_mono (Kd.S_far (p := ⟨gb328, 4, none⟩) (Kd.S_mono HO_3.out (fun k_ hk => (⟨hk, hk.1⟩ : _ ∧ k_ ≠ gb328))) (fun _ hk => hk.2) (.slice Ao23 y333.length co23)) (fun _ hk => ⟨hk.1.2, hk.1.1⟩)⟩, ⟨by (with_reducible repeat (first | apply Kd.R_alloc | apply Kd.R_drewN | apply Kd.R_drew)); exact Kd.R_mono (Kd.R_far (p := ⟨gb328, 4, none⟩) (Kd.R_types HO335.out BK328.out (by decide)) (fun _ hk => hk.2) (.slice Ao23 y333.length co23)) (fun _ hk => trivial)⟩, ⟨by (with_reducible repeat (first | refine qk ?_ _ | refine ql ?_ | refine qj ?_ _)); refine qq (cs := #[.bool ((qu l0 x10_1).f0), .bool ((qu l0 x10_1).f1), .string ((qu l0 x10_1).f2), .string ((qu l0 x10_1).f3), u329004]) ?_ 4 _ rfl; (with_reducible repeat (first | refine qk ?_ _ | refine ql ?_ | refine qj ?_ _)); exact BK328.out⟩, ⟨zz108⟩⟩
             ·rw [if_neg c17] at H
              exact absurd H (by simp)
            ·rw [if_neg c16] at H
             exact absurd H (by simp)
           ·rw [if_neg c15] at H
            exact absurd H (by simp)
          ·rw [if_neg c14] at H
           exact absurd H (by simp)
         ·rw [if_neg c13] at H
          exact absurd H (by simp)
        ·rw [if_neg c12] at H
         have c12b0 : decide (x40_2 < (((qu l0 x10_1).f4).length : Int)) = false := decide_eq_false c12
         clear c12
         by_cases c25 : x3_1.length < 2199023255552
         ·rw [if_pos c25] at H
          have LMc25 := qa.mk c25
          clear c25
          obtain ⟨y336, hy336⟩ : ∃ y_ : List (S60), y_ = (x3_1 ++ [(⟨((qu l0 x10_1).f0), ((qu l0 x10_1).f1), ((qu l0 x10_1).f2), ((qu l0 x10_1).f3), x329004_2⟩ : S60)]) := ⟨_, rfl⟩
          replace H : (qkb.l0 k2 l0 y336 (l0.length : Int) (wrap64 (x10_1 + 1))) = some r := by first | (rw [hy336]; with_reducible exact H) | (have H2_ := (Option.bind_some _ _).symm.trans H; rw [hy336]; with_reducible exact H2_) | (have H2_ := (Option.bind_some _ _).symm.trans H; with_reducible exact H2_) | with_reducible exact H | (rw [hy336]; exact H) | exact H
          have Ny336 := qa.mk hy336
          clear hy336
          have H' := qa.mk H
          clear H
          have hcz26_0 : wr.cell? ⟨gb328, 0, none⟩ = some (.bool ((qu l0 x10_1).f0)) := (qh BK328.out 0).trans rfl
          have hcz26_1 : wr.cell? ⟨gb328, 1, none⟩ = some (.bool ((qu l0 x10_1).f1)) := (qh BK328.out 1).trans rfl
          have hcz26_2 : wr.cell? ⟨gb328, 2, none⟩ = some (.string ((qu l0 x10_1).f2)) := (qh BK328.out 2).trans rfl
          have hcz26_3 : wr.cell? ⟨gb328, 3, none⟩ = some (.string ((qu l0 x10_1).f3)) := (qh BK328.out 3).trans rfl
          have hcz26_4 : wr.cell? ⟨gb328, 4, none⟩ = some (u329004) := (qh BK328.out 4).trans rfl
          have hfz26_0 := qf BK328.out 0
          have hfz26_1 := qf BK328.out 1
          have hfz26_2 := qf BK328.out 2
          have hfz26_3 := qf BK328.out 3
          have hfz26_4 := qf BK328.out 4
          obtain ⟨Ao28, co28, eo28⟩ := Kd.R_slice HO_329004.out
          subst eo28
          go_wp2_with (first | ((with_reducible refine gate_builtin (b := .append) (xs := #[.tmp 64, .tmp 66]) rfl ?_); at_builtin; refine Kd.S_append k60 (w0 := w) w.heap.size rfl (.tmp 64) (.tmp 66) 27 60 (.agg #[(.bool false), (.bool false), (.string ⟨#[]⟩), (.string ⟨#[]⟩), (.slice none 0 0)]) 64 rfl Tryd.underlying27 info60 rfl (by decide) (by omega) u3 x3_1 (⟨((qu l0 x10_1).f0), ((qu l0 x10_1).f1), ((qu l0 x10_1).f2), ((qu l0 x10_1).f3), x329004_2⟩ : S60) [.bool ((qu l0 x10_1).f0), .bool ((qu l0 x10_1).f1), .string ((qu l0 x10_1).f2), .string ((qu l0 x10_1).f3), .slice Ao28 x329004_2.length co28] (fun k_ => k_ ≠ gb328) (fun k_ => some k_ = (.slice Ao28 x329004_2.length co28 : Value).ownBlock) rfl rfl ?aP (fun k_ hk_ => ((Kd.R_mono (ok' := fun k_ => ((fun k_ => k_ ≠ gb328)) k_ ∧ some k_ ≠ (u3 : Value).ownBlock) (Kd.R_types (Kd.R_apart' (HO_329004.out) (Kd.S_typed HO_3.out) (by decide)) BK328.out (by decide)) (fun k_ hk => ⟨hk.2, hk.1.2⟩))).1 k_ hk_.symm) ?aF ?aO ?aB ?aS ?aL ?_; (case aP => exact k60_mkM _ _ _ (⟨((qu l0 x10_1).f0), ((qu l0 x10_1).f1), ((qu l0 x10_1).f2), ((qu l0 x10_1).f3), x329004_2⟩ : S60) (Kd.R_mono (Kd.R_tight rfl (Kd.R_mono (ok' := fun k_ => ((fun k_ => k_ ≠ gb328)) k_ ∧ some k_ ≠ (u3 : Value).ownBlock) (Kd.R_types (Kd.R_apart' (HO_329004.out) (Kd.S_typed HO_3.out) (by decide)) BK328.out (by decide)) (fun k_ hk => ⟨hk.2, hk.1.2⟩))) (fun _ h_ => h_))); (case aB => exact zz87); (case aF => exact (fun k_ hk => Kd.freshB (g := gb328) (o := .cells #[.bool ((qu l0 x10_1).f0), .bool ((qu l0 x10_1).f1), .string ((qu l0 x10_1).f2), .string ((qu l0 x10_1).f3), .slice Ao28 x329004_2.length co28] 60 (0, 0)) zz50 k_ hk)); (case aO => exact (by (with_reducible repeat (first | apply Kd.S_alloc | apply Kd.S_drewN | apply Kd.S_drew)); exact Kd.S_mono HO_3.out (fun k_ hk => ⟨hk.2, fun e_ => hk.1 e_⟩))); (case aS => exact (qo zz87)); (case aL => have := LMc25.out; omega); intro v337 w27 ho hb hg hat; rw [← Ny336.out] at ho; have n0_ := qa.mk (blk_grown (g := gb328) (o := .cells #[.bool ((qu l0 x10_1).f0), .bool ((qu l0 x10_1).f1), .string ((qu l0 x10_1).f2), .string ((qu l0 x10_1).f3), .slice Ao28 x329004_2.length co28] 60 (0, 0)) zz50 hg (Kd.S_away HO_3.out (fun _ hk => hk.2))); have n1_ := qa.mk (hb); have n2_ := qa.mk (ho); clear BK328; clear HB; clear HO_3; clear HO_329004; have BK328 := n0_; have HB := n1_; have HO338 := n2_; clear n0_ n1_ n2_; clear ho hb hg hat))
          go_roundg k2
          case measure => have := HK1.out; have := HK2.out; omega
          case rel => exact ⟨(y336), (wrap64 (x10_1 + 1)), zz7, H', ⟨zz4⟩, ⟨by (with_reducible repeat (first | apply Kd.S_alloc | apply Kd.S_drewN | apply Kd.S_drew)); exact Kd.S_mono HO338.out (fun _ hk => trivial)⟩, ⟨zz87⟩⟩
         ·rw [if_neg c25] at H
          exact absurd H (by simp)
     ·rw [if_neg c4] at H
      exact absurd H (by simp)
    ·rw [if_neg c3] at H
     exact absurd H (by simp)
   ·rw [if_neg c2] at H
    have c2b0 : decide (x10_1 < (l0.length : Int)) = false := decide_eq_false c2
    clear c2
    obtain rfl := Option.some.inj H
    go_wp2
    go_ret
    exact ⟨_, zz103, zz59, zz53⟩
end Go.Proofs.YtjbobecnlpiejaaDoor.Q
