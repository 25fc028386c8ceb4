import Derived.Test.YtjbobecnlpiejaaGreatDoorSF0
import Derived.Test.YtjbobecnlpiejaaGreatDoorProg
import Derived.Below
import Derived.Deep.Draws
import Derived.Deep.AppendLies
import Derived.Maps.AppendAt
import Derived.OwnWalk
import Derived.Laws.BytesArg
import Derived.Laws.MakeOwn
import Derived.Laws.OwnMore
import Derived.Deep.OwnRows
import Derived.Tactics
import Derived.Lib.ConvBytes
import Derived.Laws.Slices
import Derived.WalkKit
import Derived.KernelRfl
import Derived.RowKit3
import Derived.Deep.LoopGhost
import Derived.Deep.QuietTactic
import Derived.BigQuiet
import Derived.WideLaws
import Derived.Deep.DeepCutAuto
import Derived.Deep.CutBlock
import Derived.Deep.RegionHeld3
import Derived.Laws.Rows
import Derived.Lib.AppendStr
import Derived.ArgAppend
import Derived.Laws.IdiomCopy
import Derived.OrdersHeld
import Derived.Laws.BitsLemmas
import Derived.RowKit
import Derived.Lib.LaidTab
import Derived.WalkSmall
import Derived.Lib.Hide
import Derived.Laws.Cover1
import Derived.WalkSpells
import Derived.Lib.AppendIntMem
import Derived.Lib.IndexAny
import Derived.Lib.IndexLaws
import Derived.Lib.DecodeN
import Derived.Lib.OthersKept
import Derived.Deep.RegionLaw
import Derived.Shelf.Strings.Builder1
import Derived.Shelf.Small.Strs
import Derived.Shelf.Small.Wraps
import Derived.Shelf.Strings.BuilderF
import Derived.Shelf.Strings.BuilderK
import Derived.Shelf.Strconv.Atoi
import Derived.Shelf.Strconv.Itoa0
import Derived.Shelf.Strconv.Itoa1
import Derived.Shelf.LaysM
import Derived.Shelf.Strconv.Itoa2
import Derived.Shelf.Strconv.Itoa3
import Derived.Shelf.Strconv.AtoiErrFast
import Derived.Shelf.Strconv.ParseIntEmpty
import Derived.Shelf.Strconv.AtoiFail
import Derived.Shelf.Strconv.Clone
import Derived.Shelf.Strconv.SyntaxError
import Derived.Shelf.LaysC
import Derived.Shelf.Strconv.ToError
import Derived.Shelf.Strconv.Lower
import Derived.Shelf.Strconv.ParseUint10
import Derived.Shelf.Strconv.ParseUint10Empty
import Derived.Shelf.Strconv.ParseUint10Any
import Derived.Shelf.Strconv.ParseInt10
import Derived.Shelf.Strconv.AtoiLong
import Derived.Shelf.Strconv.AtoiInnerAll
import Derived.Shelf.Strconv.RangeError
import Derived.Shelf.Strconv.ToErrorRange
import Derived.Shelf.Strconv.AtoiAll
import Derived.Shelf.Strconv.ErrVarAll
import Derived.Shelf.Strings.Search1
import Derived.Shelf.Strings.Prefix
import Derived.Ground.SlgnProg
import Derived.Shelf.SlicesE.Clone
import Derived.ProofKit
import Derived.OpenShut
import Derived.ChangeOld
import Derived.SizedLaws
import Derived.Carry
import Derived.LaidMore
import Derived.Stop.LaidErr
import Derived.Deep.Slices
import Derived.MakeChecks
import Derived.Test.YtjbobecnlpiejaaGreatDoorRows
import Derived.ShutString
set_option linter.unusedVariables false
set_option linter.unusedSimpArgs false
namespace Go.Proofs.YtjbobecnlpiejaaGreatDoorZ
open Go.RowKit
open Go.Proofs.YtjbobecnlpiejaaGreatDoorW.PrintWords
theorem cx {w w1 : World} (h : qa (Below w.heap.size w w1)) {a : Addr} {v : Value} (k : w.cell? a = some v) : w1.cell? a = some v := (h.out.cell (World.block_lt_of_cell? w _ k)).trans k
theorem ce {w : World} {g : Nat} {t : TypeId} {cs : Array Value} (h : qa (w.heap[g]? = some (.cells cs t (0, 0)))) (i : Nat) (v : Value) (e : cs[i]? = some v := by rfl) : w.cell? ⟨g, i, none⟩ = some v := (qz h.out i).trans e
theorem zz0 {p : Prop} (h : p := by injection e446) : p := h
theorem zz1 {p : Prop} (h : p := by dsimp only; omega) : p := h
theorem zz2 {p : Prop} (h : p := by have := HK1.out; omega) : p := h
theorem zz3 {p : Prop} (h : p := by rw [← size_list]; omega) : p := h
theorem zz4 {p : Prop} (h : p := by first | omega | exact Nat.le_refl _) : p := h
theorem zz5 {p : Prop} (h : p := by have := HJ2.out; have := HK2.out; omega) : p := h
theorem zz6 {p : Prop} (h : p := by have := HK1.out; have := HK2.out; omega) : p := h
theorem zz7 {p : Prop} (h : p := by first | (go_simp; done) | (go_simp; rfl)) : p := h
theorem zz8 {p : Prop} (h : p := by first | rfl | (simp; done) | (simp [*]; done)) : p := h
theorem zz9 {p : Prop} (h : p := by rw [← qcd _ _ 1 (by omega)]; exact hc 1 _ rfl) : p := h
theorem zz10 {p : Prop} (h : p := by rw [← qcd _ _ 2 (by omega)]; exact hc 2 _ rfl) : p := h
theorem zz11 {p : Prop} (h : p := by rw [← qcd _ _ 3 (by omega)]; exact hc 3 _ rfl) : p := h
theorem zz12 {p : Prop} (h : p := by rw [← qcd _ _ 4 (by omega)]; exact hc 4 _ rfl) : p := h
theorem zz13 {p : Prop} (h : p := by first | (with_reducible assumption) | assumption) : p := h
theorem zz14 {p : Prop} (h : p := by have := HK1.out; first | omega | exact Nat.le_refl _) : p := h
theorem zz15 {p : Prop} (h : p := by repeat (first | exact Drawn0.refl _ | apply Drawn0.step)) : p := h
theorem zz16 {p : Prop} (h : p := by have := HK1.out; have := HK2.out; have := HJ12.out; omega) : p := h
theorem zz17 {p : Prop} (h : p := by rintro w' ⟨s0, s1, s2, s3, s4⟩; go_simp; with_reducible rfl) : p := h
theorem zz18 {p : Prop} (h : p := by have := qhd _ _ hw332_0; first | rwa [qn] at this | exact this) : p := h
theorem zz19 {p : Prop} (h : p := by have := qhd _ _ hw332_1; first | rwa [qn] at this | exact this) : p := h
theorem zz20 {p : Prop} (h : p := by have := qhd _ _ hw332_2; first | rwa [qn] at this | exact this) : p := h
theorem zz21 {p : Prop} (h : p := by have := qhd _ _ hw332_3; first | rwa [qn] at this | exact this) : p := h
theorem zz22 {p : Prop} (h : p := by have := qhd _ _ hw332_4; first | rwa [qn] at this | exact this) : p := h
theorem zz23 {p : Prop} (h : p := by have := qhd _ _ hx337_0; first | rwa [qn] at this | exact this) : p := h
theorem zz24 {p : Prop} (h : p := by rintro w' ⟨s0, s1, s2, s3, s4, s5⟩; go_simp; with_reducible rfl) : p := h
theorem zz25 {p : Prop} (h : p := by repeat (first | exact HB5.out | apply Below.drew | apply below_drewN)) : p := h
theorem zz26 {p : Prop} (h : p := by have := HJ1.out; have := HK2.out; first | omega | exact Nat.le_refl _) : p := h
theorem zz27 {p : Prop} (h : p := by repeat (first | exact Below.refl _ _ | apply qb | apply qd | apply qc)) : p := h
theorem zz28 {p : Prop} (h : p := by have := HJ1.out; have := HK2.out; have := HJ9.out; have := HK4.out; omega) : p := h
theorem zz29 {p : Prop} (h : p := by rintro w' ⟨s0, s1, s2, s3, s4, s5, s6, s7, s8, s9, s10, s11⟩; go_simp; with_reducible rfl) : p := h
theorem zz30 {p : Prop} (h : p := by exact (HX _ zz27).out) : p := h
theorem zz31 {p : Prop} (h : p := by first | rfl | (simp; done) | (simp only [← hji24] <;> (first | rfl | simp)) | (simp [*]; done)) : p := h
theorem zz32 {p : Prop} (h : p := by repeat (first | (with_reducible first | exact HB.out | apply qc | apply qb | apply qd) | exact HB.out)) : p := h
theorem zz33 {p : Prop} (h : p := by (with_reducible repeat (first | apply Kd.V_alloc | apply Kd.V_drewN | apply Kd.V_drew)); exact HO0.out) : p := h
theorem zz34 {p : Prop} (h : p := by (with_reducible repeat (first | apply Kd.V_alloc | apply Kd.V_drewN | apply Kd.V_drew)); exact HO_0.out) : p := h
theorem zz35 {p : Prop} (h : p := by (with_reducible repeat (first | apply Kd.R_alloc | apply Kd.R_drewN | apply Kd.R_drew)); exact HO_5.out) : p := h
theorem zz36 {p : Prop} (h : p := by (with_reducible repeat (first | apply Kd.R_alloc | apply Kd.R_drewN | apply Kd.R_drew)); exact HO_7.out) : p := h
theorem zz37 {p : Prop} (h : p := by (with_reducible repeat (first | apply Kd.N_alloc | apply Kd.N_drewN | apply Kd.N_drew)); exact HO_5.out) : p := h
theorem zz38 {p : Prop} (h : p := by (with_reducible repeat (first | apply Kd.S_alloc | apply Kd.S_drewN | apply Kd.S_drew)); exact HO_7.out) : p := h
theorem zz39 {p : Prop} (h : p := by (with_reducible repeat (first | apply Kd.R_alloc | apply Kd.R_drewN | apply Kd.R_drew)); exact HO_6.out) : p := h
theorem zz40 {p : Prop} (h : p := by (with_reducible repeat (first | apply Kd.R_alloc | apply Kd.R_drewN | apply Kd.R_drew)); exact HO_8.out) : p := h
theorem zz41 {p : Prop} (h : p := by (with_reducible repeat (first | apply Kd.S_alloc | apply Kd.S_drewN | apply Kd.S_drew)); exact HO_3.out) : p := h
theorem zz42 {p : Prop} (h : p := by (with_reducible repeat (first | apply Kd.R_alloc | apply Kd.R_drewN | apply Kd.R_drew)); exact HO_3.out) : p := h
theorem zz43 {p : Prop} (h : p := by (with_reducible repeat (first | apply Kd.S_alloc | apply Kd.S_drewN | apply Kd.S_drew)); exact HO_19.out) : p := h
theorem zz44 {p : Prop} (h : p := by (with_reducible repeat (first | apply Kd.N_alloc | apply Kd.N_drewN | apply Kd.N_drew)); exact HO309.out) : p := h
theorem zz45 {p : Prop} (h : p := by (with_reducible repeat (first | apply Kd.N_alloc | apply Kd.N_drewN | apply Kd.N_drew)); exact HO316.out) : p := h
theorem zz46 {p : Prop} (h : p := by (with_reducible repeat (first | apply Kd.R_alloc | apply Kd.R_drewN | apply Kd.R_drew)); exact HO321.out) : p := h
theorem zz47 {p : Prop} (h : p := by (with_reducible repeat (first | apply Kd.S_alloc | apply Kd.S_drewN | apply Kd.S_drew)); exact HO487.out) : p := h
theorem zz48 {p : Prop} (h : p := by (with_reducible repeat (first | apply Kd.R_alloc | apply Kd.R_drewN | apply Kd.R_drew)); exact HO490.out) : p := h
theorem zz49 {p : Prop} (h : p := by (with_reducible repeat (first | apply Kd.R_alloc | apply Kd.R_drewN | apply Kd.R_drew)); exact HO497.out) : p := h
theorem zz50 {p : Prop} (h : p := by (with_reducible repeat (first | apply Kd.V_alloc | apply Kd.V_drewN | apply Kd.V_drew)); exact HO_10.out) : p := h
theorem zz51 {p : Prop} (h : p := by (with_reducible repeat (first | apply Kd.R_alloc | apply Kd.R_drewN | apply Kd.R_drew)); exact HO218.out) : p := h
theorem zz52 {p : Prop} (h : p := by first | (rw [qn]; exact hn337_0) | (show (Addr.add _ _).block ≠ _; rw [qn]; exact hn337_0) | exact hn337_0) : p := h
theorem zz53 {p : Prop} (h : p := by first | (rw [qn]; exact hn337_1) | (show (Addr.add _ _).block ≠ _; rw [qn]; exact hn337_1) | exact hn337_1) : p := h
theorem zz54 {p : Prop} (h : p := by first | (rw [qn]; exact hn337_2) | (show (Addr.add _ _).block ≠ _; rw [qn]; exact hn337_2) | exact hn337_2) : p := h
theorem zz55 {p : Prop} (h : p := by first | (rw [qn]; exact hn337_3) | (show (Addr.add _ _).block ≠ _; rw [qn]; exact hn337_3) | exact hn337_3) : p := h
theorem zz56 {p : Prop} (h : p := by first | (rw [qn]; exact hn337_4) | (show (Addr.add _ _).block ≠ _; rw [qn]; exact hn337_4) | exact hn337_4) : p := h
theorem zz57 {p : Prop} (h : p := by (with_reducible repeat (first | apply Kd.V_alloc | apply Kd.V_drewN | apply Kd.V_drew)); exact HL198_5.out) : p := h
theorem zz58 {p : Prop} (h : p := by first | (rw [qn]; exact hn239_0) | (show (Addr.add _ _).block ≠ _; rw [qn]; exact hn239_0) | exact hn239_0) : p := h
theorem zz59 {p : Prop} (h : p := by first | (rw [qn]; exact hn239_1) | (show (Addr.add _ _).block ≠ _; rw [qn]; exact hn239_1) | exact hn239_1) : p := h
theorem zz60 {p : Prop} (h : p := by (with_reducible repeat (first | apply Kd.R_alloc | apply Kd.R_drewN | apply Kd.R_drew)); exact HO_220003.out) : p := h
theorem zz61 {p : Prop} (h : p := by (with_reducible repeat (first | apply Kd.R_alloc | apply Kd.R_drewN | apply Kd.R_drew)); exact HO_220004.out) : p := h
theorem zz64 {p : Prop} (h : p := by exact (ql zz32)) : p := h
theorem zz65 {p : Prop} (h : p := by (with_reducible repeat (first | refine qj ?_ _ | refine qm ?_ | refine qi ?_ _)); refine qa.out ?_; with_reducible assumption) : p := h
theorem zz67 {p : Prop} (h : p := by repeat (first | (with_reducible first | exact HB.out | apply qc | apply qb | apply qd | refine qh ?_ GE247.out) | exact HB.out)) : p := h
theorem zz68 {p : Prop} (h : p := by repeat (first | (with_reducible first | exact HB.out | apply qc | apply qb | apply qd | refine qh ?_ GE252.out) | exact HB.out)) : p := h
theorem zz69 {p : Prop} (h : p := by repeat (first | (with_reducible first | exact HB.out | apply qc | apply qb | apply qd | refine qh ?_ GE283.out) | exact HB.out)) : p := h
theorem zz70 {p : Prop} (h : p := by repeat (first | (with_reducible first | exact HB.out | apply qc | apply qb | apply qd | refine qh ?_ GE422.out) | exact HB.out)) : p := h
theorem zz71 {p : Prop} (h : p := by repeat (first | (with_reducible first | exact HB.out | apply qc | apply qb | apply qd | refine qh ?_ GE441.out) | exact HB.out)) : p := h
theorem zz72 {p : Prop} (h : p := by repeat (first | (with_reducible first | exact HB.out | apply qc | apply qb | apply qd | refine qh ?_ GE115.out) | exact HB.out)) : p := h
theorem zz73 {p : Prop} (h : p := by repeat (first | (with_reducible first | exact HB.out | apply qc | apply qb | apply qd | refine qh ?_ GE120.out) | exact HB.out)) : p := h
theorem zz74 {p : Prop} (h : p := by repeat (first | (with_reducible first | exact HB.out | apply qc | apply qb | apply qd | refine qh ?_ GE336.out) | exact HB.out)) : p := h
theorem zz75 {p : Prop} (h : p := by repeat (first | (with_reducible first | exact HB.out | apply qc | apply qb | apply qd | refine qh ?_ GE350.out) | exact HB.out)) : p := h
theorem zz76 {p : Prop} (h : p := by repeat (first | (with_reducible first | exact HB.out | apply qc | apply qb | apply qd | refine qh ?_ GE185.out) | exact HB.out)) : p := h
theorem zz77 {p : Prop} (h : p := by repeat (first | (with_reducible first | exact HB.out | apply qc | apply qb | apply qd | refine qh ?_ GE191.out) | exact HB.out)) : p := h
theorem zz78 {p : Prop} (h : p := by repeat (first | (with_reducible first | exact HB.out | apply qc | apply qb | apply qd | refine qh ?_ GE199.out) | exact HB.out)) : p := h
theorem zz79 {p : Prop} (h : p := by repeat (first | (with_reducible first | exact HB.out | apply qc | apply qb | apply qd | refine qh ?_ GE213.out) | exact HB.out)) : p := h
theorem zz80 {p : Prop} (h : p := by repeat (first | (with_reducible first | exact HB.out | apply qc | apply qb | apply qd | refine qh ?_ GE236.out) | exact HB.out)) : p := h
theorem zz81 {p : Prop} (h : p := by repeat (first | (with_reducible first | exact HB.out | apply qc | apply qb | apply qd | refine qh ?_ GE241.out) | exact HB.out)) : p := h
theorem zz82 {p : Prop} (h : p := by exact Glob.below HG.out zz32) : p := h
theorem zz83 {p : Prop} (h : p := by (with_reducible repeat (first | apply Kd.R_alloc | apply Kd.R_drewN | apply Kd.R_drew)); exact Kd.R_mono HO_7.out (fun _ hk => hk.2)) : p := h
theorem zz84 {p : Prop} (h : p := by (with_reducible repeat (first | apply Kd.N_alloc | apply Kd.N_drewN | apply Kd.N_drew)); exact Kd.N_mono HO_5.out (fun _ hk => hk.1)) : p := h
theorem zz85 {p : Prop} (h : p := by repeat (first | (with_reducible first | exact HB.out | apply qc | apply qb | apply qd | refine qh ?_ (IsS74.ge HI0.out)) | exact HB.out)) : p := h
theorem zz86 {p : Prop} (h : p := by repeat (first | (with_reducible first | exact HB.out | apply qc | apply qb | apply qd | refine qh ?_ (IsS74.ge HI137.out)) | exact HB.out)) : p := h
theorem zz87 {p : Prop} (h : p := by (try simp only [List.map_toArray, List.map_cons, List.map_nil]); first | done | rfl | (simp only [List.length_drop, List.length_take]; rfl)) : p := h
theorem zz88 {p : Prop} (h : p := by (with_reducible repeat (first | (refine qa.out ?_; assumption) | refine qj ?_ _ | refine qm ?_ | refine qi ?_ _ | apply qkc)); all_goals rfl) : p := h
theorem zz89 {p : Prop} (h : p := by first | exact Kd.R_nil _ _ _ _ _ | exact Kd.N_nil _ _ _ _ _ | exact Kd.V_nil _ _ _ _ _ | exact Kd.Q_nil _ _ _ _ _ | exact Kd.S_nil _ _ _ _ _) : p := h
theorem zz90 {p : Prop} (h : p := by first | exact Kd.S_nil _ _ _ _ _ | exact Kd.N_nil _ _ _ _ _ | exact Kd.V_nil _ _ _ _ _ | exact Kd.Q_nil _ _ _ _ _ | exact Kd.R_nil _ _ _ _ _) : p := h
theorem zz91 {p : Prop} (h : p := by (with_reducible repeat (first | apply Kd.R_alloc | apply Kd.R_drewN | apply Kd.R_drew)); exact Kd.R_mono HO_7.out (fun _ hk => ⟨trivial, hk⟩)) : p := h
theorem zz92 {p : Prop} (h : p := by first | exact q302 | exact of_decide_eq_true zz13 | (have e_ := (Kd.S_reads' HO_7.out).1; omega)) : p := h
theorem zz93 {p : Prop} (h : p := by first | exact q292 | exact of_decide_eq_true zz13 | (have e_ := (Kd.S_reads' HO_19.out).1; omega)) : p := h
theorem zz94 {p : Prop} (h : p := by repeat (first | (with_reducible first | exact HK.out | apply KeepBut.set_ | apply keep_drewN | apply keep_drew | apply keep_alloc) | exact HK.out)) : p := h
theorem zz95 {p : Prop} (h : p := by first | exact q198 | exact of_decide_eq_true zz13 | (have e_ := (Kd.V_reads' HO_10.out).1; omega)) : p := h
theorem zz98 {p : Prop} (h : p := by first | rfl | (simp [qp, qq] <;> rfl) | (simp [*, qp, qq] <;> rfl) | (congr 2; simp only [bne]; generalize ByteArray.toList _ = z_; cases z_ <;> rfl)) : p := h
theorem zz99 {p : Prop} (h : p := by repeat (first | (with_reducible first | exact HB.out | apply qc | apply qb | apply qd | refine qh ?_ GE247.out | refine qh ?_ GE251.out) | exact HB.out)) : p := h
theorem zz100 {p : Prop} (h : p := by repeat (first | (with_reducible first | exact HB.out | apply qc | apply qb | apply qd | refine qh ?_ GE252.out | refine qh ?_ GE268.out) | exact HB.out)) : p := h
theorem zz101 {p : Prop} (h : p := by repeat (first | (with_reducible first | exact HB.out | apply qc | apply qb | apply qd | refine qh ?_ GE441.out | refine qh ?_ GE442.out) | exact HB.out)) : p := h
theorem zz102 {p : Prop} (h : p := by repeat (first | (with_reducible first | exact HB.out | apply qc | apply qb | apply qd | refine qh ?_ GE336.out | refine qh ?_ GE340.out) | exact HB.out)) : p := h
theorem zz103 {p : Prop} (h : p := by repeat (first | (with_reducible first | exact HB.out | apply qc | apply qb | apply qd | refine qh ?_ GE350.out | refine qh ?_ GE353.out) | exact HB.out)) : p := h
theorem zz104 {p : Prop} (h : p := by (with_reducible repeat (first | apply Kd.V_alloc | apply Kd.V_drewN | apply Kd.V_drew)); exact Kd.V_mono HO_0.out (fun _ hk => ⟨⟨hk.1, hk.2.2⟩, hk.2.1⟩)) : p := h
theorem zz105 {p : Prop} (h : p := by repeat (first | (with_reducible first | exact HB.out | apply qc | apply qb | apply qd | refine qh ?_ GE213.out | refine qh ?_ GE215.out) | exact HB.out)) : p := h
theorem zz106 {p : Prop} (h : p := by repeat (first | exact HR0.out | (with_reducible refine Kd.C_alloc ?_ _) | (with_reducible refine Kd.C_drewN ?_ _) | (with_reducible refine Kd.C_drew ?_))) : p := h
theorem zz107 {p : Prop} (h : p := by repeat (first | exact HR1.out | (with_reducible refine Kd.C_alloc ?_ _) | (with_reducible refine Kd.C_drewN ?_ _) | (with_reducible refine Kd.C_drew ?_))) : p := h
theorem zz108 {p : Prop} (h : p := by (with_reducible repeat (first | apply Kd.V_alloc | apply Kd.V_drewN | apply Kd.V_drew)); exact Kd.V_mono HO_10.out (fun _ hk => ⟨⟨hk.1, hk.2.2⟩, hk.2.1⟩)) : p := h
theorem zz109 {p : Prop} (h : p := by exact (fun k_ hk => Kd.fresh' (Kd.R_lt zz36) k_ hk)) : p := h
theorem zz110 {p : Prop} (h : p := by (with_reducible repeat (first | apply Kd.V_alloc | apply Kd.V_drewN | apply Kd.V_drew)); exact Kd.V_mono HL198_5.out (fun _ hk => ⟨⟨hk.1, hk.2.2⟩, hk.2.1⟩)) : p := h
theorem zz111 {p : Prop} (h : p := by (with_reducible repeat (first | apply Kd.N_alloc | apply Kd.N_drewN | apply Kd.N_drew)); exact Kd.N_mono HO_5.out (fun _ hk => ⟨hk.1, ⟨hk.2.2.2, hk.2.2.1⟩⟩)) : p := h
theorem zz112 {p : Prop} (h : p := by rw [hw]; exact zz88) : p := h
theorem zz114 {p : Prop} (h : p := by repeat (first | (with_reducible first | exact HB.out | apply qc | apply qb | apply qd | refine qh ?_ (IsS74.ge HI137.out) | refine qh ?_ GE163.out) | exact HB.out)) : p := h
theorem zz115 {p : Prop} (h : p := by repeat (first | (with_reducible first | exact HB.out | apply qc | apply qb | apply qd | refine qh ?_ (IsS74.ge HI137.out) | refine qh ?_ GE179.out) | exact HB.out)) : p := h
theorem zz116 {p : Prop} (h : p := by exact Glob.below HG.out zz85) : p := h
theorem zz118 {p : Prop} (h : p := by repeat (first | (with_reducible first | exact HI0.out | apply IsS74.alloc | apply IsS74.drewN | apply IsS74.drew | apply IsS74.set_0 | apply IsS74.set_1) | exact HI0.out)) : p := h
theorem zz119 {p : Prop} (h : p := by repeat (first | exact (Kd.V_reads' HO0.out).2.2 | (with_reducible refine Kd.C_alloc ?_ _) | (with_reducible refine Kd.C_drewN ?_ _) | (with_reducible refine Kd.C_drew ?_))) : p := h
theorem zz120 {p : Prop} (h : p := by repeat (first | exact (Kd.V_reads' HO_0.out).2.2 | (with_reducible refine Kd.C_alloc ?_ _) | (with_reducible refine Kd.C_drewN ?_ _) | (with_reducible refine Kd.C_drew ?_))) : p := h
theorem zz121 {p : Prop} (h : p := by repeat (first | exact (Kd.N_reads' HO_5.out).2.2 | (with_reducible refine Kd.C_alloc ?_ _) | (with_reducible refine Kd.C_drewN ?_ _) | (with_reducible refine Kd.C_drew ?_))) : p := h
theorem zz122 {p : Prop} (h : p := by repeat (first | exact (Kd.S_reads' HO_7.out).2.2 | (with_reducible refine Kd.C_alloc ?_ _) | (with_reducible refine Kd.C_drewN ?_ _) | (with_reducible refine Kd.C_drew ?_))) : p := h
theorem zz123 {p : Prop} (h : p := by repeat (first | exact (Kd.R_reads' HO_8.out).2.2 | (with_reducible refine Kd.C_alloc ?_ _) | (with_reducible refine Kd.C_drewN ?_ _) | (with_reducible refine Kd.C_drew ?_))) : p := h
theorem zz124 {p : Prop} (h : p := by repeat (first | exact (Kd.C_below HR0.out HB.out) | (with_reducible refine Kd.C_alloc ?_ _) | (with_reducible refine Kd.C_drewN ?_ _) | (with_reducible refine Kd.C_drew ?_))) : p := h
theorem zz125 {p : Prop} (h : p := by repeat (first | exact (Kd.C_below HR1.out HB.out) | (with_reducible refine Kd.C_alloc ?_ _) | (with_reducible refine Kd.C_drewN ?_ _) | (with_reducible refine Kd.C_drew ?_))) : p := h
theorem zz126 {p : Prop} (h : p := by repeat (first | exact (Kd.N_reads' HO309.out).2.2 | (with_reducible refine Kd.C_alloc ?_ _) | (with_reducible refine Kd.C_drewN ?_ _) | (with_reducible refine Kd.C_drew ?_))) : p := h
theorem zz127 {p : Prop} (h : p := by repeat (first | exact (Kd.N_reads' HO316.out).2.2 | (with_reducible refine Kd.C_alloc ?_ _) | (with_reducible refine Kd.C_drewN ?_ _) | (with_reducible refine Kd.C_drew ?_))) : p := h
theorem zz128 {p : Prop} (h : p := by repeat (first | exact (Kd.R_reads' HO321.out).2.2 | (with_reducible refine Kd.C_alloc ?_ _) | (with_reducible refine Kd.C_drewN ?_ _) | (with_reducible refine Kd.C_drew ?_))) : p := h
theorem zz129 {p : Prop} (h : p := by repeat (first | exact (Kd.R_reads' HO324.out).2.2 | (with_reducible refine Kd.C_alloc ?_ _) | (with_reducible refine Kd.C_drewN ?_ _) | (with_reducible refine Kd.C_drew ?_))) : p := h
theorem zz130 {p : Prop} (h : p := by repeat (first | exact (Kd.S_reads' HO487.out).2.2 | (with_reducible refine Kd.C_alloc ?_ _) | (with_reducible refine Kd.C_drewN ?_ _) | (with_reducible refine Kd.C_drew ?_))) : p := h
theorem zz131 {p : Prop} (h : p := by repeat (first | exact (Kd.R_reads' HO497.out).2.2 | (with_reducible refine Kd.C_alloc ?_ _) | (with_reducible refine Kd.C_drewN ?_ _) | (with_reducible refine Kd.C_drew ?_))) : p := h
theorem zz132 {p : Prop} (h : p := by repeat (first | (with_reducible first | exact HI137.out | apply IsS74.alloc | apply IsS74.drewN | apply IsS74.drew | apply IsS74.set_0 | apply IsS74.set_1) | exact HI137.out)) : p := h
theorem zz133 {p : Prop} (h : p := by repeat (first | exact (Kd.C_below HR0_3.out HB.out) | (with_reducible refine Kd.C_alloc ?_ _) | (with_reducible refine Kd.C_drewN ?_ _) | (with_reducible refine Kd.C_drew ?_))) : p := h
theorem zz134 {p : Prop} (h : p := by repeat (first | exact (Kd.C_below HR0_4.out HB.out) | (with_reducible refine Kd.C_alloc ?_ _) | (with_reducible refine Kd.C_drewN ?_ _) | (with_reducible refine Kd.C_drew ?_))) : p := h
theorem zz135 {p : Prop} (h : p := by repeat (first | exact (Kd.C_below HR1_5.out HB.out) | (with_reducible refine Kd.C_alloc ?_ _) | (with_reducible refine Kd.C_drewN ?_ _) | (with_reducible refine Kd.C_drew ?_))) : p := h
theorem zz136 {p : Prop} (h : p := by repeat (first | exact (Kd.C_below HR428_5.out HB.out) | (with_reducible refine Kd.C_alloc ?_ _) | (with_reducible refine Kd.C_drewN ?_ _) | (with_reducible refine Kd.C_drew ?_))) : p := h
theorem zz137 {p : Prop} (h : p := by repeat (first | (with_reducible first | exact HB.out | apply qc | apply qb | apply qd | refine qh ?_ GE213.out | refine qh ?_ GE215.out | refine qh ?_ GE219.out) | exact HB.out)) : p := h
theorem zz138 {p : Prop} (h : p := by repeat (first | exact (Kd.C_below HR214_5.out HB.out) | (with_reducible refine Kd.C_alloc ?_ _) | (with_reducible refine Kd.C_drewN ?_ _) | (with_reducible refine Kd.C_drew ?_))) : p := h
theorem zz141 {p : Prop} (h : p := by repeat (first | (with_reducible exact HR292_0.out) | (with_reducible refine Kd.C_alloc ?_ _) | (with_reducible refine Kd.C_drewN ?_ _) | (with_reducible refine Kd.C_drew ?_) | exact HR292_0.out)) : p := h
theorem zz142 {p : Prop} (h : p := by repeat (first | (with_reducible exact HR302_0.out) | (with_reducible refine Kd.C_alloc ?_ _) | (with_reducible refine Kd.C_drewN ?_ _) | (with_reducible refine Kd.C_drew ?_) | exact HR302_0.out)) : p := h
theorem zz143 {p : Prop} (h : p := by repeat (first | (with_reducible exact HR198_5.out) | (with_reducible refine Kd.C_alloc ?_ _) | (with_reducible refine Kd.C_drewN ?_ _) | (with_reducible refine Kd.C_drew ?_) | exact HR198_5.out)) : p := h
theorem zz144 {p : Prop} (h : p := by repeat (first | (with_reducible first | exact HB.out | apply qc | apply qb | apply qd | refine qh ?_ GE213.out | refine qh ?_ GE215.out | refine qh ?_ GE219.out | refine qh ?_ GE221.out) | exact HB.out)) : p := h
theorem zz145 {p : Prop} (h : p := by first | rfl | (simp [qp, qq] <;> rfl) | (simp only [← hji2]; first | rfl | (simp [qp, qq] <;> rfl)) | (simp [*, qp, qq] <;> rfl) | (congr 2; simp only [bne]; generalize ByteArray.toList _ = z_; cases z_ <;> rfl)) : p := h
theorem zz146 {p : Prop} (h : p := by repeat (first | (with_reducible first | exact HI137.out | apply IsS74.alloc | apply IsS74.drewN | apply IsS74.drew | apply IsS74.set_0 | apply IsS74.set_1 | refine IsS74.far ?_ NB137_163.out _) | exact HI137.out)) : p := h
theorem zz147 {p : Prop} (h : p := by repeat (first | (with_reducible first | exact HI137.out | apply IsS74.alloc | apply IsS74.drewN | apply IsS74.drew | apply IsS74.set_0 | apply IsS74.set_1 | refine IsS74.far ?_ NB137_179.out _) | exact HI137.out)) : p := h
theorem zz148 {p : Prop} (h : p := by first | rfl | (simp [qp, qq] <;> rfl) | (simp only [← hji2, ← hji12]; first | rfl | (simp [qp, qq] <;> rfl)) | (simp [*, qp, qq] <;> rfl) | (congr 2; simp only [bne]; generalize ByteArray.toList _ = z_; cases z_ <;> rfl)) : p := h
theorem zz151 {p : Prop} (h : p := by exact (Reps.c2 (show Kd.M k55 _ _ _ (⟨(⟨#[97]⟩ : ByteArray), (⟨#[49]⟩ : ByteArray)⟩ : S55) [.string (⟨#[97]⟩ : ByteArray), .string (⟨#[49]⟩ : ByteArray)] from (k55_mkM _ _ _ (⟨(⟨#[97]⟩ : ByteArray), (⟨#[49]⟩ : ByteArray)⟩ : S55) )) (Reps.none _ _))) : p := h
theorem zz152 {p : Prop} (h : p := by repeat (first | exact (Kd.C_below HR1.out zz32) | (with_reducible refine Kd.C_alloc ?_ _) | (with_reducible refine Kd.C_drewN ?_ _) | (with_reducible refine Kd.C_drew ?_))) : p := h
theorem zz153 {p : Prop} (h : p := by (with_reducible repeat (first | refine qj ?_ _ | refine qm ?_ | refine qi ?_ _)); refine qwb ?_ NB350_353.out _; (with_reducible repeat (first | refine qj ?_ _ | refine qm ?_ | refine qi ?_ _)); refine qwb ?_ NB350_353.out _; (with_reducible repeat (first | refine qj ?_ _ | refine qm ?_ | refine qi ?_ _)); refine qwb ?_ NB350_353.out _; (with_reducible repeat (first | refine qj ?_ _ | refine qm ?_ | refine qi ?_ _)); exact BK350.out) : p := h
theorem zz154 {p : Prop} (h : p := by first | exact qjd (qid zz18 GW336.out) | (rw [qn]; exact qjd (qid zz18 GW336.out)) | (show (Addr.add _ _).block ≠ _; rw [qn]; exact qjd (qid zz18 GW336.out)) | (dsimp only; exact qjd (qid zz18 GW336.out))) : p := h
theorem zz155 {p : Prop} (h : p := by first | exact qjd (qid zz19 GW336.out) | (rw [qn]; exact qjd (qid zz19 GW336.out)) | (show (Addr.add _ _).block ≠ _; rw [qn]; exact qjd (qid zz19 GW336.out)) | (dsimp only; exact qjd (qid zz19 GW336.out))) : p := h
theorem zz156 {p : Prop} (h : p := by first | exact qjd (qid zz20 GW336.out) | (rw [qn]; exact qjd (qid zz20 GW336.out)) | (show (Addr.add _ _).block ≠ _; rw [qn]; exact qjd (qid zz20 GW336.out)) | (dsimp only; exact qjd (qid zz20 GW336.out))) : p := h
theorem zz157 {p : Prop} (h : p := by first | exact qjd (qid zz21 GW336.out) | (rw [qn]; exact qjd (qid zz21 GW336.out)) | (show (Addr.add _ _).block ≠ _; rw [qn]; exact qjd (qid zz21 GW336.out)) | (dsimp only; exact qjd (qid zz21 GW336.out))) : p := h
theorem zz158 {p : Prop} (h : p := by first | exact qjd (qid zz22 GW336.out) | (rw [qn]; exact qjd (qid zz22 GW336.out)) | (show (Addr.add _ _).block ≠ _; rw [qn]; exact qjd (qid zz22 GW336.out)) | (dsimp only; exact qjd (qid zz22 GW336.out))) : p := h
theorem zz159 {p : Prop} (h : p := by (with_reducible repeat (first | apply Kd.R_alloc | apply Kd.R_drewN | apply Kd.R_drew)); exact (Kd.R_mono (Kd.R_far (p := ⟨gb268, 4, none⟩) (Kd.R_far (p := ⟨gb268, 3, none⟩) (Kd.R_far (p := ⟨gb268, 2, none⟩) (Kd.R_far (p := ⟨gb268, 1, none⟩) (Kd.R_far (p := ⟨gb268, 0, none⟩) (Kd.R_types HO263.out BK268.out (by decide)) (fun _ hk => hk.2) (.string t258)) (fun _ hk => hk.2) (.string t259)) (fun _ hk => hk.2) (.string t260)) (fun _ hk => hk.2) (.slice Ao23 t261.length co23)) (fun _ hk => hk.2) (.slice Ao24 t264.length co24)) (fun _ h_ => h_.1))) : p := h
theorem zz160 {p : Prop} (h : p := by (with_reducible repeat (first | apply Kd.R_alloc | apply Kd.R_drewN | apply Kd.R_drew)); exact (Kd.R_mono (Kd.R_far (p := ⟨gb268, 4, none⟩) (Kd.R_far (p := ⟨gb268, 3, none⟩) (Kd.R_far (p := ⟨gb268, 2, none⟩) (Kd.R_far (p := ⟨gb268, 1, none⟩) (Kd.R_far (p := ⟨gb268, 0, none⟩) (Kd.R_types HO263.out BK268.out (by decide)) (fun _ hk => hk.2) (.string t258)) (fun _ hk => hk.2) (.string t259)) (fun _ hk => hk.2) (.string t260)) (fun _ hk => hk.2) (.slice Ao33 t261.length co33)) (fun _ hk => hk.2) (.slice Ao34 t264.length co34)) (fun _ h_ => h_.1))) : p := h
theorem zz161 {p : Prop} (h : p := by (with_reducible repeat (first | apply Kd.R_alloc | apply Kd.R_drewN | apply Kd.R_drew)); exact (Kd.R_mono (Kd.R_far (p := ⟨gb268, 4, none⟩) (Kd.R_far (p := ⟨gb268, 3, none⟩) (Kd.R_far (p := ⟨gb268, 2, none⟩) (Kd.R_far (p := ⟨gb268, 1, none⟩) (Kd.R_far (p := ⟨gb268, 0, none⟩) (Kd.R_mono HO266.out (fun k_ hk => (⟨hk, hk.2⟩ : _ ∧ k_ ≠ gb268))) (fun _ hk => hk.2) (.string t258)) (fun _ hk => hk.2) (.string t259)) (fun _ hk => hk.2) (.string t260)) (fun _ hk => hk.2) (.slice Ao23 t261.length co23)) (fun _ hk => hk.2) (.slice Ao24 t264.length co24)) (fun _ h_ => h_.1))) : p := h
theorem zz162 {p : Prop} (h : p := by (with_reducible repeat (first | apply Kd.R_alloc | apply Kd.R_drewN | apply Kd.R_drew)); exact (Kd.R_mono (Kd.R_far (p := ⟨gb268, 4, none⟩) (Kd.R_far (p := ⟨gb268, 3, none⟩) (Kd.R_far (p := ⟨gb268, 2, none⟩) (Kd.R_far (p := ⟨gb268, 1, none⟩) (Kd.R_far (p := ⟨gb268, 0, none⟩) (Kd.R_mono HO266.out (fun k_ hk => (⟨hk, hk.2⟩ : _ ∧ k_ ≠ gb268))) (fun _ hk => hk.2) (.string t258)) (fun _ hk => hk.2) (.string t259)) (fun _ hk => hk.2) (.string t260)) (fun _ hk => hk.2) (.slice Ao33 t261.length co33)) (fun _ hk => hk.2) (.slice Ao34 t264.length co34)) (fun _ h_ => h_.1))) : p := h
theorem zz163 {p : Prop} (h : p := by (with_reducible repeat (first | refine qj ?_ _ | refine qm ?_ | refine qi ?_ _)); refine qwb ?_ NB252_268.out _; (with_reducible repeat (first | refine qj ?_ _ | refine qm ?_ | refine qi ?_ _)); refine qwb ?_ NB252_268.out _; (with_reducible repeat (first | refine qj ?_ _ | refine qm ?_ | refine qi ?_ _)); refine qwb ?_ NB252_268.out _; (with_reducible repeat (first | refine qj ?_ _ | refine qm ?_ | refine qi ?_ _)); refine qwb ?_ NB252_268.out _; (with_reducible repeat (first | refine qj ?_ _ | refine qm ?_ | refine qi ?_ _)); refine qwb ?_ NB252_268.out _; (with_reducible repeat (first | refine qj ?_ _ | refine qm ?_ | refine qi ?_ _)); exact BK252.out) : p := h
theorem zz164 {p : Prop} (h : p := by (with_reducible repeat (first | apply Kd.R_alloc | apply Kd.R_drewN | apply Kd.R_drew)); exact Kd.R_mono (Kd.R_far (p := ⟨gb199, 5, none⟩) (Kd.R_far (p := ⟨gb199, 4, none⟩) (Kd.R_far (p := ⟨gb199, 3, none⟩) (Kd.R_far (p := ⟨gb199, 2, none⟩) (Kd.R_far (p := ⟨gb199, 1, none⟩) (Kd.R_far (p := ⟨gb199, 0, none⟩) (Kd.R_types HO_3.out BK199.out (by decide)) (fun _ hk => hk.2) (.int .i64 ((qf l0 x12_1).f0))) (fun _ hk => hk.2) (.int .i64 ((qf l0 x12_1).f1))) (fun _ hk => hk.2) (.string ((qf l0 x12_1).f2))) (fun _ hk => hk.2) (.string ((qf l0 x12_1).f3))) (fun _ hk => hk.2) (.string ((qf l0 x12_1).f4))) (fun _ hk => hk.2) (.slice A198_5 ((qf l0 x12_1).f5).length c198_5)) (fun _ hk => hk.1)) : p := h
theorem zz165 {p : Prop} (h : p := by (with_reducible repeat (first | apply Kd.R_alloc | apply Kd.R_drewN | apply Kd.R_drew)); exact Kd.R_mono (Kd.R_far (p := ⟨gb191, 5, none⟩) (Kd.R_far (p := ⟨gb191, 4, none⟩) (Kd.R_far (p := ⟨gb191, 3, none⟩) (Kd.R_far (p := ⟨gb191, 2, none⟩) (Kd.R_far (p := ⟨gb191, 1, none⟩) (Kd.R_far (p := ⟨gb191, 0, none⟩) (Kd.R_types HO_3.out BK191.out (by decide)) (fun _ hk => hk.2) (.int .i64 ((qf l0 x12_1).f0))) (fun _ hk => hk.2) (.int .i64 ((qf l0 x12_1).f1))) (fun _ hk => hk.2) (.string ((qf l0 x12_1).f2))) (fun _ hk => hk.2) (.string ((qf l0 x12_1).f3))) (fun _ hk => hk.2) (.string ((qf l0 x12_1).f4))) (fun _ hk => hk.2) (.slice A190_5 ((qf l0 x12_1).f5).length c190_5)) (fun _ hk => trivial)) : p := h
theorem zz168 {p : Prop} (h : p := by (with_reducible repeat (first | apply Kd.V_alloc | apply Kd.V_drewN | apply Kd.V_drew)); exact Kd.V_mono (Kd.V_far (p := ⟨gb199, 5, none⟩) (Kd.V_far (p := ⟨gb199, 4, none⟩) (Kd.V_far (p := ⟨gb199, 3, none⟩) (Kd.V_far (p := ⟨gb199, 2, none⟩) (Kd.V_far (p := ⟨gb199, 1, none⟩) (Kd.V_far (p := ⟨gb199, 0, none⟩) (Kd.V_mono HO_0.out (fun k_ hk => (⟨hk, hk.2⟩ : _ ∧ k_ ≠ gb199))) (fun _ hk => hk.2) (.int .i64 ((qf l0 x12_1).f0))) (fun _ hk => hk.2) (.int .i64 ((qf l0 x12_1).f1))) (fun _ hk => hk.2) (.string ((qf l0 x12_1).f2))) (fun _ hk => hk.2) (.string ((qf l0 x12_1).f3))) (fun _ hk => hk.2) (.string ((qf l0 x12_1).f4))) (fun _ hk => hk.2) (.slice A198_5 ((qf l0 x12_1).f5).length c198_5)) (fun _ hk => ⟨hk.1.1.1, ⟨hk.1.1.2, hk.1.2⟩⟩)) : p := h
theorem zz169 {p : Prop} (h : p := by (with_reducible repeat (first | apply Kd.V_alloc | apply Kd.V_drewN | apply Kd.V_drew)); exact Kd.V_mono (Kd.V_far (p := ⟨gb199, 5, none⟩) (Kd.V_far (p := ⟨gb199, 4, none⟩) (Kd.V_far (p := ⟨gb199, 3, none⟩) (Kd.V_far (p := ⟨gb199, 2, none⟩) (Kd.V_far (p := ⟨gb199, 1, none⟩) (Kd.V_far (p := ⟨gb199, 0, none⟩) (Kd.V_mono HO_10.out (fun k_ hk => (⟨hk, hk.2⟩ : _ ∧ k_ ≠ gb199))) (fun _ hk => hk.2) (.int .i64 ((qf l0 x12_1).f0))) (fun _ hk => hk.2) (.int .i64 ((qf l0 x12_1).f1))) (fun _ hk => hk.2) (.string ((qf l0 x12_1).f2))) (fun _ hk => hk.2) (.string ((qf l0 x12_1).f3))) (fun _ hk => hk.2) (.string ((qf l0 x12_1).f4))) (fun _ hk => hk.2) (.slice A198_5 ((qf l0 x12_1).f5).length c198_5)) (fun _ hk => ⟨hk.1.1.1, ⟨hk.1.1.2, hk.1.2⟩⟩)) : p := h
theorem zz170 {p : Prop} (h : p := by (with_reducible repeat (first | apply Kd.V_alloc | apply Kd.V_drewN | apply Kd.V_drew)); exact Kd.V_mono (Kd.V_far (p := ⟨gb199, 5, none⟩) (Kd.V_far (p := ⟨gb199, 4, none⟩) (Kd.V_far (p := ⟨gb199, 3, none⟩) (Kd.V_far (p := ⟨gb199, 2, none⟩) (Kd.V_far (p := ⟨gb199, 1, none⟩) (Kd.V_far (p := ⟨gb199, 0, none⟩) (Kd.V_mono HL198_5.out (fun k_ hk => (⟨hk, hk.2⟩ : _ ∧ k_ ≠ gb199))) (fun _ hk => hk.2) (.int .i64 ((qf l0 x12_1).f0))) (fun _ hk => hk.2) (.int .i64 ((qf l0 x12_1).f1))) (fun _ hk => hk.2) (.string ((qf l0 x12_1).f2))) (fun _ hk => hk.2) (.string ((qf l0 x12_1).f3))) (fun _ hk => hk.2) (.string ((qf l0 x12_1).f4))) (fun _ hk => hk.2) (.slice A198_5 ((qf l0 x12_1).f5).length c198_5)) (fun _ hk => ⟨hk.1.1.1, ⟨hk.1.1.2, hk.1.2⟩⟩)) : p := h
end Go.Proofs.YtjbobecnlpiejaaGreatDoorZ
namespace Go.Proofs
def Tryz.lays169_ren : Go.Shelf.Ren := ⟨fun | 169 => 24 | n => n, fun | 70 => 60 | 9 => 9 | 0 => 0 | 72 => 63 | 37 => 61 | 127 => 89 | 3 => 3 | 5 => 5 | n => n, fun | n => n⟩
theorem Tryz.lays169 : Go.Proofs.Lays.n169 Tryz.prog Tryz.lays169_ren := {
 mixed := by kernel_rfl
 f169 := Tryz.func24.trans (congrArg some (by kernel_rfl))
 t0 := Tryz.underlying0
 a0 := Tryz.isAgg0
 z0 := Tryz.sizeOf0
 v0 := Tryz.zeroValue0
 t3 := Tryz.underlying3
 a3 := Tryz.isAgg3
 z3 := Tryz.sizeOf3
 v3 := Tryz.zeroValue3
 t9 := Tryz.underlying9
 a9 := Tryz.isAgg9
 z9 := Tryz.sizeOf9
 v9 := Tryz.zeroValue9
 t37 := Tryz.underlying61
 a37 := Tryz.isAgg61
 z37 := Tryz.sizeOf61
 v37 := Tryz.zeroValue61
 t70 := Tryz.underlying60
 a70 := Tryz.isAgg60
 z70 := Tryz.sizeOf60
 v70 := Tryz.zeroValue60
 t72 := Tryz.underlying63
 a72 := Tryz.isAgg63
 z72 := Tryz.sizeOf63
 v72 := Tryz.zeroValue63
 t127 := Tryz.underlying89
 a127 := Tryz.isAgg89
 z127 := Tryz.sizeOf89
 v127 := Tryz.zeroValue89 }
theorem Tryz.Builder_Extra_169 : Builder.Extra Tryz.prog Tryz.lays169_ren := {
 sizeBuilder := by kernel_rfl
 liesBuilder := by kernel_rfl
 t5 := Tryz.underlying5
 a5 := Tryz.isAgg5
 z5 := Tryz.sizeOf5
 v5 := Tryz.zeroValue5
 infoByte := by kernel_rfl
 cellsByte := by kernel_rfl
 sizeByte := by kernel_rfl
 neB5 := by decide }
def Tryz.lays137_ren : Go.Shelf.Ren := ⟨fun | 137 => 75 | 217 => 84 | 266 => 93 | n => n, fun | 9 => 9 | 5 => 5 | 3 => 3 | n => n, fun | n => n⟩
theorem Tryz.lays137 : Go.Proofs.Lays.n137 Tryz.prog Tryz.lays137_ren := {
 mixed := by kernel_rfl
 f137 := Tryz.func75.trans (congrArg some (by kernel_rfl))
 f217 := Tryz.func84.trans (congrArg some (by kernel_rfl))
 f266 := Tryz.func93.trans (congrArg some (by kernel_rfl))
 t3 := Tryz.underlying3
 a3 := Tryz.isAgg3
 z3 := Tryz.sizeOf3
 v3 := Tryz.zeroValue3
 t5 := Tryz.underlying5
 a5 := Tryz.isAgg5
 z5 := Tryz.sizeOf5
 v5 := Tryz.zeroValue5
 t9 := Tryz.underlying9
 a9 := Tryz.isAgg9
 z9 := Tryz.sizeOf9
 v9 := Tryz.zeroValue9 }
open Go.RowKit in
theorem Tryz.strings_IndexByte (s : ByteArray) (c : Int) (w : World) :
  Calls Tryz.prog 75 #[.string s, .int .u8 c] w fun e w' => e = .returned (.int .i64 (Lib.indexByte s.data.toList c.toNat.toUInt8)) ∧ w' = w := Any.strings_IndexByte Tryz.lays137 s c w
open Go.RowKit in
theorem Tryz.Builder_String_any_k (B b : Nat) (l : List UInt8) (w : World) (h : Lib.IsBuilderF 63 5 B b (Lib.byteCells l) w) (hBw : B ≤ w.heap.size) :
  Calls Tryz.prog 24 #[.pointer (some ⟨b, 0, none⟩)] w fun e w' => e = .returned (.string ⟨l.toArray⟩) ∧ (Lib.IsBuilderF 63 5 B b (Lib.byteCells l) w' ∧ Below B w w' ∧ Lib.OthersKept 5 (some b) w w') := Any.Builder_String_any_k Tryz.lays169 Tryz.Builder_Extra_169 B b l w h hBw
def Tryz.laysM171_ren : Go.Shelf.Ren := ⟨fun | 171 => 57 | 243 => 73 | 246 => 83 | 283 => 89 | 284 => 90 | 285 => 91 | 286 => 92 | 129 => 98 | 317 => 97 | 318 => 99 | 319 => 100 | 320 => 101 | 337 => 107 | 338 => 108 | n => n, fun | 3 => 3 | 9 => 9 | 2 => 2 | 4 => 4 | 171 => 135 | 0 => 0 | 53 => 136 | 37 => 61 | 5 => 5 | 173 => 139 | 212 => 145 | 51 => 146 | 20 => 20 | 213 => 147 | 46 => 149 | 232 => 163 | 233 => 164 | n => n, fun | 17 => 0 | 18 => 4 | 19 => 5 | n => n⟩
theorem Tryz.laysM171 : Go.Proofs.LaysM.n171 Tryz.prog Tryz.laysM171_ren := {
 mixed := by kernel_rfl
 f129 := Tryz.func98.trans (congrArg some (by kernel_rfl))
 f171 := Tryz.func57.trans (congrArg some (by kernel_rfl))
 f243 := Tryz.func73.trans (congrArg some (by kernel_rfl))
 f246 := Tryz.func83.trans (congrArg some (by kernel_rfl))
 f283 := Tryz.func89.trans (congrArg some (by kernel_rfl))
 f284 := Tryz.func90.trans (congrArg some (by kernel_rfl))
 f285 := Tryz.func91.trans (congrArg some (by kernel_rfl))
 f286 := Tryz.func92.trans (congrArg some (by kernel_rfl))
 f317 := Tryz.func97.trans (congrArg some (by kernel_rfl))
 f318 := Tryz.func99.trans (congrArg some (by kernel_rfl))
 f319 := Tryz.func100.trans (congrArg some (by kernel_rfl))
 f320 := Tryz.func101.trans (congrArg some (by kernel_rfl))
 f337 := Tryz.func107.trans (congrArg some (by kernel_rfl))
 f338 := Tryz.func108.trans (congrArg some (by kernel_rfl))
 t0 := Tryz.underlying0
 a0 := Tryz.isAgg0
 z0 := Tryz.sizeOf0
 v0 := Tryz.zeroValue0
 t2 := Tryz.underlying2
 a2 := Tryz.isAgg2
 z2 := Tryz.sizeOf2
 v2 := Tryz.zeroValue2
 t3 := Tryz.underlying3
 a3 := Tryz.isAgg3
 z3 := Tryz.sizeOf3
 v3 := Tryz.zeroValue3
 t4 := Tryz.underlying4
 a4 := Tryz.isAgg4
 z4 := Tryz.sizeOf4
 v4 := Tryz.zeroValue4
 t5 := Tryz.underlying5
 a5 := Tryz.isAgg5
 z5 := Tryz.sizeOf5
 v5 := Tryz.zeroValue5
 t9 := Tryz.underlying9
 a9 := Tryz.isAgg9
 z9 := Tryz.sizeOf9
 v9 := Tryz.zeroValue9
 t20 := Tryz.underlying20
 a20 := Tryz.isAgg20
 z20 := Tryz.sizeOf20
 v20 := Tryz.zeroValue20
 t37 := Tryz.underlying61
 a37 := Tryz.isAgg61
 z37 := Tryz.sizeOf61
 v37 := Tryz.zeroValue61
 t46 := Tryz.underlying149
 a46 := Tryz.isAgg149
 z46 := Tryz.sizeOf149
 v46 := Tryz.zeroValue149
 t51 := Tryz.underlying146
 a51 := Tryz.isAgg146
 z51 := Tryz.sizeOf146
 v51 := Tryz.zeroValue146
 t53 := Tryz.underlying136
 a53 := Tryz.isAgg136
 z53 := Tryz.sizeOf136
 v53 := Tryz.zeroValue136
 t171 := Tryz.underlying135
 a171 := Tryz.isAgg135
 z171 := Tryz.sizeOf135
 v171 := Tryz.zeroValue135
 t173 := Tryz.underlying139
 a173 := Tryz.isAgg139
 z173 := Tryz.sizeOf139
 v173 := Tryz.zeroValue139
 t212 := Tryz.underlying145
 a212 := Tryz.isAgg145
 z212 := Tryz.sizeOf145
 v212 := Tryz.zeroValue145
 t213 := Tryz.underlying147
 a213 := Tryz.isAgg147
 z213 := Tryz.sizeOf147
 t232 := Tryz.underlying163
 a232 := Tryz.isAgg163
 z232 := Tryz.sizeOf163
 v232 := Tryz.zeroValue163
 t233 := Tryz.underlying164
 a233 := Tryz.isAgg164
 z233 := Tryz.sizeOf164
 v233 := Tryz.zeroValue164
 g17 := by kernel_rfl
 g18 := by kernel_rfl
 g19 := by kernel_rfl
 i0 := by kernel_rfl
 i2 := by kernel_rfl
 i3 := by kernel_rfl
 i4 := by kernel_rfl
 i5 := by kernel_rfl
 i9 := by kernel_rfl
 i20 := by kernel_rfl
 i37 := by kernel_rfl
 i46 := by kernel_rfl
 i51 := by kernel_rfl
 i53 := by kernel_rfl
 i171 := by kernel_rfl
 i173 := by kernel_rfl
 i212 := by kernel_rfl
 i232 := by kernel_rfl
 i233 := by kernel_rfl
 m17 := by kernel_rfl
 m18 := by kernel_rfl
 m19 := by kernel_rfl }
open Go.RowKit Go.Sort Go.Lib in
theorem Tryz.strconv_Itoa (n : Int) (h0 : -9223372036854775808 ≤ n) (h1 : n ≤ 9223372036854775807) (w : World) (htab : Lib.TabIs Tryz.prog w "internal/strconv.uint64pow10" .u64 Lib.pow10Tab) :
  Calls Tryz.prog 57 #[.int .i64 n] w fun e w' => e = .returned (.string ⟨(Lib.itoa n).toArray⟩) ∧ ∃ k os, w' = grow (w.drewN k) os := Any.strconv_Itoa Tryz.laysM171 n h0 h1 w htab
def Tryz.laysC172_ren : Go.Shelf.Ren := ⟨fun | 172 => 86 | 244 => 94 | 245 => 95 | 247 => 102 | 279 => 103 | 280 => 104 | 281 => 105 | 282 => 106 | 287 => 109 | 316 => 110 | 171 => 57 | 205 => 111 | 321 => 112 | 322 => 113 | 243 => 73 | 246 => 83 | 283 => 89 | 284 => 90 | 285 => 91 | 286 => 92 | 129 => 98 | 317 => 97 | 318 => 99 | 319 => 100 | 320 => 101 | 337 => 107 | 338 => 108 | n => n, fun | 9 => 9 | 3 => 3 | 75 => 65 | 76 => 67 | 4 => 4 | 5 => 5 | 167 => 151 | 37 => 61 | 0 => 0 | 85 => 152 | 2 => 2 | 168 => 154 | 53 => 136 | 175 => 158 | 46 => 149 | 210 => 161 | 127 => 89 | 145 => 168 | 143 => 166 | 21 => 21 | 171 => 135 | 173 => 139 | 212 => 145 | 51 => 146 | 20 => 20 | 213 => 147 | 232 => 163 | 233 => 164 | 80 => 70 | n => n, fun | 15 => 2 | 16 => 3 | 17 => 0 | 18 => 4 | 19 => 5 | n => n⟩
theorem Tryz.laysC172 : Go.Proofs.LaysC.n172 Tryz.prog Tryz.laysC172_ren := {
 mixed := by kernel_rfl
 f129 := Tryz.func98.trans (congrArg some (by kernel_rfl))
 f171 := Tryz.func57.trans (congrArg some (by kernel_rfl))
 f172 := Tryz.func86.trans (congrArg some (by kernel_rfl))
 f205 := Tryz.func111.trans (congrArg some (by kernel_rfl))
 f243 := Tryz.func73.trans (congrArg some (by kernel_rfl))
 f244 := Tryz.func94.trans (congrArg some (by kernel_rfl))
 f245 := Tryz.func95.trans (congrArg some (by kernel_rfl))
 f246 := Tryz.func83.trans (congrArg some (by kernel_rfl))
 f247 := Tryz.func102.trans (congrArg some (by kernel_rfl))
 f279 := Tryz.func103.trans (congrArg some (by kernel_rfl))
 f280 := Tryz.func104.trans (congrArg some (by kernel_rfl))
 f281 := Tryz.func105.trans (congrArg some (by kernel_rfl))
 f282 := Tryz.func106.trans (congrArg some (by kernel_rfl))
 f283 := Tryz.func89.trans (congrArg some (by kernel_rfl))
 f284 := Tryz.func90.trans (congrArg some (by kernel_rfl))
 f285 := Tryz.func91.trans (congrArg some (by kernel_rfl))
 f286 := Tryz.func92.trans (congrArg some (by kernel_rfl))
 f287 := Tryz.func109.trans (congrArg some (by kernel_rfl))
 f316 := Tryz.func110.trans (congrArg some (by kernel_rfl))
 f317 := Tryz.func97.trans (congrArg some (by kernel_rfl))
 f318 := Tryz.func99.trans (congrArg some (by kernel_rfl))
 f319 := Tryz.func100.trans (congrArg some (by kernel_rfl))
 f320 := Tryz.func101.trans (congrArg some (by kernel_rfl))
 f321 := Tryz.func112.trans (congrArg some (by kernel_rfl))
 f322 := Tryz.func113.trans (congrArg some (by kernel_rfl))
 f337 := Tryz.func107.trans (congrArg some (by kernel_rfl))
 f338 := Tryz.func108.trans (congrArg some (by kernel_rfl))
 t0 := Tryz.underlying0
 a0 := Tryz.isAgg0
 z0 := Tryz.sizeOf0
 v0 := Tryz.zeroValue0
 t2 := Tryz.underlying2
 a2 := Tryz.isAgg2
 z2 := Tryz.sizeOf2
 v2 := Tryz.zeroValue2
 t3 := Tryz.underlying3
 a3 := Tryz.isAgg3
 z3 := Tryz.sizeOf3
 v3 := Tryz.zeroValue3
 t4 := Tryz.underlying4
 a4 := Tryz.isAgg4
 z4 := Tryz.sizeOf4
 v4 := Tryz.zeroValue4
 t5 := Tryz.underlying5
 a5 := Tryz.isAgg5
 z5 := Tryz.sizeOf5
 v5 := Tryz.zeroValue5
 t9 := Tryz.underlying9
 a9 := Tryz.isAgg9
 z9 := Tryz.sizeOf9
 v9 := Tryz.zeroValue9
 t20 := Tryz.underlying20
 a20 := Tryz.isAgg20
 z20 := Tryz.sizeOf20
 v20 := Tryz.zeroValue20
 t21 := Tryz.underlying21
 a21 := Tryz.isAgg21
 z21 := Tryz.sizeOf21
 v21 := Tryz.zeroValue21
 t37 := Tryz.underlying61
 a37 := Tryz.isAgg61
 z37 := Tryz.sizeOf61
 v37 := Tryz.zeroValue61
 t46 := Tryz.underlying149
 a46 := Tryz.isAgg149
 z46 := Tryz.sizeOf149
 v46 := Tryz.zeroValue149
 t51 := Tryz.underlying146
 a51 := Tryz.isAgg146
 z51 := Tryz.sizeOf146
 v51 := Tryz.zeroValue146
 t53 := Tryz.underlying136
 a53 := Tryz.isAgg136
 z53 := Tryz.sizeOf136
 v53 := Tryz.zeroValue136
 t75 := Tryz.underlying65
 a75 := Tryz.isAgg65
 z75 := Tryz.sizeOf65
 v75 := Tryz.zeroValue65
 t76 := Tryz.underlying67
 a76 := Tryz.isAgg67
 z76 := Tryz.sizeOf67
 v76 := Tryz.zeroValue67
 t85 := Tryz.underlying152
 a85 := Tryz.isAgg152
 z85 := Tryz.sizeOf152
 v85 := Tryz.zeroValue152
 t127 := Tryz.underlying89
 a127 := Tryz.isAgg89
 z127 := Tryz.sizeOf89
 v127 := Tryz.zeroValue89
 t143 := Tryz.underlying166
 a143 := Tryz.isAgg166
 z143 := Tryz.sizeOf166
 v143 := Tryz.zeroValue166
 t145 := Tryz.underlying168
 a145 := Tryz.isAgg168
 z145 := Tryz.sizeOf168
 v145 := Tryz.zeroValue168
 t167 := Tryz.underlying151
 a167 := Tryz.isAgg151
 z167 := Tryz.sizeOf151
 v167 := Tryz.zeroValue151
 t168 := Tryz.underlying154
 a168 := Tryz.isAgg154
 z168 := Tryz.sizeOf154
 v168 := Tryz.zeroValue154
 t171 := Tryz.underlying135
 a171 := Tryz.isAgg135
 z171 := Tryz.sizeOf135
 v171 := Tryz.zeroValue135
 t173 := Tryz.underlying139
 a173 := Tryz.isAgg139
 z173 := Tryz.sizeOf139
 v173 := Tryz.zeroValue139
 t175 := Tryz.underlying158
 a175 := Tryz.isAgg158
 z175 := Tryz.sizeOf158
 v175 := Tryz.zeroValue158
 t210 := Tryz.underlying161
 a210 := Tryz.isAgg161
 z210 := Tryz.sizeOf161
 v210 := Tryz.zeroValue161
 t212 := Tryz.underlying145
 a212 := Tryz.isAgg145
 z212 := Tryz.sizeOf145
 v212 := Tryz.zeroValue145
 t213 := Tryz.underlying147
 a213 := Tryz.isAgg147
 z213 := Tryz.sizeOf147
 t232 := Tryz.underlying163
 a232 := Tryz.isAgg163
 z232 := Tryz.sizeOf163
 v232 := Tryz.zeroValue163
 t233 := Tryz.underlying164
 a233 := Tryz.isAgg164
 z233 := Tryz.sizeOf164
 v233 := Tryz.zeroValue164
 g15 := by kernel_rfl
 g16 := by kernel_rfl
 g17 := by kernel_rfl
 g18 := by kernel_rfl
 g19 := by kernel_rfl
 t80 := Tryz.underlying70
 a80 := Tryz.isAgg70
 z80 := Tryz.sizeOf70
 v80 := Tryz.zeroValue70
 i0 := by kernel_rfl
 i2 := by kernel_rfl
 i3 := by kernel_rfl
 i4 := by kernel_rfl
 i5 := by kernel_rfl
 i9 := by kernel_rfl
 i20 := by kernel_rfl
 i21 := by kernel_rfl
 i37 := by kernel_rfl
 i46 := by kernel_rfl
 i51 := by kernel_rfl
 i53 := by kernel_rfl
 i75 := by kernel_rfl
 i76 := by kernel_rfl
 i80 := by kernel_rfl
 i85 := by kernel_rfl
 i127 := by kernel_rfl
 i143 := by kernel_rfl
 i145 := by kernel_rfl
 i167 := by kernel_rfl
 i168 := by kernel_rfl
 i171 := by kernel_rfl
 i173 := by kernel_rfl
 i175 := by kernel_rfl
 i210 := by kernel_rfl
 i212 := by kernel_rfl
 i232 := by kernel_rfl
 i233 := by kernel_rfl
 m15 := by kernel_rfl
 m16 := by kernel_rfl
 m17 := by kernel_rfl
 m18 := by kernel_rfl
 m19 := by kernel_rfl
 c0 := by kernel_rfl
 c2 := by kernel_rfl
 c3 := by kernel_rfl
 c4 := by kernel_rfl
 c5 := by kernel_rfl
 c9 := by kernel_rfl
 c20 := by kernel_rfl
 c21 := by kernel_rfl
 c37 := by kernel_rfl
 c46 := by kernel_rfl
 c51 := by kernel_rfl
 c53 := by kernel_rfl
 c75 := by kernel_rfl
 c76 := by kernel_rfl
 c80 := by kernel_rfl
 c85 := by kernel_rfl
 c127 := by kernel_rfl
 c143 := by kernel_rfl
 c145 := by kernel_rfl
 c167 := by kernel_rfl
 c168 := by kernel_rfl
 c171 := by kernel_rfl
 c173 := by kernel_rfl
 c175 := by kernel_rfl
 c210 := by kernel_rfl
 c212 := by kernel_rfl
 c213 := by kernel_rfl
 c232 := by kernel_rfl
 c233 := by kernel_rfl }
open Go.RowKit in
theorem Tryz.strconv_Atoi_ok (s : ByteArray) (hmax : s.size ≤ 9223372036854775806) (v : Int) (h : Lib.atoiAll s.data.toList = .ok v) (w : World) :
  Calls Tryz.prog 86 #[.string s] w fun e w' => e = .returned (.tuple #[.int .i64 v, .nilIface]) ∧ (w' = w ∨ ∃ t, w' = Lib.bytesWorld w 5 t) := Any.strconv_Atoi_ok Tryz.laysC172 s hmax v h w
open Go.RowKit in
theorem Tryz.strconv_Atoi_syntax_var (s : ByteArray) (hlim : s.size ≤ 281474976710656) (h : Lib.atoiAll s.data.toList = Lib.NumEnd.syntax) (tp : TypeId) (p : Value) (w : World) (hvar : w.var? Tryz.prog "strconv.ErrSyntax" = some #[.iface tp p]) :
  Calls Tryz.prog 86 #[.string s] w fun e w' => ∃ N, e = .returned (.tuple #[.int .i64 0, .iface 154 (.pointer (some ⟨N, 0, none⟩))]) ∧ w.heap.size ≤ N ∧ w'.heap[N]? = some (.cells #[.string ⟨#[65, 116, 111, 105]⟩, .string s, .iface tp p] 161 (0, 0)) ∧ Below w.heap.size w w' := Any.strconv_Atoi_syntax_var Tryz.laysC172 s hlim h tp p w hvar
open Go.RowKit in
theorem Tryz.strconv_Atoi_range_var (s : ByteArray) (hlim : s.size ≤ 281474976710656) (h : Lib.atoiAll s.data.toList = .range) (tp : TypeId) (p : Value) (w : World) (hvar : w.var? Tryz.prog "strconv.ErrRange" = some #[.iface tp p]) :
  Calls Tryz.prog 86 #[.string s] w fun e w' => ∃ N, e = .returned (.tuple #[.int .i64 (Lib.atoiSat s.data.toList), .iface 154 (.pointer (some ⟨N, 0, none⟩))]) ∧ w.heap.size ≤ N ∧ w'.heap[N]? = some (.cells #[.string ⟨#[65, 116, 111, 105]⟩, .string s, .iface tp p] 161 (0, 0)) ∧ Below w.heap.size w w' := Any.strconv_Atoi_range_var Tryz.laysC172 s hlim h tp p w hvar
def Tryz.lays167_ren : Go.Shelf.Ren := ⟨fun | 167 => 21 | 240 => 36 | 276 => 55 | n => n, fun | 0 => 0 | 4 => 4 | 5 => 5 | 9 => 9 | 20 => 20 | 37 => 61 | 70 => 60 | 72 => 63 | 75 => 65 | 80 => 70 | 164 => 104 | n => n, fun | n => n⟩
theorem Tryz.lays167 : Go.Proofs.Lays.n167 Tryz.prog Tryz.lays167_ren := {
 mixed := by kernel_rfl
 f167 := Tryz.func21.trans (congrArg some (by kernel_rfl))
 f240 := Tryz.func36.trans (congrArg some (by kernel_rfl))
 f276 := Tryz.func55.trans (congrArg some (by kernel_rfl))
 t0 := Tryz.underlying0
 a0 := Tryz.isAgg0
 z0 := Tryz.sizeOf0
 v0 := Tryz.zeroValue0
 t4 := Tryz.underlying4
 a4 := Tryz.isAgg4
 z4 := Tryz.sizeOf4
 v4 := Tryz.zeroValue4
 t5 := Tryz.underlying5
 a5 := Tryz.isAgg5
 z5 := Tryz.sizeOf5
 v5 := Tryz.zeroValue5
 t9 := Tryz.underlying9
 a9 := Tryz.isAgg9
 z9 := Tryz.sizeOf9
 v9 := Tryz.zeroValue9
 t20 := Tryz.underlying20
 a20 := Tryz.isAgg20
 z20 := Tryz.sizeOf20
 v20 := Tryz.zeroValue20
 t37 := Tryz.underlying61
 a37 := Tryz.isAgg61
 z37 := Tryz.sizeOf61
 v37 := Tryz.zeroValue61
 t70 := Tryz.underlying60
 a70 := Tryz.isAgg60
 z70 := Tryz.sizeOf60
 v70 := Tryz.zeroValue60
 t72 := Tryz.underlying63
 a72 := Tryz.isAgg63
 z72 := Tryz.sizeOf63
 v72 := Tryz.zeroValue63
 t75 := Tryz.underlying65
 a75 := Tryz.isAgg65
 z75 := Tryz.sizeOf65
 v75 := Tryz.zeroValue65
 t164 := Tryz.underlying104
 a164 := Tryz.isAgg104
 z164 := Tryz.sizeOf104
 v164 := Tryz.zeroValue104 }
theorem Tryz.Builder_Extra_167 : Builder.Extra Tryz.prog Tryz.lays167_ren := {
 sizeBuilder := by kernel_rfl
 liesBuilder := by kernel_rfl
 t5 := Tryz.underlying5
 a5 := Tryz.isAgg5
 z5 := Tryz.sizeOf5
 v5 := Tryz.zeroValue5
 infoByte := by kernel_rfl
 cellsByte := by kernel_rfl
 sizeByte := by kernel_rfl
 neB5 := by decide }
def Tryz.lays166_ren : Go.Shelf.Ren := ⟨fun | 166 => 22 | 240 => 36 | 276 => 55 | n => n, fun | 0 => 0 | 3 => 3 | 4 => 4 | 5 => 5 | 9 => 9 | 20 => 20 | 37 => 61 | 70 => 60 | 72 => 63 | 75 => 65 | 80 => 70 | 164 => 104 | n => n, fun | n => n⟩
theorem Tryz.lays166 : Go.Proofs.Lays.n166 Tryz.prog Tryz.lays166_ren := {
 mixed := by kernel_rfl
 f166 := Tryz.func22.trans (congrArg some (by kernel_rfl))
 f240 := Tryz.func36.trans (congrArg some (by kernel_rfl))
 f276 := Tryz.func55.trans (congrArg some (by kernel_rfl))
 t0 := Tryz.underlying0
 a0 := Tryz.isAgg0
 z0 := Tryz.sizeOf0
 v0 := Tryz.zeroValue0
 t3 := Tryz.underlying3
 a3 := Tryz.isAgg3
 z3 := Tryz.sizeOf3
 v3 := Tryz.zeroValue3
 t4 := Tryz.underlying4
 a4 := Tryz.isAgg4
 z4 := Tryz.sizeOf4
 v4 := Tryz.zeroValue4
 t9 := Tryz.underlying9
 a9 := Tryz.isAgg9
 z9 := Tryz.sizeOf9
 v9 := Tryz.zeroValue9
 t20 := Tryz.underlying20
 a20 := Tryz.isAgg20
 z20 := Tryz.sizeOf20
 v20 := Tryz.zeroValue20
 t37 := Tryz.underlying61
 a37 := Tryz.isAgg61
 z37 := Tryz.sizeOf61
 v37 := Tryz.zeroValue61
 t70 := Tryz.underlying60
 a70 := Tryz.isAgg60
 z70 := Tryz.sizeOf60
 v70 := Tryz.zeroValue60
 t72 := Tryz.underlying63
 a72 := Tryz.isAgg63
 z72 := Tryz.sizeOf63
 v72 := Tryz.zeroValue63
 t75 := Tryz.underlying65
 a75 := Tryz.isAgg65
 z75 := Tryz.sizeOf65
 v75 := Tryz.zeroValue65
 t164 := Tryz.underlying104
 a164 := Tryz.isAgg104
 z164 := Tryz.sizeOf104
 v164 := Tryz.zeroValue104 }
theorem Tryz.Builder_Extra_166 : Builder.Extra Tryz.prog Tryz.lays166_ren := {
 sizeBuilder := by kernel_rfl
 liesBuilder := by kernel_rfl
 t5 := Tryz.underlying5
 a5 := Tryz.isAgg5
 z5 := Tryz.sizeOf5
 v5 := Tryz.zeroValue5
 infoByte := by kernel_rfl
 cellsByte := by kernel_rfl
 sizeByte := by kernel_rfl
 neB5 := by decide }
open Go.RowKit in
theorem Tryz.Builder_WriteByte_k (B b : Nat) (bs : List Value) (c : Int) (w : World) (h : Lib.IsBuilderF 63 5 B b bs w) (hlen : bs.length + 1 ≤ 140737488355328) (hBw : B ≤ w.heap.size) :
  Calls Tryz.prog 21 #[.pointer (some ⟨b, 0, none⟩), .int .u8 c] w fun e w' => e = .returned .nilIface ∧ (Lib.BuilderAtF 63 5 B b (.pointer (some ⟨b, 0, none⟩)) (bs ++ [.int .u8 c]) w' ∧ Below B w w' ∧ Lib.OthersKept 5 (some b) w w') := Any.Builder_WriteByte_k Tryz.lays167 Tryz.Builder_Extra_167 B b bs c w h hlen hBw
open Go.RowKit in
theorem Tryz.Builder_WriteString_k (B b : Nat) (bs : List Value) (s : ByteArray) (w : World) (h : Lib.IsBuilderF 63 5 B b bs w) (hlen : bs.length + s.size ≤ 140737488355328) (hBw : B ≤ w.heap.size) :
  Calls Tryz.prog 22 #[.pointer (some ⟨b, 0, none⟩), .string s] w fun e w' => e = .returned (.tuple #[.int .i64 s.size, .nilIface]) ∧ (Lib.BuilderAtF 63 5 B b (.pointer (some ⟨b, 0, none⟩)) (bs ++ Lib.strCells s) w' ∧ Below B w w' ∧ Lib.OthersKept 5 (some b) w w') := Any.Builder_WriteString_k Tryz.lays166 Tryz.Builder_Extra_166 B b bs s w h hlen hBw
end Go.Proofs
namespace Go.Proofs.YtjbobecnlpiejaaGreatDoor.Q
open Go.Proofs.YtjbobecnlpiejaaGreatDoorZ
open Go.RowKit Go.Proofs.YtjbobecnlpiejaaGreatDoorW.PrintWords Go.Proofs.YtjbobecnlpiejaaGreatDoorW.PrintLast Go.Proofs.YtjbobecnlpiejaaGreatDoorW.PrintMore
attribute [local go_sem] qac qbc qhc qgc
def errW : Option Int → Value
 | none => .nilIface
 | some c => .iface 0 (.int .i64 c)
theorem qp : errW none = .nilIface := rfl
theorem qq (c : Int) : errW (some c) = .iface 0 (.int .i64 c) := rfl
def Glob (w : World) : Prop := Lib.TabIs Tryz.prog w "internal/strconv.uint64pow10" .u64 Lib.pow10Tab ∧ (∃ tp p, w.var? Tryz.prog "strconv.ErrSyntax" = some #[.iface tp p]) ∧ ∃ tp p, w.var? Tryz.prog "strconv.ErrRange" = some #[.iface tp p]
theorem var_keeps {P : Program} {w w' : World} {n : String} {cs : Array Value} (h : w.var? P n = some cs) (hb : Below w.heap.size w w') : w'.var? P n = some cs := by
 unfold World.var? at h ⊢;obtain ⟨g, hg, h⟩ := Option.bind_eq_some_iff.1 h
 have hlt : g < w.heap.size := by
  rcases Nat.lt_or_ge g w.heap.size with h1 | h1
  ·exact h1
  ·rw [Array.getElem?_eq_none h1] at h; cases h
 rw [hg];simp only [Option.bind_some];rw [hb.block g hlt];exact h
theorem Glob.below {w w' : World} (h : Glob w) (hb : Below w.heap.size w w') : Glob w' := by
 obtain ⟨h1, ⟨tp, p, h2⟩, tp', p', h3⟩ := h;exact ⟨var_keeps h1 hb, ⟨tp, p, var_keeps h2 hb⟩, tp', p', var_keeps h3 hb⟩
theorem R_empty {α : Type} (d : Kd α) (e : Nat) (W : World) (base : Nat) (hb : base ≤ W.heap.size) : d.R e (W.alloc (.cells #[] e)) base (fun _ => True) (.slice (some ⟨W.heap.size, 0, none⟩) 0 0) [] :=
 ⟨fun _ _ => trivial, [], ⟨by simp, .inr ⟨W.heap.size, 0, #[], rfl, hb, heap_alloc_new W _, by simp, by simp, by simp, by simp⟩⟩, Reps.none _ _⟩
def Bld (B : Nat) (l : List UInt8) (W : World) : Prop := Lib.IsBuilderF 63 5 B B (Lib.byteCells l) W
theorem Bld.below {B : Nat} {l : List UInt8} {W W1 : World} (h : Bld B l W) (hb : Below W.heap.size W W1) : Bld B l W1 := by
 have key : ∀ p, Lib.BuilderAtF 63 5 B B p (Lib.byteCells l) W → Lib.BuilderAtF 63 5 B B p (Lib.byteCells l) W1 := by
  rintro p ⟨hB, v, hv, hown, hne⟩;have hlt : B < W.heap.size := (Array.getElem?_eq_some_iff.1 hv).1;exact ⟨hB, v, (hb.block B hlt).trans hv, hown.kept (grown_of_below hb none) (by cases v.ownBlock <;> simp), hne⟩
 exact h.imp (key _) (key _)
theorem Bld.fresh (w : World) : Bld w.heap.size [] (w.alloc (.cells #[.pointer none, .slice none 0 0] 63)) := Lib.IsBuilderF.of (Lib.fresh_isBuilder _ _ w)
theorem Bld.byte (B : Nat) (l : List UInt8) (c : Int) (w : World) (h : Bld B l w) (h0 : 0 ≤ c) (h1 : c ≤ 255) (hlen : l.length + 1 ≤ 140737488355328) (hB : B ≤ w.heap.size) :
  Calls Tryz.prog 21 #[.pointer (some ⟨B, 0, none⟩), .int .u8 c] w fun e w' => e = .returned .nilIface ∧ Bld B (l ++ [c.toNat.toUInt8]) w' ∧ Below B w w' ∧ Lib.OthersKept 5 (some B) w w' := by
 refine (Tryz.Builder_WriteByte_k B B _ c w h (by rw [Lib.byteCells_length]; exact hlen) hB).mono ?_;rintro e w' ⟨rfl, h2, hb, ho⟩;refine ⟨rfl, .inr ?_, hb, ho⟩;rw [Lib.byteCells_append]
 have hc : ((c.toNat.toUInt8).toNat : Int) = c := by
  obtain ⟨n, rfl⟩ := Int.eq_ofNat_of_zero_le h0;simp;omega
 (have e1 : Lib.byteCells [c.toNat.toUInt8] = [.int .u8 c] := by simp only [Lib.byteCells, List.map_cons, List.map_nil, hc]);rw [e1];exact h2
theorem Bld.str (B : Nat) (l : List UInt8) (s : ByteArray) (w : World) (h : Bld B l w) (hlen : l.length + s.size ≤ 140737488355328) (hB : B ≤ w.heap.size) :
  Calls Tryz.prog 22 #[.pointer (some ⟨B, 0, none⟩), .string s] w fun e w' => e = .returned (.tuple #[.int .i64 s.size, .nilIface]) ∧ Bld B (l ++ s.data.toList) w' ∧ Below B w w' ∧ Lib.OthersKept 5 (some B) w w' := by
 refine (Tryz.Builder_WriteString_k B B _ s w h (by rw [Lib.byteCells_length]; exact hlen) hB).mono ?_;rintro e w' ⟨rfl, h2, hb, ho⟩;refine ⟨rfl, .inr ?_, hb, ho⟩;rw [Lib.byteCells_append];exact h2
theorem Bld.out (B : Nat) (l : List UInt8) (w : World) (h : Bld B l w) (hB : B ≤ w.heap.size) :
  Calls Tryz.prog 24 #[.pointer (some ⟨B, 0, none⟩)] w fun e w' => e = .returned (.string ⟨l.toArray⟩) ∧ Below B w w' := by
 refine (Tryz.Builder_String_any_k B B l w h hB).mono ?_;rintro e w' ⟨rfl, _, hb, _⟩;exact ⟨rfl, hb⟩
theorem info3 : (Tryz.prog.info? 3).map (fun i => (i.zero, i.size, i.bytes)) = some (some (.int .i64 0), 1, 8) := by kernel_rfl
theorem info4 : (Tryz.prog.info? 4).map (fun i => (i.zero, i.size, i.bytes)) = some (some (.bool false), 1, 1) := by kernel_rfl
theorem info48 : (Tryz.prog.info? 48).map (fun i => (i.zero, i.size, i.bytes)) = some (some (.agg #[(.bool false), (.bool false), (.string ⟨#[]⟩), (.string ⟨#[]⟩), (.slice none 0 0)]), 5, 64) := by kernel_rfl
theorem info53 : (Tryz.prog.info? 53).map (fun i => (i.zero, i.size, i.bytes)) = some (some (.agg #[(.int .i64 0), (.int .i64 0), (.string ⟨#[]⟩), (.string ⟨#[]⟩), (.string ⟨#[]⟩), (.slice none 0 0)]), 6, 88) := by kernel_rfl
theorem info58 : (Tryz.prog.info? 58).map (fun i => (i.zero, i.size, i.bytes)) = some (some (.agg #[(.bool false), (.bool false), (.string ⟨#[]⟩), (.string ⟨#[]⟩), (.slice none 0 0)]), 5, 64) := by kernel_rfl
theorem info59 : (Tryz.prog.info? 59).map (fun i => (i.zero, i.size, i.bytes)) = some (some (.agg #[(.string ⟨#[]⟩), (.string ⟨#[]⟩), (.bool false)]), 3, 40) := by kernel_rfl
theorem info86 : (Tryz.prog.info? 86).map (fun i => (i.zero, i.size, i.bytes)) = some (some (.agg #[(.string ⟨#[]⟩), (.string ⟨#[]⟩), (.string ⟨#[]⟩), (.slice none 0 0), (.slice none 0 0)]), 5, 96) := by kernel_rfl
structure S50 where
 f0 : ByteArray
 f1 : ByteArray
 f2 : Bool
def z50 : S50 := ⟨(⟨#[]⟩ : ByteArray), (⟨#[]⟩ : ByteArray), false⟩
def k50 : Kd S50 := Kd.iso (Kd.pair Kd.string (Kd.pair Kd.string Kd.bool)) (fun x : S50 => (x.f0, x.f1, x.f2))
theorem k50_open {w : World} {x : S50} {cs : List Value} (h : k50.K w x cs) : cs = [.string x.f0, .string x.f1, .bool x.f2] := by
 obtain ⟨_, _, rfl, rfl, ⟨_, _, rfl, rfl, rfl⟩⟩ := h;exact rfl
theorem k50_mk (w : World) (x : S50)  : k50.K w x [.string x.f0, .string x.f1, .bool x.f2] := ⟨[.string x.f0], [.string x.f1, .bool x.f2], rfl, rfl, ⟨[.string x.f1], [.bool x.f2], rfl, rfl, rfl⟩⟩
theorem k50_mkM (w : World) (base : Nat) (ok : Nat → Prop) (x : S50)  : k50.M w base ok x [.string x.f0, .string x.f1, .bool x.f2] := ⟨[.string x.f0], [.string x.f1, .bool x.f2], rfl, rfl, ⟨[.string x.f1], [.bool x.f2], rfl, rfl, rfl⟩⟩
def rd_T50 (xs : List S50) (i : Int) : S50 := xs.getD i.toNat z50
theorem at_T50 {w : World} {A : Option Addr} {n : Nat} {xs : List S50} (h : Kd.C k50 w A n xs) (i : Int) (h0 : 0 ≤ i) (h1 : i < n) : ∃ ad , A = some ad ∧ w.cell? (ad.add (i.toNat * 3)) = some (.string (rd_T50 xs i).f0) ∧ w.cell? ⟨(ad.add (i.toNat * 3)).block, (ad.add (i.toNat * 3)).off + 1, none⟩ = some (.string (rd_T50 xs i).f1) ∧ w.cell? ⟨(ad.add (i.toNat * 3)).block, (ad.add (i.toNat * 3)).off + 2, none⟩ = some (.bool (rd_T50 xs i).f2) := by
 obtain ⟨ad, c, e, _, hK, hc0⟩ := Kd.C_get h z50 i h0 h1;have hc : ∀ j u, c[j]? = some u → w.cell? (ad.add (i.toNat * 3 + j)) = some u := hc0;obtain rfl := k50_open hK;exact ⟨ad, e, hc 0 _ rfl, zz9, zz10⟩
structure S48 where
 f0 : Bool
 f1 : Bool
 f2 : ByteArray
 f3 : ByteArray
 f4 : (List S50)
def z48 : S48 := ⟨false, false, (⟨#[]⟩ : ByteArray), (⟨#[]⟩ : ByteArray), ([] : List S50)⟩
def k48 : Kd S48 := Kd.iso (Kd.pair Kd.bool (Kd.pair Kd.bool (Kd.pair Kd.string (Kd.pair Kd.string (Kd.slice 50 k50))))) (fun x : S48 => (x.f0, x.f1, x.f2, x.f3, x.f4))
theorem k48_open {w : World} {x : S48} {cs : List Value} (h : k48.K w x cs) : ∃ A4 c4, cs = [.bool x.f0, .bool x.f1, .string x.f2, .string x.f3, .slice A4 x.f4.length c4] ∧ x.f4.length ≤ c4 ∧ k50.C w A4 x.f4.length x.f4 := by
 obtain ⟨_, _, rfl, rfl, ⟨_, _, rfl, rfl, ⟨_, _, rfl, rfl, ⟨_, _, rfl, rfl, ⟨A4, c4, rfl, l4, g4⟩⟩⟩⟩⟩ := h;exact ⟨A4, c4, rfl, l4, g4⟩
theorem k48_mk (w : World) (x : S48) {A4 : Option Addr} {c4 : Nat} (l4 : x.f4.length ≤ c4) (g4 : k50.C w A4 x.f4.length x.f4) : k48.K w x [.bool x.f0, .bool x.f1, .string x.f2, .string x.f3, .slice A4 x.f4.length c4] := ⟨[.bool x.f0], [.bool x.f1, .string x.f2, .string x.f3, .slice A4 x.f4.length c4], rfl, rfl, ⟨[.bool x.f1], [.string x.f2, .string x.f3, .slice A4 x.f4.length c4], rfl, rfl, ⟨[.string x.f2], [.string x.f3, .slice A4 x.f4.length c4], rfl, rfl, ⟨[.string x.f3], [.slice A4 x.f4.length c4], rfl, rfl, ⟨A4, c4, rfl, l4, g4⟩⟩⟩⟩⟩
theorem k48_mkF (W : World) (ok : Nat → Prop) (x : S48) {A4 : Option Addr} {c4 : Nat} (l4 : x.f4.length ≤ c4) (g4 : Kd.F k50 W ok A4 x.f4.length x.f4) : Kd.FK k48 W ok x [.bool x.f0, .bool x.f1, .string x.f2, .string x.f3, .slice A4 x.f4.length c4] := fun W2 hW => k48_mk W2 x l4 (g4 W2 hW)
def qu (xs : List S48) (i : Int) : S48 := xs.getD i.toNat z48
theorem at_T48 {w : World} {A : Option Addr} {n : Nat} {xs : List S48} (h : Kd.C k48 w A n xs) (i : Int) (h0 : 0 ≤ i) (h1 : i < n) : ∃ ad A4 c4, A = some ad ∧ w.cell? (ad.add (i.toNat * 5)) = some (.bool (qu xs i).f0) ∧ w.cell? ⟨(ad.add (i.toNat * 5)).block, (ad.add (i.toNat * 5)).off + 1, none⟩ = some (.bool (qu xs i).f1) ∧ w.cell? ⟨(ad.add (i.toNat * 5)).block, (ad.add (i.toNat * 5)).off + 2, none⟩ = some (.string (qu xs i).f2) ∧ w.cell? ⟨(ad.add (i.toNat * 5)).block, (ad.add (i.toNat * 5)).off + 3, none⟩ = some (.string (qu xs i).f3) ∧ w.cell? ⟨(ad.add (i.toNat * 5)).block, (ad.add (i.toNat * 5)).off + 4, none⟩ = some (.slice A4 (qu xs i).f4.length c4) ∧ (qu xs i).f4.length ≤ c4 ∧ k50.C w A4 (qu xs i).f4.length (qu xs i).f4 := by
 obtain ⟨ad, c, e, _, hK, hc0⟩ := Kd.C_get h z48 i h0 h1;have hc : ∀ j u, c[j]? = some u → w.cell? (ad.add (i.toNat * 5 + j)) = some u := hc0;obtain ⟨A4, c4, rfl, l4, g4⟩ := k48_open hK;exact ⟨ad, A4, c4, e, hc 0 _ rfl, zz9, zz10, zz11, zz12, l4, g4⟩
structure S55 where
 f0 : ByteArray
 f1 : ByteArray
def z55 : S55 := ⟨(⟨#[]⟩ : ByteArray), (⟨#[]⟩ : ByteArray)⟩
def k55 : Kd S55 := Kd.iso (Kd.pair Kd.string Kd.string) (fun x : S55 => (x.f0, x.f1))
theorem k55_heap : Kd.Heap k55 := Kd.heap_iso _ (Kd.heap_pair Kd.heap_string Kd.heap_string)
theorem k55_open {w : World} {x : S55} {cs : List Value} (h : k55.K w x cs) : cs = [.string x.f0, .string x.f1] := by
 obtain ⟨_, _, rfl, rfl, rfl⟩ := h;exact rfl
theorem k55_mk (w : World) (x : S55)  : k55.K w x [.string x.f0, .string x.f1] := ⟨[.string x.f0], [.string x.f1], rfl, rfl, rfl⟩
theorem k55_mkM (w : World) (base : Nat) (ok : Nat → Prop) (x : S55)  : k55.M w base ok x [.string x.f0, .string x.f1] := ⟨[.string x.f0], [.string x.f1], rfl, rfl, rfl⟩
def qab (xs : List S55) (i : Int) : S55 := xs.getD i.toNat z55
theorem at_T55 {w : World} {A : Option Addr} {n : Nat} {xs : List S55} (h : Kd.C k55 w A n xs) (i : Int) (h0 : 0 ≤ i) (h1 : i < n) : ∃ ad , A = some ad ∧ w.cell? (ad.add (i.toNat * 2)) = some (.string (qab xs i).f0) ∧ w.cell? ⟨(ad.add (i.toNat * 2)).block, (ad.add (i.toNat * 2)).off + 1, none⟩ = some (.string (qab xs i).f1) := by
 obtain ⟨ad, c, e, _, hK, hc0⟩ := Kd.C_get h z55 i h0 h1;have hc : ∀ j u, c[j]? = some u → w.cell? (ad.add (i.toNat * 2 + j)) = some u := hc0;obtain rfl := k55_open hK;exact ⟨ad, e, hc 0 _ rfl, zz9⟩
structure S53 where
 f0 : Int
 f1 : Int
 f2 : ByteArray
 f3 : ByteArray
 f4 : ByteArray
 f5 : (List S55)
def z53 : S53 := ⟨(0 : Int), (0 : Int), (⟨#[]⟩ : ByteArray), (⟨#[]⟩ : ByteArray), (⟨#[]⟩ : ByteArray), ([] : List S55)⟩
def k53 : Kd S53 := Kd.iso (Kd.pair (Kd.int .i64) (Kd.pair (Kd.int .i64) (Kd.pair Kd.string (Kd.pair Kd.string (Kd.pair Kd.string (Kd.slice 55 k55)))))) (fun x : S53 => (x.f0, x.f1, x.f2, x.f3, x.f4, x.f5))
theorem k53_heap : Kd.Heap k53 := Kd.heap_iso _ (Kd.heap_pair (Kd.heap_int .i64) (Kd.heap_pair (Kd.heap_int .i64) (Kd.heap_pair Kd.heap_string (Kd.heap_pair Kd.heap_string (Kd.heap_pair Kd.heap_string (Kd.heap_slice 55 k55_heap))))))
theorem k53_open {w : World} {x : S53} {cs : List Value} (h : k53.K w x cs) : ∃ A5 c5, cs = [.int .i64 x.f0, .int .i64 x.f1, .string x.f2, .string x.f3, .string x.f4, .slice A5 x.f5.length c5] ∧ x.f5.length ≤ c5 ∧ k55.C w A5 x.f5.length x.f5 := by
 obtain ⟨_, _, rfl, rfl, ⟨_, _, rfl, rfl, ⟨_, _, rfl, rfl, ⟨_, _, rfl, rfl, ⟨_, _, rfl, rfl, ⟨A5, c5, rfl, l5, g5⟩⟩⟩⟩⟩⟩ := h;exact ⟨A5, c5, rfl, l5, g5⟩
theorem k53_mk (w : World) (x : S53) {A5 : Option Addr} {c5 : Nat} (l5 : x.f5.length ≤ c5) (g5 : k55.C w A5 x.f5.length x.f5) : k53.K w x [.int .i64 x.f0, .int .i64 x.f1, .string x.f2, .string x.f3, .string x.f4, .slice A5 x.f5.length c5] := ⟨[.int .i64 x.f0], [.int .i64 x.f1, .string x.f2, .string x.f3, .string x.f4, .slice A5 x.f5.length c5], rfl, rfl, ⟨[.int .i64 x.f1], [.string x.f2, .string x.f3, .string x.f4, .slice A5 x.f5.length c5], rfl, rfl, ⟨[.string x.f2], [.string x.f3, .string x.f4, .slice A5 x.f5.length c5], rfl, rfl, ⟨[.string x.f3], [.string x.f4, .slice A5 x.f5.length c5], rfl, rfl, ⟨[.string x.f4], [.slice A5 x.f5.length c5], rfl, rfl, ⟨A5, c5, rfl, l5, g5⟩⟩⟩⟩⟩⟩
theorem k53_openF {W : World} {ok : Nat → Prop} {x : S53} {cs : List Value} (h : Kd.FK k53 W ok x cs) : ∃ A5 c5, cs = [.int .i64 x.f0, .int .i64 x.f1, .string x.f2, .string x.f3, .string x.f4, .slice A5 x.f5.length c5] ∧ x.f5.length ≤ c5 ∧ Kd.F k55 W ok A5 x.f5.length x.f5 := by
 obtain ⟨A5, c5, rfl, l5, _⟩ := k53_open (Kd.FK_now h);exact ⟨A5, c5, rfl, l5, (fun W' hW => by obtain ⟨A5_, c5_, he, l5_, g5_⟩ := k53_open (h W' hW); injection (Option.some.inj (show some (Value.slice A5 x.f5.length c5) = some (Value.slice A5_ x.f5.length c5_) from congrArg (fun l => l[5]?) he)) with ha_ _ _; rw [ha_]; exact g5_)⟩
theorem k53_mkF (W : World) (ok : Nat → Prop) (x : S53) {A5 : Option Addr} {c5 : Nat} (l5 : x.f5.length ≤ c5) (g5 : Kd.F k55 W ok A5 x.f5.length x.f5) : Kd.FK k53 W ok x [.int .i64 x.f0, .int .i64 x.f1, .string x.f2, .string x.f3, .string x.f4, .slice A5 x.f5.length c5] := fun W2 hW => k53_mk W2 x l5 (g5 W2 hW)
def qf (xs : List S53) (i : Int) : S53 := xs.getD i.toNat z53
theorem qzc {w : World} {A : Option Addr} {n : Nat} {xs : List S53} (h : Kd.C k53 w A n xs) (i : Int) (h0 : 0 ≤ i) (h1 : i < n) : ∃ ad A5 c5, A = some ad ∧ w.cell? (ad.add (i.toNat * 6)) = some (.int .i64 (qf xs i).f0) ∧ w.cell? ⟨(ad.add (i.toNat * 6)).block, (ad.add (i.toNat * 6)).off + 1, none⟩ = some (.int .i64 (qf xs i).f1) ∧ w.cell? ⟨(ad.add (i.toNat * 6)).block, (ad.add (i.toNat * 6)).off + 2, none⟩ = some (.string (qf xs i).f2) ∧ w.cell? ⟨(ad.add (i.toNat * 6)).block, (ad.add (i.toNat * 6)).off + 3, none⟩ = some (.string (qf xs i).f3) ∧ w.cell? ⟨(ad.add (i.toNat * 6)).block, (ad.add (i.toNat * 6)).off + 4, none⟩ = some (.string (qf xs i).f4) ∧ w.cell? ⟨(ad.add (i.toNat * 6)).block, (ad.add (i.toNat * 6)).off + 5, none⟩ = some (.slice A5 (qf xs i).f5.length c5) ∧ (qf xs i).f5.length ≤ c5 ∧ k55.C w A5 (qf xs i).f5.length (qf xs i).f5 := by
 obtain ⟨ad, c, e, _, hK, hc0⟩ := Kd.C_get h z53 i h0 h1;have hc : ∀ j u, c[j]? = some u → w.cell? (ad.add (i.toNat * 6 + j)) = some u := hc0;obtain ⟨A5, c5, rfl, l5, g5⟩ := k53_open hK;exact ⟨ad, A5, c5, e, hc 0 _ rfl, zz9, zz10, zz11, zz12, by rw [← qcd _ _ 5 (by omega)]; exact hc 5 _ rfl, l5, g5⟩
structure S86 where
 f0 : ByteArray
 f1 : ByteArray
 f2 : ByteArray
 f3 : (List S55)
 f4 : (List S86)
def z86 : S86 := ⟨(⟨#[]⟩ : ByteArray), (⟨#[]⟩ : ByteArray), (⟨#[]⟩ : ByteArray), ([] : List S55), ([] : List S86)⟩
def F86 (d : Kd S86) : Kd S86 := Kd.iso (Kd.pair Kd.string (Kd.pair Kd.string (Kd.pair Kd.string (Kd.pair (Kd.slice 55 k55) (Kd.slice 86 d))))) (fun x : S86 => (x.f0, x.f1, x.f2, x.f3, x.f4))
theorem mono86 : Kd.Mono F86 := Kd.mono_iso _ (Kd.mono_pair (Kd.mono_const _) (Kd.mono_pair (Kd.mono_const _) (Kd.mono_pair (Kd.mono_const _) (Kd.mono_pair (Kd.mono_const _) (Kd.mono_slice 86 Kd.mono_id)))))
theorem sub86 : Kd.Sub F86 [55, 86] := Kd.sub_iso _ (Kd.sub_pair (Kd.sub_const _ (by decide)) (Kd.sub_pair (Kd.sub_const _ (by decide)) (Kd.sub_pair (Kd.sub_const _ (by decide)) (Kd.sub_pair (Kd.sub_const _ (by decide)) (Kd.sub_slice 86 (by decide) Kd.sub_id)))))
theorem sz86 : ∀ n, (Kd.upto F86 5 [55, 86] n).sz = 5 := Kd.upto_sz (fun _ => rfl)
def k86 : Kd S86 := Kd.fix F86 5 [55, 86] sz86 (Kd.upto_E sub86)
theorem k86_open {w : World} {x : S86} {cs : List Value} (h : k86.K w x cs) : ∃ A3 c3 A4 c4, cs = [.string x.f0, .string x.f1, .string x.f2, .slice A3 x.f3.length c3, .slice A4 x.f4.length c4] ∧ x.f3.length ≤ c3 ∧ k55.C w A3 x.f3.length x.f3 ∧ x.f4.length ≤ c4 ∧ k86.C w A4 x.f4.length x.f4 := by
 obtain ⟨n, h⟩ := h
 cases n with
 | zero => exact h.elim
 | succ n =>
  obtain ⟨_, _, rfl, rfl, ⟨_, _, rfl, rfl, ⟨_, _, rfl, rfl, ⟨_, _, rfl, ⟨A3, c3, rfl, l3, g3⟩, ⟨A4, c4, rfl, l4, g4⟩⟩⟩⟩⟩ := h;exact ⟨A3, c3, A4, c4, rfl, l3, g3, l4, Kd.fix_C g4⟩
theorem k86_mkM (w : World) (base : Nat) (ok : Nat → Prop) (x : S86) {v3 : Value} (g3 : k55.R 55 w base ok v3 x.f3) {v4 : Value} (g4 : k86.R 86 w base ok v4 x.f4) : k86.M w base ok x [.string x.f0, .string x.f1, .string x.f2, v3, v4] := by
 obtain ⟨n4, q4⟩ := Kd.fix_R_back mono86 g4;have r4 := Kd.upto_R_le mono86 sz86 (show n4 ≤ n4 by omega) q4;exact ⟨n4 + 1, ⟨[.string x.f0], [.string x.f1, .string x.f2, v3, v4], rfl, rfl, ⟨[.string x.f1], [.string x.f2, v3, v4], rfl, rfl, ⟨[.string x.f2], [v3, v4], rfl, rfl, ⟨[v3], [v4], rfl, ⟨v3, rfl, g3⟩, ⟨v4, rfl, r4⟩⟩⟩⟩⟩⟩
def rd_T86 (xs : List S86) (i : Int) : S86 := xs.getD i.toNat z86
theorem at_T86 {w : World} {A : Option Addr} {n : Nat} {xs : List S86} (h : Kd.C k86 w A n xs) (i : Int) (h0 : 0 ≤ i) (h1 : i < n) : ∃ ad A3 c3 A4 c4, A = some ad ∧ w.cell? (ad.add (i.toNat * 5)) = some (.string (rd_T86 xs i).f0) ∧ w.cell? ⟨(ad.add (i.toNat * 5)).block, (ad.add (i.toNat * 5)).off + 1, none⟩ = some (.string (rd_T86 xs i).f1) ∧ w.cell? ⟨(ad.add (i.toNat * 5)).block, (ad.add (i.toNat * 5)).off + 2, none⟩ = some (.string (rd_T86 xs i).f2) ∧ w.cell? ⟨(ad.add (i.toNat * 5)).block, (ad.add (i.toNat * 5)).off + 3, none⟩ = some (.slice A3 (rd_T86 xs i).f3.length c3) ∧ w.cell? ⟨(ad.add (i.toNat * 5)).block, (ad.add (i.toNat * 5)).off + 4, none⟩ = some (.slice A4 (rd_T86 xs i).f4.length c4) ∧ (rd_T86 xs i).f3.length ≤ c3 ∧ k55.C w A3 (rd_T86 xs i).f3.length (rd_T86 xs i).f3 ∧ (rd_T86 xs i).f4.length ≤ c4 ∧ k86.C w A4 (rd_T86 xs i).f4.length (rd_T86 xs i).f4 := by
 obtain ⟨ad, c, e, _, hK, hc0⟩ := Kd.C_get h z86 i h0 h1;have hc : ∀ j u, c[j]? = some u → w.cell? (ad.add (i.toNat * 5 + j)) = some u := hc0;obtain ⟨A3, c3, A4, c4, rfl, l3, g3, l4, g4⟩ := k86_open hK;exact ⟨ad, A3, c3, A4, c4, e, hc 0 _ rfl, zz9, zz10, zz11, zz12, l3, g3, l4, g4⟩
def rd_L13 (xs : List (List Bool)) (i : Int) : (List Bool) := xs.getD i.toNat ([] : List Bool)
theorem at_L13 {w : World} {A : Option Addr} {n : Nat} {xs : List (List Bool)} (h : Kd.C (Kd.slice 4 Kd.bool) w A n xs) (i : Int) (h0 : 0 ≤ i) (h1 : i < n) : ∃ ad A0 c0, A = some ad ∧ w.cell? (ad.add i.toNat) = some (.slice A0 (rd_L13 xs i).length c0) ∧ (rd_L13 xs i).length ≤ c0 ∧ Kd.bool.C w A0 (rd_L13 xs i).length (rd_L13 xs i) := by
 obtain ⟨ad, c, e, _, hK, hc0⟩ := Kd.C_get h ([] : List Bool) i h0 h1;have hc : ∀ j u, c[j]? = some u → w.cell? (ad.add (i.toNat * 1 + j)) = some u := hc0;obtain ⟨A0, c0, rfl, l0, g0⟩ := hK;exact ⟨ad, A0, c0, e, by have hq := hc 0 _ rfl; rwa [Nat.mul_one, Nat.add_zero] at hq, l0, g0⟩
structure S59 where
 f0 : ByteArray
 f1 : ByteArray
 f2 : Bool
def z59 : S59 := ⟨(⟨#[]⟩ : ByteArray), (⟨#[]⟩ : ByteArray), false⟩
def k59 : Kd S59 := Kd.iso (Kd.pair Kd.string (Kd.pair Kd.string Kd.bool)) (fun x : S59 => (x.f0, x.f1, x.f2))
theorem k59_open {w : World} {x : S59} {cs : List Value} (h : k59.K w x cs) : cs = [.string x.f0, .string x.f1, .bool x.f2] := by
 obtain ⟨_, _, rfl, rfl, ⟨_, _, rfl, rfl, rfl⟩⟩ := h;exact rfl
theorem k59_mkM (w : World) (base : Nat) (ok : Nat → Prop) (x : S59)  : k59.M w base ok x [.string x.f0, .string x.f1, .bool x.f2] := ⟨[.string x.f0], [.string x.f1, .bool x.f2], rfl, rfl, ⟨[.string x.f1], [.bool x.f2], rfl, rfl, rfl⟩⟩
def qdc (xs : List S59) (i : Int) : S59 := xs.getD i.toNat z59
theorem at_T59 {w : World} {A : Option Addr} {n : Nat} {xs : List S59} (h : Kd.C k59 w A n xs) (i : Int) (h0 : 0 ≤ i) (h1 : i < n) : ∃ ad , A = some ad ∧ w.cell? (ad.add (i.toNat * 3)) = some (.string (qdc xs i).f0) ∧ w.cell? ⟨(ad.add (i.toNat * 3)).block, (ad.add (i.toNat * 3)).off + 1, none⟩ = some (.string (qdc xs i).f1) ∧ w.cell? ⟨(ad.add (i.toNat * 3)).block, (ad.add (i.toNat * 3)).off + 2, none⟩ = some (.bool (qdc xs i).f2) := by
 obtain ⟨ad, c, e, _, hK, hc0⟩ := Kd.C_get h z59 i h0 h1;have hc : ∀ j u, c[j]? = some u → w.cell? (ad.add (i.toNat * 3 + j)) = some u := hc0;obtain rfl := k59_open hK;exact ⟨ad, e, hc 0 _ rfl, zz9, zz10⟩
structure S58 where
 f0 : Bool
 f1 : Bool
 f2 : ByteArray
 f3 : ByteArray
 f4 : (List S59)
def z58 : S58 := ⟨false, false, (⟨#[]⟩ : ByteArray), (⟨#[]⟩ : ByteArray), ([] : List S59)⟩
def k58 : Kd S58 := Kd.iso (Kd.pair Kd.bool (Kd.pair Kd.bool (Kd.pair Kd.string (Kd.pair Kd.string (Kd.slice 59 k59))))) (fun x : S58 => (x.f0, x.f1, x.f2, x.f3, x.f4))
theorem k58_open {w : World} {x : S58} {cs : List Value} (h : k58.K w x cs) : ∃ A4 c4, cs = [.bool x.f0, .bool x.f1, .string x.f2, .string x.f3, .slice A4 x.f4.length c4] ∧ x.f4.length ≤ c4 ∧ k59.C w A4 x.f4.length x.f4 := by
 obtain ⟨_, _, rfl, rfl, ⟨_, _, rfl, rfl, ⟨_, _, rfl, rfl, ⟨_, _, rfl, rfl, ⟨A4, c4, rfl, l4, g4⟩⟩⟩⟩⟩ := h;exact ⟨A4, c4, rfl, l4, g4⟩
theorem k58_mkM (w : World) (base : Nat) (ok : Nat → Prop) (x : S58) {v4 : Value} (g4 : k59.R 59 w base ok v4 x.f4) : k58.M w base ok x [.bool x.f0, .bool x.f1, .string x.f2, .string x.f3, v4] := ⟨[.bool x.f0], [.bool x.f1, .string x.f2, .string x.f3, v4], rfl, rfl, ⟨[.bool x.f1], [.string x.f2, .string x.f3, v4], rfl, rfl, ⟨[.string x.f2], [.string x.f3, v4], rfl, rfl, ⟨[.string x.f3], [v4], rfl, rfl, ⟨v4, rfl, g4⟩⟩⟩⟩⟩
def qg (xs : List S58) (i : Int) : S58 := xs.getD i.toNat z58
theorem at_T58 {w : World} {A : Option Addr} {n : Nat} {xs : List S58} (h : Kd.C k58 w A n xs) (i : Int) (h0 : 0 ≤ i) (h1 : i < n) : ∃ ad A4 c4, A = some ad ∧ w.cell? (ad.add (i.toNat * 5)) = some (.bool (qg xs i).f0) ∧ w.cell? ⟨(ad.add (i.toNat * 5)).block, (ad.add (i.toNat * 5)).off + 1, none⟩ = some (.bool (qg xs i).f1) ∧ w.cell? ⟨(ad.add (i.toNat * 5)).block, (ad.add (i.toNat * 5)).off + 2, none⟩ = some (.string (qg xs i).f2) ∧ w.cell? ⟨(ad.add (i.toNat * 5)).block, (ad.add (i.toNat * 5)).off + 3, none⟩ = some (.string (qg xs i).f3) ∧ w.cell? ⟨(ad.add (i.toNat * 5)).block, (ad.add (i.toNat * 5)).off + 4, none⟩ = some (.slice A4 (qg xs i).f4.length c4) ∧ (qg xs i).f4.length ≤ c4 ∧ k59.C w A4 (qg xs i).f4.length (qg xs i).f4 := by
 obtain ⟨ad, c, e, _, hK, hc0⟩ := Kd.C_get h z58 i h0 h1;have hc : ∀ j u, c[j]? = some u → w.cell? (ad.add (i.toNat * 5 + j)) = some u := hc0;obtain ⟨A4, c4, rfl, l4, g4⟩ := k58_open hK;exact ⟨ad, A4, c4, e, hc 0 _ rfl, zz9, zz10, zz11, zz12, l4, g4⟩
end Go.Proofs.YtjbobecnlpiejaaGreatDoor.Q
namespace Go.Proofs.YtjbobecnlpiejaaGreatDoor.Q.P
open Go.Proofs.YtjbobecnlpiejaaGreatDoorZ
open Go.RowKit Go.Proofs.YtjbobecnlpiejaaGreatDoorW.PrintWords Go.Proofs.YtjbobecnlpiejaaGreatDoorW.PrintLast Go.Proofs.YtjbobecnlpiejaaGreatDoorW.PrintMore
theorem cells_get {w : World} {base : Nat} {a : Addr} {n : Nat} {cs : List Value} (h : w.cells? base a n = some cs) : cs.length = n ∧ ∀ i u, cs[i]? = some u → w.cell? (a.add i) = some u := by
 obtain ⟨_, h1, h2⟩ := World.cells?_some h;refine ⟨h1, fun i u hu => ?_⟩;(have hi : i < n := by rw [← h1]; exact (List.getElem?_eq_some_iff.1 hu).1);rw [h2 i hi];exact hu
theorem list_of {α : Type} (n : Nat) {p : Nat → α → Prop} (h : ∀ i, i < n → ∃ x, p i x) : ∃ l : List α, l.length = n ∧ ∀ i x, l[i]? = some x → p i x := by
 induction n with
 | zero => exact ⟨[], rfl, fun i x hx => by simp at hx⟩
 | succ n ih =>
  obtain ⟨l, hl, hp⟩ := ih (fun i hi => h i (by omega));obtain ⟨y, hy⟩ := h n (by omega);refine ⟨l ++ [y], by simp [hl], fun i x hx => ?_⟩;rcases Nat.lt_or_ge i n with hi | hi
  ·rw [List.getElem?_append_left (by omega)] at hx;exact hp i x hx
  ·rw [List.getElem?_append_right (by omega), hl] at hx
   have hin : i = n := by
    have := (List.getElem?_eq_some_iff.1 hx).1;simp at this;omega
   subst hin;simp at hx;subst hx;exact hy
section
variable {H : Type} {enc : TypeId × Value → H} {W : World} {base : Nat} {sp : Nat → Bool} {held : Bool}
def Small (t : TypeId) (d : DataW H) : Prop := ∀ n ∈ d.weights Tryz.prog t, n ≤ 140737488351232
def Opens (enc : TypeId × Value → H) (W : World) (base : Nat) (sp : Nat → Bool) (held : Bool) {α : Type} (d : Kd α) (B : α → Prop) (t : TypeId) : Prop :=
 ∀ n cs x, DataW.trod enc Tryz.prog W base sp held n t cs = some x → Small t x.1 → ∃ a, d.K W a cs ∧ B a
theorem weights_all {e : TypeId} : ∀ {l : List (DataW H)} {d : DataW H}, d ∈ l → ∀ n ∈ d.weights Tryz.prog e, n ∈ DataW.weightsAll Tryz.prog e l
 | y :: r, d, h, n, hn => by
  rw [DataW.weightsAll, List.mem_append];rcases List.mem_cons.1 h with rfl | h
  ·exact .inl hn
  ·exact .inr (weights_all h n hn)
theorem open_rows {α : Type} (d : Kd α) {B : α → Prop} {t e : TypeId} (by_ : Nat) (ht : Tryz.prog.underlying t = some (.slice e)) (hsz : Tryz.prog.cellsOf e = d.sz) (hby : Tryz.prog.bytesOf e = by_) (hd : Opens enc W base sp held d B e) {fuel : Nat} {cs : List Value} {x : DataW H × List MemPlace}
  (h : DataW.trod enc Tryz.prog W base sp held fuel t cs = some x) (hs : Small t x.1) : ∃ A c l, cs = [.slice A l.length c] ∧ l.length ≤ c ∧ Kd.C d W A l.length l ∧ l.length * by_ ≤ 140737488351232 ∧ ∀ y ∈ l, B y := by
 rcases DataW.trod_slice ht h with ⟨rfl, _⟩ | ⟨a, len, cap, elems, rest, n, _, rfl, hx, _, hl, hm, hlen, hel, _, _⟩
 ·exact ⟨none, 0, [], rfl, Nat.le_refl _, ⟨rfl, Nat.zero_le _, fun h => absurd h (Nat.lt_irrefl 0)⟩, by simp, by simp⟩
 ·subst hx
  have hw : ∀ n ∈ (elems.length + rest.length) * by_ :: (DataW.weightsAll Tryz.prog e (elems.map (·.1)) ++ DataW.weightsAll Tryz.prog e (rest.map (·.1))), n ≤ 140737488351232 := by
   intro m hm2;apply hs;rw [DataW.weights];simp only [ht, List.length_map, hby];exact hm2
  obtain ⟨l, hll, hp⟩ := list_of (p := fun i y => (∃ c, c.length = d.sz ∧ d.K W y c ∧ ∀ j u, c[j]? = some u → W.cell? (a.add (i * d.sz + j)) = some u) ∧ B y) len (fun i hi => by
   have h1 := hel i hi;have h2 : elems[i]? = some (elems[i]'(by omega)) := List.getElem?_eq_getElem _;rw [h2] at h1;obtain ⟨c, hc, ht⟩ := Option.bind_eq_some_iff.1 h1;obtain ⟨hcl, hcc⟩ := cells_get hc;obtain ⟨y, hy, hB⟩ := hd _ _ _ ht (fun m hm2 => hw m (List.mem_cons_of_mem _ (List.mem_append_left _ (weights_all (List.mem_map_of_mem (List.getElem_mem _)) m hm2))));refine ⟨y, ⟨c, by rw [hcl, hsz], hy, fun j u hu => ?_⟩, hB⟩;have := hcc j u hu;rw [Deep.add_add, hsz] at this
   exact this)
  subst hll;refine ⟨some a, cap, l, rfl, hl, ⟨rfl, by unfold maxLen at hm; omega, fun _ => ⟨a, rfl, fun j y hy => (hp j y hy).1⟩⟩, ?_, ?_⟩
  ·have := hw _ (List.mem_cons_self ..);exact Nat.le_trans (Nat.mul_le_mul_right _ (by omega)) this
  ·intro y hy;obtain ⟨j, hj⟩ := List.getElem?_of_mem hy;exact (hp j y hj).2
theorem open_struct {t : TypeId} {fs : Array Field} (ht : Tryz.prog.underlying t = some (.struct fs)) {fuel : Nat} {cs : List Value} {x : DataW H × List MemPlace} (h : DataW.trod enc Tryz.prog W base sp held fuel t cs = some x) (hs : Small t x.1) {m : Nat} (hm : Tryz.prog.cellsOf t = m) :
  cs.length = m ∧ ∀ (i : Nat) (f : Field), fs[i]? = some f → ∀ (u : TypeId) (off : Nat), f.type = u → f.offset = off → Tryz.prog.cellsOf u = 1 → off < m → ∃ n y v, cs[off]? = some v ∧ DataW.trod enc Tryz.prog W base sp held n u [v] = some y ∧ Small u y.1 := by
 obtain ⟨xs, n, _, hxx, hl, hx, hf⟩ := DataW.trod_struct ht h;subst hxx;rw [hm] at hl;refine ⟨hl, fun i f hi u off hu ho hc hlt => ?_⟩;have h1 := hf i f hi;(have hlt2 : i < xs.length := by rw [hx]; exact (Array.getElem?_eq_some_iff.1 hi).1);rw [List.getElem?_eq_getElem hlt2, hu, ho, hc] at h1;(have hoff : off < cs.length := by omega);(have hd : (cs.drop off).take 1 = [cs[off]] := by rw [List.drop_eq_getElem_cons hoff]; rfl);rw [hd] at h1;refine ⟨_, _, _, List.getElem?_eq_getElem hoff, h1, fun m hm2 => hs m ?_⟩;rw [DataW.weights];simp only [ht];refine DataW.weights_mem_each (j := i) (t := u) (d := xs[i].1) ?_ ?_ m hm2
 ·rw [List.getElem?_map, Array.getElem?_toList, hi, ← hu];rfl
 ·rw [List.getElem?_map, List.getElem?_eq_getElem hlt2];rfl
theorem small_string {s : ByteArray} {u : TypeId} (h : Small (H := H) u (.lit (.string s.data.toList))) : s.size ≤ 140737488351232 := by
 have := h s.data.toList.length (by rw [DataW.weights]; exact List.mem_singleton.2 rfl);rw [Array.length_toList] at this;exact this
def BdCond (c : S50) : Prop := c.f0.size ≤ 140737488351232 ∧ c.f1.size ≤ 140737488351232
def BdAttr (c : S55) : Prop := c.f0.size ≤ 140737488351232 ∧ c.f1.size ≤ 140737488351232
def BdPart (p : S48) : Prop := p.f2.size ≤ 140737488351232 ∧ p.f3.size ≤ 140737488351232 ∧ p.f4.length * 40 ≤ 140737488351232 ∧ ∀ c ∈ p.f4, BdCond c
def BdRow (p : S53) : Prop := p.f2.size ≤ 140737488351232 ∧ p.f3.size ≤ 140737488351232 ∧ p.f4.size ≤ 140737488351232 ∧ p.f5.length * 32 ≤ 140737488351232 ∧ (∀ c ∈ p.f5, BdAttr c) ∧ (Lit.int .i64 p.f1).wf = true
theorem opens_Cond : Opens enc W base sp held k50 BdCond 50 := by
 intro n cs x h hs;obtain ⟨hl, hf⟩ := open_struct (m := 3) Tryz.underlying50 h hs (by kernel_rfl);obtain ⟨_, _, u0, g0, h0, s0⟩ := hf 0 _ rfl 9 0 rfl rfl (by kernel_rfl) (by decide);obtain ⟨_, _, u1, g1, h1, s1⟩ := hf 1 _ rfl 9 1 rfl rfl (by kernel_rfl) (by decide);obtain ⟨_, _, u2, g2, h2, s2⟩ := hf 2 _ rfl 4 2 rfl rfl (by kernel_rfl) (by decide);obtain ⟨x0, e0, rfl, w0⟩ := DataW.trod_string Tryz.underlying9 h0;obtain rfl := List.head_eq_of_cons_eq e0;obtain ⟨x1, e1, rfl, w1⟩ := DataW.trod_string Tryz.underlying9 h1;obtain rfl := List.head_eq_of_cons_eq e1;obtain ⟨x2, e2, rfl⟩ := DataW.trod_bool Tryz.underlying4 h2;obtain rfl := List.head_eq_of_cons_eq e2
 match cs, hl, g0, g1, g2 with
 | [v0, v1, v2], _, g0, g1, g2 =>
  simp at g0 g1 g2;subst g0 g1 g2;exact ⟨⟨x0, x1, x2⟩, k50_mk W ⟨x0, x1, x2⟩, small_string s0, small_string s1⟩
theorem opens_Attr : Opens enc W base sp held k55 BdAttr 55 := by
 intro n cs x h hs;obtain ⟨hl, hf⟩ := open_struct (m := 2) Tryz.underlying55 h hs (by kernel_rfl);obtain ⟨_, _, u0, g0, h0, s0⟩ := hf 0 _ rfl 9 0 rfl rfl (by kernel_rfl) (by decide);obtain ⟨_, _, u1, g1, h1, s1⟩ := hf 1 _ rfl 9 1 rfl rfl (by kernel_rfl) (by decide);obtain ⟨x0, e0, rfl, w0⟩ := DataW.trod_string Tryz.underlying9 h0;obtain rfl := List.head_eq_of_cons_eq e0;obtain ⟨x1, e1, rfl, w1⟩ := DataW.trod_string Tryz.underlying9 h1;obtain rfl := List.head_eq_of_cons_eq e1
 match cs, hl, g0, g1 with
 | [v0, v1], _, g0, g1 =>
  simp at g0 g1;subst g0 g1;exact ⟨⟨x0, x1⟩, k55_mk W ⟨x0, x1⟩, small_string s0, small_string s1⟩
theorem opens_Part : Opens enc W base sp held k48 BdPart 48 := by
 intro n cs x h hs;obtain ⟨hl, hf⟩ := open_struct (m := 5) Tryz.underlying48 h hs (by kernel_rfl);obtain ⟨_, _, u0, g0, h0, s0⟩ := hf 0 _ rfl 4 0 rfl rfl (by kernel_rfl) (by decide);obtain ⟨_, _, u1, g1, h1, s1⟩ := hf 1 _ rfl 4 1 rfl rfl (by kernel_rfl) (by decide);obtain ⟨_, _, u2, g2, h2, s2⟩ := hf 2 _ rfl 9 2 rfl rfl (by kernel_rfl) (by decide);obtain ⟨_, _, u3, g3, h3, s3⟩ := hf 3 _ rfl 9 3 rfl rfl (by kernel_rfl) (by decide);obtain ⟨_, _, u4, g4, h4, s4⟩ := hf 4 _ rfl 46 4 rfl rfl (by kernel_rfl) (by decide);obtain ⟨x0, e0, rfl⟩ := DataW.trod_bool Tryz.underlying4 h0;obtain rfl := List.head_eq_of_cons_eq e0;obtain ⟨x1, e1, rfl⟩ := DataW.trod_bool Tryz.underlying4 h1;obtain rfl := List.head_eq_of_cons_eq e1;obtain ⟨x2, e2, rfl, w2⟩ := DataW.trod_string Tryz.underlying9 h2;obtain rfl := List.head_eq_of_cons_eq e2;obtain ⟨x3, e3, rfl, w3⟩ := DataW.trod_string Tryz.underlying9 h3;obtain rfl := List.head_eq_of_cons_eq e3;obtain ⟨A4, c4, l4, e4, hc4, hr4, hb4, hB4⟩ := open_rows k50 40 Tryz.underlying46 (by kernel_rfl) (by kernel_rfl) opens_Cond h4 s4;obtain rfl := List.head_eq_of_cons_eq e4
 match cs, hl, g0, g1, g2, g3, g4 with
 | [v0, v1, v2, v3, v4], _, g0, g1, g2, g3, g4 =>
  simp at g0 g1 g2 g3 g4;subst g0 g1 g2 g3 g4;exact ⟨⟨x0, x1, x2, x3, l4⟩, k48_mk W ⟨x0, x1, x2, x3, l4⟩ hc4 hr4, small_string s2, small_string s3, hb4, hB4⟩
theorem opens_Row : Opens enc W base sp held k53 BdRow 53 := by
 intro n cs x h hs;obtain ⟨hl, hf⟩ := open_struct (m := 6) Tryz.underlying53 h hs (by kernel_rfl);obtain ⟨_, _, u0, g0, h0, s0⟩ := hf 0 _ rfl 3 0 rfl rfl (by kernel_rfl) (by decide);obtain ⟨_, _, u1, g1, h1, s1⟩ := hf 1 _ rfl 3 1 rfl rfl (by kernel_rfl) (by decide);obtain ⟨_, _, u2, g2, h2, s2⟩ := hf 2 _ rfl 9 2 rfl rfl (by kernel_rfl) (by decide);obtain ⟨_, _, u3, g3, h3, s3⟩ := hf 3 _ rfl 9 3 rfl rfl (by kernel_rfl) (by decide);obtain ⟨_, _, u4, g4, h4, s4⟩ := hf 4 _ rfl 9 4 rfl rfl (by kernel_rfl) (by decide);obtain ⟨_, _, u5, g5, h5, s5⟩ := hf 5 _ rfl 51 5 rfl rfl (by kernel_rfl) (by decide);obtain ⟨x0, e0, rfl, w0⟩ := DataW.trod_int Tryz.underlying3 h0;obtain rfl := List.head_eq_of_cons_eq e0;obtain ⟨x1, e1, rfl, w1⟩ := DataW.trod_int Tryz.underlying3 h1;obtain rfl := List.head_eq_of_cons_eq e1;obtain ⟨x2, e2, rfl, w2⟩ := DataW.trod_string Tryz.underlying9 h2;obtain rfl := List.head_eq_of_cons_eq e2;obtain ⟨x3, e3, rfl, w3⟩ := DataW.trod_string Tryz.underlying9 h3;obtain rfl := List.head_eq_of_cons_eq e3;obtain ⟨x4, e4, rfl, w4⟩ := DataW.trod_string Tryz.underlying9 h4;obtain rfl := List.head_eq_of_cons_eq e4;obtain ⟨A5, c5, l5, e5, hc5, hr5, hb5, hB5⟩ := open_rows k55 32 Tryz.underlying51 (by kernel_rfl) (by kernel_rfl) opens_Attr h5 s5;obtain rfl := List.head_eq_of_cons_eq e5
 match cs, hl, g0, g1, g2, g3, g4, g5 with
 | [v0, v1, v2, v3, v4, v5], _, g0, g1, g2, g3, g4, g5 =>
  simp at g0 g1 g2 g3 g4 g5;subst g0 g1 g2 g3 g4 g5;exact ⟨⟨x0, x1, x2, x3, x4, l5⟩, k53_mk W ⟨x0, x1, x2, x3, x4, l5⟩ hc5 hr5, small_string s2, small_string s3, small_string s4, hb5, hB5, w1⟩
theorem open_Parts {v : Value} {d : DataW H} {ps : List MemPlace} (h : DataW.Trod enc Tryz.prog W base sp held 22 v d ps) (hs : Small 22 d) (hv : v.cells.toList = [v]) : ∃ A c l, v = .slice A l.length c ∧ l.length ≤ c ∧ Kd.C k48 W A l.length l ∧ l.length * 64 ≤ 140737488351232 ∧ ∀ y ∈ l, BdPart y := by
 obtain ⟨fuel, hf⟩ := h;obtain ⟨A, c, l, e, hc, hr, hb, hB⟩ := open_rows k48 64 Tryz.underlying22 (by kernel_rfl) (by kernel_rfl) opens_Part hf hs;rw [hv] at e;exact ⟨A, c, l, List.head_eq_of_cons_eq e, hc, hr, hb, hB⟩
theorem open_Rows {v : Value} {d : DataW H} {ps : List MemPlace} (h : DataW.Trod enc Tryz.prog W base sp held 36 v d ps) (hs : Small 36 d) (hv : v.cells.toList = [v]) : ∃ A c l, v = .slice A l.length c ∧ l.length ≤ c ∧ Kd.C k53 W A l.length l ∧ l.length * 88 ≤ 140737488351232 ∧ ∀ y ∈ l, BdRow y := by
 obtain ⟨fuel, hf⟩ := h;obtain ⟨A, c, l, e, hc, hr, hb, hB⟩ := open_rows k53 88 Tryz.underlying36 (by kernel_rfl) (by kernel_rfl) opens_Row hf hs;rw [hv] at e;exact ⟨A, c, l, List.head_eq_of_cons_eq e, hc, hr, hb, hB⟩
theorem small_arg {ts : List TypeId} {ds : List (DataW H)} (h : (DataW.weightsEach Tryz.prog ts ds).all (· ≤ reachBytes) = true) {j : Nat} {t : TypeId} {d : DataW H} (ht : ts[j]? = some t) (hd : ds[j]? = some d) : Small t d := by
 intro n hn;have := List.all_eq_true.1 h n (DataW.weights_mem_each ht hd n hn);exact of_decide_eq_true this
end
set_option maxRecDepth 100000 in
theorem glob_of_laid {W : World} (h : laidMet Tryz.prog [("math/bits.deBruijn32tab", Rows.laid_math_bits_deBruijn32tab), ("math/bits.deBruijn64tab", Rows.laid_math_bits_deBruijn64tab), ("internal/strconv.uint64pow10", Rows.laid_internal_strconv_uint64pow10), ("strconv.ErrRange", Rows.laid_strconv_ErrRange), ("strconv.ErrSyntax", Rows.laid_strconv_ErrSyntax)] W) : Glob W := by
 have h3 := laidMet.tail (laidMet.tail h);have h4 := laidMet.tail h3;have h5 := laidMet.tail h4;(have e3 : Rows.laid_internal_strconv_uint64pow10 (H := Unit) = Lib.tabData .u64 Lib.pow10Tab := by kernel_rfl);rw [e3] at h3;have star : ("*errors.errorString" : String) = "*" ++ "errors.errorString" := by decide +kernel
 have hrow : ∀ u, Tryz.prog.typeName? 3 u = some "*errors.errorString" → u = 166 := fun u hu =>
  typeName_ptr_named (nm := "errors.errorString") (by rw [← star]; kernel_rfl) (by kernel_rfl) (by decide +kernel) u (by rw [← star]; exact hu)
 refine ⟨Lib.tabIs_of_head (g := 0) (t := 145) (e := 136) (n := 20) (by kernel_rfl) (by kernel_rfl) (by kernel_rfl) (by kernel_rfl) (by kernel_rfl) (by kernel_rfl) h3, ?_, ?_⟩
 ·obtain ⟨a, s, hv, _⟩ := laid_sentinel (g := 2) h5 (by kernel_rfl) rfl Tryz.underlying65 hrow Tryz.underlying166 Tryz.underlying168 rfl rfl Tryz.underlying9 (by kernel_rfl) (by kernel_rfl);exact ⟨_, _, hv⟩
 ·obtain ⟨a, s, hv, _⟩ := laid_sentinel (g := 3) h4 (by kernel_rfl) rfl Tryz.underlying65 hrow Tryz.underlying166 Tryz.underlying168 rfl rfl Tryz.underlying9 (by kernel_rfl) (by kernel_rfl);exact ⟨_, _, hv⟩
theorem own : ownKnob Tryz.prog.godebug = none := by kernel_rfl
theorem laidOut : laidOutB Tryz.prog = true := by kernel_rfl
end Go.Proofs.YtjbobecnlpiejaaGreatDoor.Q.P
namespace Go.Proofs.YtjbobecnlpiejaaGreatDoor.Q
open Go.Proofs.YtjbobecnlpiejaaGreatDoorZ
open Go.RowKit Go.Proofs.YtjbobecnlpiejaaGreatDoorW.PrintWords Go.Proofs.YtjbobecnlpiejaaGreatDoorW.PrintLast Go.Proofs.YtjbobecnlpiejaaGreatDoorW.PrintMore
attribute [local go_sem] qac qbc qhc qgc
def chars_small.f (a0 : Int) : Option (Bool) := if a0 ≥ 97 then (some (decide (a0 ≤ 122))) else (some false)
set_option maxHeartbeats 8000000 in
set_option maxRecDepth 100000 in
theorem chars_small.calls (a0 : Int) (r : Bool) (w : World) (h : chars_small.f a0 = some r) :
  Calls Tryz.prog 74 #[.int .u8 a0] w fun e w' => e = .returned (.bool r) ∧ Drawn0 w w' := by
 have H : (if a0 ≥ 97 then (some (decide (a0 ≤ 122))) else (some false)) = some r := h;clear h;by_cases c2 : a0 ≥ 97
 ·rw [if_pos c2] at H;have c2b0 : decide (97 ≤ a0) = true := decide_eq_true c2;clear c2;obtain rfl := Option.some.inj H;(go_enter Tryz.func74, Tryz.ntmps74);go_wp2;go_ret;exact ⟨zz8, zz15⟩
 ·rw [if_neg c2] at H;have c2b0 : decide (97 ≤ a0) = false := decide_eq_false c2;clear c2;obtain rfl := Option.some.inj H;(go_enter Tryz.func74, Tryz.ntmps74);go_wp2;go_ret;exact ⟨zz8, zz15⟩
def strings_IndexByte.f (a0 : ByteArray) (a1 : Int) : Option Int := some (Lib.indexByte a0.data.toList a1.toNat.toUInt8)
theorem strings_IndexByte.calls (a0 : ByteArray) (a1 : Int) (r : Int) (w : World) (h : strings_IndexByte.f a0 a1 = some r) :
  Calls Tryz.prog 75 #[.string a0, .int .u8 a1] w fun e w' => e = .returned (.int .i64 r) ∧ Drawn0 w w' := by
 obtain rfl := Option.some.inj h;refine (Tryz.strings_IndexByte a0 a1 w).mono ?_;rintro e w' ⟨rfl, rfl⟩;exact ⟨rfl, Drawn0.refl _⟩
mutual
def qlb.j0 : Nat → ByteArray → ByteArray → Bool → Option (Bool)
 | 0, _, _, _ => none
 | k + 1, x0, x1, x19 => if x19 = true then (some false) else (qlb.l0 k x0 x1 (x0.size : Int) 0)
def qlb.l0 : Nat → ByteArray → ByteArray → Int → Int → Option (Bool)
 | 0, _, _, _, _ => none
 | k + 1, x0, x1, x21, x22 => if x22 < x21 then (if 0 ≤ x22 then (if x22 < (x0.size : Int) then ((chars_small.f (bt x0 x22)).bind fun t110 => (if t110 = true then (qlb.l0 k x0 x1 x21 (wrap64 (x22 + 1))) else (if (bt x0 x22) < 48 then ((strings_IndexByte.f x1 (bt x0 x22)).bind fun t111 => (if t111 < 0 then (some false) else (qlb.l0 k x0 x1 x21 (wrap64 (x22 + 1))))) else (if (bt x0 x22) > 57 then ((strings_IndexByte.f x1 (bt x0 x22)).bind fun t112 => (if t112 < 0 then (some false) else (qlb.l0 k x0 x1 x21 (wrap64 (x22 + 1))))) else (qlb.l0 k x0 x1 x21 (wrap64 (x22 + 1))))))) else (none)) else (none)) else (some true)
end
def qlb.f (k : Nat) (a0 : ByteArray) (a1 : ByteArray) : Option (Bool) := if a0.toList = ([] : List UInt8) then (qlb.j0 k a0 a1 true) else (if (a0.size : Int) > 32 then (qlb.j0 k a0 a1 true) else (if 0 < (a0.size : Int) then ((chars_small.f (bt a0 0)).bind fun t109 => (qlb.j0 k a0 a1 (!t109))) else (none)))
theorem qlb.mono_l : ∀ k, (∀ y0 y1 y2, LeO (qlb.j0 k y0 y1 y2) (qlb.j0 (k + 1) y0 y1 y2)) ∧ (∀ y0 y1 y2 y3, LeO (qlb.l0 k y0 y1 y2 y3) (qlb.l0 (k + 1) y0 y1 y2 y3))
 | 0 => ⟨fun _ _ _ r h => by simp [qlb.j0] at h, fun _ _ _ _ r h => by simp [qlb.l0] at h⟩
 | k + 1 => by
  obtain ⟨ih0, ih1⟩ := qlb.mono_l k;refine ⟨?_, ?_⟩
  ·intro y0 y1 y2;unfold qlb.j0
   repeat' first
   | (with_reducible exact ih0 _ _ _)
   | (with_reducible exact ih1 _ _ _ _)
   | (with_reducible exact LeO.refl _)
   | (with_reducible exact LeO.none _)
   | (with_reducible refine LeO.ite ?_ ?_)
   | (with_reducible refine LeO.bind ?_ (fun _ => ?_))
   | exact ih0 _ _ _
   | exact ih1 _ _ _ _
   | exact LeO.none _
   | refine LeO.ite ?_ ?_
   | refine LeO.bind ?_ (fun _ => ?_)
  ·intro y0 y1 y2 y3;unfold qlb.l0
   repeat' first
   | (with_reducible exact ih0 _ _ _)
   | (with_reducible exact ih1 _ _ _ _)
   | (with_reducible exact LeO.refl _)
   | (with_reducible exact LeO.none _)
   | (with_reducible refine LeO.ite ?_ ?_)
   | (with_reducible refine LeO.bind ?_ (fun _ => ?_))
   | exact ih0 _ _ _
   | exact ih1 _ _ _ _
   | exact LeO.none _
   | refine LeO.ite ?_ ?_
   | refine LeO.bind ?_ (fun _ => ?_)
theorem qlb.mono : ∀ a0 a1 k, LeO (qlb.f k a0 a1) (qlb.f (k + 1) a0 a1) := by
 intro a0 a1 k;obtain ⟨ih0, ih1⟩ := qlb.mono_l k;unfold qlb.f
 repeat' first
   | (with_reducible exact ih0 _ _ _)
   | (with_reducible exact ih1 _ _ _ _)
   | (with_reducible exact LeO.refl _)
   | (with_reducible exact LeO.none _)
   | (with_reducible refine LeO.ite ?_ ?_)
   | (with_reducible refine LeO.bind ?_ (fun _ => ?_))
   | exact ih0 _ _ _
   | exact ih1 _ _ _ _
   | exact LeO.none _
   | refine LeO.ite ?_ ?_
   | refine LeO.bind ?_ (fun _ => ?_)
set_option maxHeartbeats 8000000 in
set_option maxRecDepth 100000 in
theorem qlb.calls (k : Nat) (a0 : ByteArray) (a1 : ByteArray) (r : Bool) (w : World) (h : qlb.f k a0 a1 = some r) :
  Calls Tryz.prog 58 #[.string a0, .string a1] w fun e w' => e = .returned (.bool r) ∧ Drawn0 w w' := by
 have H : (if a0.toList = ([] : List UInt8) then (qlb.j0 k a0 a1 true) else (if (a0.size : Int) > 32 then (qlb.j0 k a0 a1 true) else (if 0 < (a0.size : Int) then ((chars_small.f (bt a0 0)).bind fun t109 => (qlb.j0 k a0 a1 (!t109))) else (none)))) = some r := h;clear h;have HC3 := qa.mk H;clear H;(go_enter Tryz.func58, Tryz.ntmps58);go_upto_region 1 with (fail)
 go_cut [19] (fun v19 wc => ∃ (kq : Nat) (x19_2 : Bool), v19 = .bool x19_2 ∧ qa (qlb.j0 kq a0 a1 x19_2 = some r) ∧ qa (kq ≤ k) ∧ Drawn0 w wc)
 case first =>
  have H := HC3.out;clear HC3;by_cases c4 : a0.toList = ([] : List UInt8)
  ·rw [if_pos c4] at H;have c4b0 : (a0.toList == ([] : List UInt8)) = true := beq_iff_eq.mpr c4;have c4b1 : (a0.toList != ([] : List UInt8)) = false := bne_eq_false_iff_eq.mpr c4
   (try (have c4b2 : List.isEmpty (a0.toList) = true := by simpa using c4))
   clear c4
   (first | rw [c4b0] | (simp only [i64_w, i32_w]; rw [c4b0]) | rw [c4b2] | skip)
   have H' := qa.mk H;clear H;go_wp2;go_meet
   case rel => exact ⟨_, (true), zz8, H', ⟨zz4⟩, zz15⟩
  ·rw [if_neg c4] at H;have c4b0 : (a0.toList == ([] : List UInt8)) = false := beq_eq_false_iff_ne.mpr c4;have c4b1 : (a0.toList != ([] : List UInt8)) = true := bne_iff_ne.mpr c4
   (try (have c4b2 : List.isEmpty (a0.toList) = false := by simpa using c4))
   (first | rw [c4b0] | (simp only [i64_w, i32_w]; rw [c4b0]) | rw [c4b2] | skip)
   by_cases c5 : (a0.size : Int) > 32
   ·rw [if_pos c5] at H;have c5b0 : decide (32 < (a0.size : Int)) = true := decide_eq_true c5;have c5b1 : decide (32 < a0.size) = true := decide_eq_true (by omega);clear c5;have H' := qa.mk H;clear H;go_wp2;go_meet
    case rel => exact ⟨_, (true), zz8, H', ⟨zz4⟩, zz15⟩
   ·rw [if_neg c5] at H;have c5b0 : decide (32 < (a0.size : Int)) = false := decide_eq_false c5;have c5b1 : decide (32 < a0.size) = false := decide_eq_false (by omega);clear c5;by_cases c6 : 0 < (a0.size : Int)
    ·rw [if_pos c6] at H;have c6b0 : decide (0 < (a0.size : Int)) = true := decide_eq_true c6;have c6b1 : decide (0 < a0.size) = true := decide_eq_true (by omega);clear c6;replace H := Option.bind_eq_some_iff.mp H;obtain ⟨t109, A80, H⟩ := H;replace H : (qlb.j0 k a0 a1 (!t109)) = some r := H;have A8 := qa.mk A80;clear A80;have H' := qa.mk H;clear H;have p7 : 0 ≤ (0 : Int) := (by omega);have q7 : 0 < a0.size := (by have : (0 : Int) < (a0.size : Int) := of_decide_eq_true zz13; omega);have hx7 : ∀ h : 0 < a0.size, ((a0[0]'h).toNat : Int) = bt a0 0 := bt_at a0 0;clear p7;have qi7 : (0 < (a0.size : Int)) = True := eq_true (of_decide_eq_true zz13);replace q7 := eq_true q7;(go_wp2_with (first | (go_at_call 74; (with_reducible refine (chars_small.calls (bt a0 0) t109 _ A8.out).mono ?_); rintro e w' ⟨rfl, ⟨nd, rfl⟩⟩)));go_meet
     case rel => exact ⟨_, (!t109), zz8, H', ⟨zz4⟩, zz15⟩
    ·rw [if_neg c6] at H;exact absurd H (by simp)
 case rest =>
  clear HC3;obtain ⟨kq, x19_2, rfl, HA, HJ2, ⟨mc2, rfl⟩⟩ := hcut
  cases kq with
  | zero => exact absurd HA.out (by simp [qlb.j0])
  | succ kj2 =>
   have H := HA.out;clear HA;simp only [qlb.j0] at H;by_cases c9 : x19_2 = true
   ·subst c9;(have H1 : (some false) = some r := by rw [if_pos rfl] at H; exact H);clear H;have H := H1;clear H1;obtain rfl := Option.some.inj H;go_wp2;go_ret;exact ⟨zz8, zz15⟩
   ·replace c9 := Bool.eq_false_iff.mpr c9;subst c9;(have H1 : (qlb.l0 kj2 a0 a1 (a0.size : Int) 0) = some r := by rw [if_neg (show ¬ (false = true) by decide)] at H; exact H);clear H;have H := H1;clear H1;have H' := qa.mk H;clear H;go_wp2
    go_loopg [22] kj2 (fun kq v22 w' => ∃ (x22_2 : Int), v22 = .int .i64 x22_2 ∧ qa (qlb.l0 kq a0 a1 (a0.size : Int) x22_2 = some r) ∧ qa (kq ≤ kj2) ∧ Drawn0 w w')
    case atStart => exact ⟨(0), zz8, H', ⟨Nat.le_refl _⟩, zz15⟩
    case round =>
     clear H';obtain ⟨x22_2, rfl, HA, HK2, ⟨m2, rfl⟩⟩ := hrel
     cases gk with
     | zero => exact absurd HA.out (by simp [qlb.l0])
     | succ k2 =>
      have H := HA.out;clear HA;simp only [qlb.l0] at H;by_cases c10 : x22_2 < (a0.size : Int)
      ·rw [if_pos c10] at H;have c10b0 : decide (x22_2 < (a0.size : Int)) = true := decide_eq_true c10;clear c10;by_cases c11 : 0 ≤ x22_2
       ·rw [if_pos c11] at H;have c11b0 : decide (0 ≤ x22_2) = true := decide_eq_true c11;clear c11;by_cases c12 : x22_2 < (a0.size : Int)
        ·rw [if_pos c12] at H;have c12b0 : decide (x22_2 < (a0.size : Int)) = true := decide_eq_true c12;clear c12;replace H := Option.bind_eq_some_iff.mp H;obtain ⟨t110, A140, H⟩ := H;replace H : (if t110 = true then (qlb.l0 k2 a0 a1 (a0.size : Int) (wrap64 (x22_2 + 1))) else (if (bt a0 x22_2) < 48 then ((strings_IndexByte.f a1 (bt a0 x22_2)).bind fun t111 => (if t111 < 0 then (some false) else (qlb.l0 k2 a0 a1 (a0.size : Int) (wrap64 (x22_2 + 1))))) else (if (bt a0 x22_2) > 57 then ((strings_IndexByte.f a1 (bt a0 x22_2)).bind fun t112 => (if t112 < 0 then (some false) else (qlb.l0 k2 a0 a1 (a0.size : Int) (wrap64 (x22_2 + 1))))) else (qlb.l0 k2 a0 a1 (a0.size : Int) (wrap64 (x22_2 + 1)))))) = some r := H;have A14 := qa.mk A140;clear A140;by_cases c15 : t110 = true
         ·subst c15;(have H1 : (qlb.l0 k2 a0 a1 (a0.size : Int) (wrap64 (x22_2 + 1))) = some r := by rw [if_pos rfl] at H; exact H);clear H;have H := H1;clear H1;have H' := qa.mk H;clear H;have p13 : 0 ≤ (x22_2 : Int) := of_decide_eq_true zz13;have q13 : x22_2 < (a0.size : Int) := of_decide_eq_true zz13;have hx13 := bt_at a0 x22_2;replace p13 := eq_true p13;replace q13 := eq_true q13;(go_wp2_with (first | ((with_reducible refine qv (f := 74) rfl ?_); refine qpb (some 29) rfl rfl Tryz.func74 (by kernel_rfl) rfl #[.int .u8 (bt a0 x22_2)] rfl zz87 ?_; (with_reducible refine (chars_small.calls (bt a0 x22_2) true _ A14.out).mono ?_); rintro e w' ⟨rfl, ⟨nd, rfl⟩⟩; refine ⟨_, rfl, ?_⟩)));go_roundg k2
          case measure => have := HJ2.out; have := HK2.out; omega
          case rel => exact ⟨(wrap64 (x22_2 + 1)), zz8, H', ⟨zz5⟩, zz15⟩
         ·replace c15 := Bool.eq_false_iff.mpr c15;subst c15;(have H1 : (if (bt a0 x22_2) < 48 then ((strings_IndexByte.f a1 (bt a0 x22_2)).bind fun t111 => (if t111 < 0 then (some false) else (qlb.l0 k2 a0 a1 (a0.size : Int) (wrap64 (x22_2 + 1))))) else (if (bt a0 x22_2) > 57 then ((strings_IndexByte.f a1 (bt a0 x22_2)).bind fun t112 => (if t112 < 0 then (some false) else (qlb.l0 k2 a0 a1 (a0.size : Int) (wrap64 (x22_2 + 1))))) else (qlb.l0 k2 a0 a1 (a0.size : Int) (wrap64 (x22_2 + 1))))) = some r := by rw [if_neg (show ¬ (false = true) by decide)] at H; exact H);clear H;have H := H1;clear H1;by_cases c16 : (bt a0 x22_2) < 48
          ·rw [if_pos c16] at H;have c16b0 : decide ((bt a0 x22_2) < 48) = true := decide_eq_true c16;clear c16;replace H := Option.bind_eq_some_iff.mp H;obtain ⟨t111, A170, H⟩ := H;replace H : (if t111 < 0 then (some false) else (qlb.l0 k2 a0 a1 (a0.size : Int) (wrap64 (x22_2 + 1)))) = some r := H;have A17 := qa.mk A170;clear A170;by_cases c18 : t111 < 0
           ·rw [if_pos c18] at H;have c18b0 : decide (t111 < 0) = true := decide_eq_true c18;clear c18;obtain rfl := Option.some.inj H;have p13 : 0 ≤ (x22_2 : Int) := of_decide_eq_true zz13;have q13 : x22_2 < (a0.size : Int) := of_decide_eq_true zz13;have hx13 := bt_at a0 x22_2;replace p13 := eq_true p13;replace q13 := eq_true q13;(go_wp2_with (first | ((with_reducible refine qv (f := 74) rfl ?_); refine qpb (some 29) rfl rfl Tryz.func74 (by kernel_rfl) rfl #[.int .u8 (bt a0 x22_2)] rfl zz87 ?_; (with_reducible refine (chars_small.calls (bt a0 x22_2) false _ A14.out).mono ?_); rintro e w' ⟨rfl, ⟨nd, rfl⟩⟩; refine ⟨_, rfl, ?_⟩) | (go_at_call 75; (with_reducible refine (strings_IndexByte.calls a1 (bt a0 x22_2) t111 _ A17.out).mono ?_); rintro e w' ⟨rfl, ⟨nd, rfl⟩⟩)));go_ret;exact ⟨zz8, zz15⟩
           ·rw [if_neg c18] at H;have c18b0 : decide (t111 < 0) = false := decide_eq_false c18;clear c18;have H' := qa.mk H;clear H;have p13 : 0 ≤ (x22_2 : Int) := of_decide_eq_true zz13;have q13 : x22_2 < (a0.size : Int) := of_decide_eq_true zz13;have hx13 := bt_at a0 x22_2;replace p13 := eq_true p13;replace q13 := eq_true q13;(go_wp2_with (first | ((with_reducible refine qv (f := 74) rfl ?_); refine qpb (some 29) rfl rfl Tryz.func74 (by kernel_rfl) rfl #[.int .u8 (bt a0 x22_2)] rfl zz87 ?_; (with_reducible refine (chars_small.calls (bt a0 x22_2) false _ A14.out).mono ?_); rintro e w' ⟨rfl, ⟨nd, rfl⟩⟩; refine ⟨_, rfl, ?_⟩) | (go_at_call 75; (with_reducible refine (strings_IndexByte.calls a1 (bt a0 x22_2) t111 _ A17.out).mono ?_); rintro e w' ⟨rfl, ⟨nd, rfl⟩⟩)));go_roundg k2
            case measure => have := HJ2.out; have := HK2.out; omega
            case rel => exact ⟨(wrap64 (x22_2 + 1)), zz8, H', ⟨zz5⟩, zz15⟩
          ·rw [if_neg c16] at H;have c16b0 : decide ((bt a0 x22_2) < 48) = false := decide_eq_false c16;clear c16;by_cases c19 : (bt a0 x22_2) > 57
           ·rw [if_pos c19] at H;have c19b0 : decide (57 < (bt a0 x22_2)) = true := decide_eq_true c19;clear c19;replace H := Option.bind_eq_some_iff.mp H;obtain ⟨t112, A200, H⟩ := H;replace H : (if t112 < 0 then (some false) else (qlb.l0 k2 a0 a1 (a0.size : Int) (wrap64 (x22_2 + 1)))) = some r := H;have A20 := qa.mk A200;clear A200;by_cases c21 : t112 < 0
            ·rw [if_pos c21] at H;have c21b0 : decide (t112 < 0) = true := decide_eq_true c21;clear c21;obtain rfl := Option.some.inj H;have p13 : 0 ≤ (x22_2 : Int) := of_decide_eq_true zz13;have q13 : x22_2 < (a0.size : Int) := of_decide_eq_true zz13;have hx13 := bt_at a0 x22_2;replace p13 := eq_true p13;replace q13 := eq_true q13;(go_wp2_with (first | ((with_reducible refine qv (f := 74) rfl ?_); refine qpb (some 29) rfl rfl Tryz.func74 (by kernel_rfl) rfl #[.int .u8 (bt a0 x22_2)] rfl zz87 ?_; (with_reducible refine (chars_small.calls (bt a0 x22_2) false _ A14.out).mono ?_); rintro e w' ⟨rfl, ⟨nd, rfl⟩⟩; refine ⟨_, rfl, ?_⟩) | (go_at_call 75; (with_reducible refine (strings_IndexByte.calls a1 (bt a0 x22_2) t112 _ A20.out).mono ?_); rintro e w' ⟨rfl, ⟨nd, rfl⟩⟩)));go_ret;exact ⟨zz8, zz15⟩
            ·rw [if_neg c21] at H;have c21b0 : decide (t112 < 0) = false := decide_eq_false c21;clear c21;have H' := qa.mk H;clear H;have p13 : 0 ≤ (x22_2 : Int) := of_decide_eq_true zz13;have q13 : x22_2 < (a0.size : Int) := of_decide_eq_true zz13;have hx13 := bt_at a0 x22_2;replace p13 := eq_true p13;replace q13 := eq_true q13;(go_wp2_with (first | ((with_reducible refine qv (f := 74) rfl ?_); refine qpb (some 29) rfl rfl Tryz.func74 (by kernel_rfl) rfl #[.int .u8 (bt a0 x22_2)] rfl zz87 ?_; (with_reducible refine (chars_small.calls (bt a0 x22_2) false _ A14.out).mono ?_); rintro e w' ⟨rfl, ⟨nd, rfl⟩⟩; refine ⟨_, rfl, ?_⟩) | (go_at_call 75; (with_reducible refine (strings_IndexByte.calls a1 (bt a0 x22_2) t112 _ A20.out).mono ?_); rintro e w' ⟨rfl, ⟨nd, rfl⟩⟩)));go_roundg k2
             case measure => have := HJ2.out; have := HK2.out; omega
             case rel => exact ⟨(wrap64 (x22_2 + 1)), zz8, H', ⟨zz5⟩, zz15⟩
           ·rw [if_neg c19] at H;have c19b0 : decide (57 < (bt a0 x22_2)) = false := decide_eq_false c19;clear c19;have H' := qa.mk H;clear H;have p13 : 0 ≤ (x22_2 : Int) := of_decide_eq_true zz13;have q13 : x22_2 < (a0.size : Int) := of_decide_eq_true zz13;have hx13 := bt_at a0 x22_2;replace p13 := eq_true p13;replace q13 := eq_true q13;(go_wp2_with (first | ((with_reducible refine qv (f := 74) rfl ?_); refine qpb (some 29) rfl rfl Tryz.func74 (by kernel_rfl) rfl #[.int .u8 (bt a0 x22_2)] rfl zz87 ?_; (with_reducible refine (chars_small.calls (bt a0 x22_2) false _ A14.out).mono ?_); rintro e w' ⟨rfl, ⟨nd, rfl⟩⟩; refine ⟨_, rfl, ?_⟩)));go_roundg k2
            case measure => have := HJ2.out; have := HK2.out; omega
            case rel => exact ⟨(wrap64 (x22_2 + 1)), zz8, H', ⟨zz5⟩, zz15⟩
        ·rw [if_neg c12] at H;exact absurd H (by simp)
       ·rw [if_neg c11] at H;exact absurd H (by simp)
      ·rw [if_neg c10] at H;have c10b0 : decide (x22_2 < (a0.size : Int)) = false := decide_eq_false c10;clear c10;obtain rfl := Option.some.inj H;go_wp2;go_ret;exact ⟨zz8, zz15⟩
def qed.f (k : Nat) (a0 : ByteArray) : Option (Bool) := (qlb.f k a0 (⟨#[45]⟩ : ByteArray)).bind fun t113 => (some t113)
theorem qed.mono : ∀ a0 k, LeO (qed.f k a0) (qed.f (k + 1) a0) := by
 intro a0 k;unfold qed.f
 repeat' first
   | (with_reducible exact qlb.mono _ _ _)
   | (with_reducible exact LeO.refl _)
   | (with_reducible exact LeO.none _)
   | (with_reducible refine LeO.ite ?_ ?_)
   | (with_reducible refine LeO.bind ?_ (fun _ => ?_))
   | exact qlb.mono _ _ _
   | exact LeO.none _
   | refine LeO.ite ?_ ?_
   | refine LeO.bind ?_ (fun _ => ?_)
set_option maxHeartbeats 8000000 in
set_option maxRecDepth 100000 in
theorem qed.calls (k : Nat) (a0 : ByteArray) (r : Bool) (w : World) (h : qed.f k a0 = some r) :
  Calls Tryz.prog 39 #[.string a0] w fun e w' => e = .returned (.bool r) ∧ Drawn0 w w' := by
 have H : ((qlb.f k a0 (⟨#[45]⟩ : ByteArray)).bind fun t113 => (some t113)) = some r := h;clear h;replace H := Option.bind_eq_some_iff.mp H;obtain ⟨t113, A20, H⟩ := H;replace H : (some t113) = some r := H;have A2 := qa.mk A20;clear A20;obtain rfl := Option.some.inj H;(go_enter Tryz.func39, Tryz.ntmps39);(go_wp2_with (first | ((with_reducible refine qv (f := 58) rfl ?_); refine qpb (some 4) rfl rfl Tryz.func58 (by kernel_rfl) rfl #[.string a0, .string (⟨#[45]⟩ : ByteArray)] rfl zz87 ?_; (with_reducible refine (qlb.calls k a0 (⟨#[45]⟩ : ByteArray) t113 _ A2.out).mono ?_); rintro e w' ⟨rfl, ⟨nd, rfl⟩⟩; refine ⟨_, rfl, ?_⟩)));go_ret;exact ⟨zz8, zz15⟩
def qcc.f (a0 : ByteArray) : Option (Bool) := some (decide ((a0.size : Int) ≤ 65536))
set_option maxHeartbeats 8000000 in
set_option maxRecDepth 100000 in
theorem qcc.calls (a0 : ByteArray) (r : Bool) (w : World) (h : qcc.f a0 = some r) :
  Calls Tryz.prog 40 #[.string a0] w fun e w' => e = .returned (.bool r) ∧ Drawn0 w w' := by
 have H : (some (decide ((a0.size : Int) ≤ 65536))) = some r := h;clear h;obtain rfl := Option.some.inj H;(go_enter Tryz.func40, Tryz.ntmps40);go_wp2;go_ret;exact ⟨zz8, zz15⟩
def qxc.f (k : Nat) (a0 : ByteArray) : Option (Bool) := (qlb.f k a0 (⟨#[45, 58, 46]⟩ : ByteArray)).bind fun t114 => (some t114)
theorem qxc.mono : ∀ a0 k, LeO (qxc.f k a0) (qxc.f (k + 1) a0) := by
 intro a0 k;unfold qxc.f
 repeat' first
   | (with_reducible exact qlb.mono _ _ _)
   | (with_reducible exact LeO.refl _)
   | (with_reducible exact LeO.none _)
   | (with_reducible refine LeO.ite ?_ ?_)
   | (with_reducible refine LeO.bind ?_ (fun _ => ?_))
   | exact qlb.mono _ _ _
   | exact LeO.none _
   | refine LeO.ite ?_ ?_
   | refine LeO.bind ?_ (fun _ => ?_)
set_option maxHeartbeats 8000000 in
set_option maxRecDepth 100000 in
theorem qxc.calls (k : Nat) (a0 : ByteArray) (r : Bool) (w : World) (h : qxc.f k a0 = some r) :
  Calls Tryz.prog 43 #[.string a0] w fun e w' => e = .returned (.bool r) ∧ Drawn0 w w' := by
 have H : ((qlb.f k a0 (⟨#[45, 58, 46]⟩ : ByteArray)).bind fun t114 => (some t114)) = some r := h;clear h;replace H := Option.bind_eq_some_iff.mp H;obtain ⟨t114, A20, H⟩ := H;replace H : (some t114) = some r := H;have A2 := qa.mk A20;clear A20;obtain rfl := Option.some.inj H;(go_enter Tryz.func43, Tryz.ntmps43);(go_wp2_with (first | ((with_reducible refine qv (f := 58) rfl ?_); refine qpb (some 4) rfl rfl Tryz.func58 (by kernel_rfl) rfl #[.string a0, .string (⟨#[45, 58, 46]⟩ : ByteArray)] rfl zz87 ?_; (with_reducible refine (qlb.calls k a0 (⟨#[45, 58, 46]⟩ : ByteArray) t114 _ A2.out).mono ?_); rintro e w' ⟨rfl, ⟨nd, rfl⟩⟩; refine ⟨_, rfl, ?_⟩)));go_ret;exact ⟨zz8, zz15⟩
def tendrilref02_inner.f (a0 : Int) (a1 : Bool) : Option (Bool) := if a0 ≥ 97 then (if a0 ≤ 122 then (some true) else (if a0 ≥ 48 then (if a0 ≤ 57 then (some true) else (if a0 = 45 then (some true) else (if a1 = true then (if a0 = 58 then (some true) else (some (a0 == 46))) else (some false)))) else (if a0 = 45 then (some true) else (if a1 = true then (if a0 = 58 then (some true) else (some (a0 == 46))) else (some false))))) else (if a0 ≥ 48 then (if a0 ≤ 57 then (some true) else (if a0 = 45 then (some true) else (if a1 = true then (if a0 = 58 then (some true) else (some (a0 == 46))) else (some false)))) else (if a0 = 45 then (some true) else (if a1 = true then (if a0 = 58 then (some true) else (some (a0 == 46))) else (some false))))
set_option maxHeartbeats 8000000 in
set_option maxRecDepth 100000 in
theorem tendrilref02_inner.calls (a0 : Int) (a1 : Bool) (r : Bool) (w : World) (h : tendrilref02_inner.f a0 a1 = some r) :
  Calls Tryz.prog 38 #[.int .u8 a0, .bool a1] w fun e w' => e = .returned (.bool r) ∧ Drawn0 w w' := by
 have H : (if a0 ≥ 97 then (if a0 ≤ 122 then (some true) else (if a0 ≥ 48 then (if a0 ≤ 57 then (some true) else (if a0 = 45 then (some true) else (if a1 = true then (if a0 = 58 then (some true) else (some (a0 == 46))) else (some false)))) else (if a0 = 45 then (some true) else (if a1 = true then (if a0 = 58 then (some true) else (some (a0 == 46))) else (some false))))) else (if a0 ≥ 48 then (if a0 ≤ 57 then (some true) else (if a0 = 45 then (some true) else (if a1 = true then (if a0 = 58 then (some true) else (some (a0 == 46))) else (some false)))) else (if a0 = 45 then (some true) else (if a1 = true then (if a0 = 58 then (some true) else (some (a0 == 46))) else (some false))))) = some r := h;clear h;by_cases c3 : a0 ≥ 97
 ·rw [if_pos c3] at H;have c3b0 : decide (97 ≤ a0) = true := decide_eq_true c3;clear c3;by_cases c4 : a0 ≤ 122
  ·rw [if_pos c4] at H;have c4b0 : decide (a0 ≤ 122) = true := decide_eq_true c4;clear c4;obtain rfl := Option.some.inj H;(go_enter Tryz.func38, Tryz.ntmps38);go_wp2;go_ret;exact ⟨zz8, zz15⟩
  ·rw [if_neg c4] at H;have c4b0 : decide (a0 ≤ 122) = false := decide_eq_false c4;clear c4;by_cases c5 : a0 ≥ 48
   ·rw [if_pos c5] at H;have c5b0 : decide (48 ≤ a0) = true := decide_eq_true c5;clear c5;by_cases c6 : a0 ≤ 57
    ·rw [if_pos c6] at H;have c6b0 : decide (a0 ≤ 57) = true := decide_eq_true c6;clear c6;obtain rfl := Option.some.inj H;(go_enter Tryz.func38, Tryz.ntmps38);go_wp2;go_ret;exact ⟨zz8, zz15⟩
    ·rw [if_neg c6] at H;have c6b0 : decide (a0 ≤ 57) = false := decide_eq_false c6;clear c6;by_cases c7 : a0 = 45
     ·rw [if_pos c7] at H;have c7b0 : (a0 == 45) = true := beq_iff_eq.mpr c7;have c7b1 : (a0 != 45) = false := bne_eq_false_iff_eq.mpr c7;clear c7;obtain rfl := Option.some.inj H;(go_enter Tryz.func38, Tryz.ntmps38);go_wp2;go_ret;exact ⟨zz8, zz15⟩
     ·rw [if_neg c7] at H;have c7b0 : (a0 == 45) = false := beq_eq_false_iff_ne.mpr c7;have c7b1 : (a0 != 45) = true := bne_iff_ne.mpr c7;by_cases c8 : a1 = true
      ·subst c8;(have H1 : (if a0 = 58 then (some true) else (some (a0 == 46))) = some r := by rw [if_pos rfl] at H; exact H);clear H;have H := H1;clear H1;by_cases c9 : a0 = 58
       ·rw [if_pos c9] at H;have c9b0 : (a0 == 58) = true := beq_iff_eq.mpr c9;have c9b1 : (a0 != 58) = false := bne_eq_false_iff_eq.mpr c9;clear c9;obtain rfl := Option.some.inj H;(go_enter Tryz.func38, Tryz.ntmps38);go_wp2;go_ret;exact ⟨zz8, zz15⟩
       ·rw [if_neg c9] at H;have c9b0 : (a0 == 58) = false := beq_eq_false_iff_ne.mpr c9;have c9b1 : (a0 != 58) = true := bne_iff_ne.mpr c9;obtain rfl := Option.some.inj H;(go_enter Tryz.func38, Tryz.ntmps38);go_wp2;go_ret;exact ⟨zz8, zz15⟩
      ·replace c8 := Bool.eq_false_iff.mpr c8;subst c8;(have H1 : (some false) = some r := by rw [if_neg (show ¬ (false = true) by decide)] at H; exact H);clear H;have H := H1;clear H1;obtain rfl := Option.some.inj H;(go_enter Tryz.func38, Tryz.ntmps38);go_wp2;go_ret;exact ⟨zz8, zz15⟩
   ·rw [if_neg c5] at H;have c5b0 : decide (48 ≤ a0) = false := decide_eq_false c5;clear c5;by_cases c10 : a0 = 45
    ·rw [if_pos c10] at H;have c10b0 : (a0 == 45) = true := beq_iff_eq.mpr c10;have c10b1 : (a0 != 45) = false := bne_eq_false_iff_eq.mpr c10;clear c10;obtain rfl := Option.some.inj H;(go_enter Tryz.func38, Tryz.ntmps38);go_wp2;go_ret;exact ⟨zz8, zz15⟩
    ·rw [if_neg c10] at H;have c10b0 : (a0 == 45) = false := beq_eq_false_iff_ne.mpr c10;have c10b1 : (a0 != 45) = true := bne_iff_ne.mpr c10;by_cases c11 : a1 = true
     ·subst c11;(have H1 : (if a0 = 58 then (some true) else (some (a0 == 46))) = some r := by rw [if_pos rfl] at H; exact H);clear H;have H := H1;clear H1;by_cases c12 : a0 = 58
      ·rw [if_pos c12] at H;have c12b0 : (a0 == 58) = true := beq_iff_eq.mpr c12;have c12b1 : (a0 != 58) = false := bne_eq_false_iff_eq.mpr c12;clear c12;obtain rfl := Option.some.inj H;(go_enter Tryz.func38, Tryz.ntmps38);go_wp2;go_ret;exact ⟨zz8, zz15⟩
      ·rw [if_neg c12] at H;have c12b0 : (a0 == 58) = false := beq_eq_false_iff_ne.mpr c12;have c12b1 : (a0 != 58) = true := bne_iff_ne.mpr c12;obtain rfl := Option.some.inj H;(go_enter Tryz.func38, Tryz.ntmps38);go_wp2;go_ret;exact ⟨zz8, zz15⟩
     ·replace c11 := Bool.eq_false_iff.mpr c11;subst c11;(have H1 : (some false) = some r := by rw [if_neg (show ¬ (false = true) by decide)] at H; exact H);clear H;have H := H1;clear H1;obtain rfl := Option.some.inj H;(go_enter Tryz.func38, Tryz.ntmps38);go_wp2;go_ret;exact ⟨zz8, zz15⟩
 ·rw [if_neg c3] at H;have c3b0 : decide (97 ≤ a0) = false := decide_eq_false c3;clear c3;by_cases c13 : a0 ≥ 48
  ·rw [if_pos c13] at H;have c13b0 : decide (48 ≤ a0) = true := decide_eq_true c13;clear c13;by_cases c14 : a0 ≤ 57
   ·rw [if_pos c14] at H;have c14b0 : decide (a0 ≤ 57) = true := decide_eq_true c14;clear c14;obtain rfl := Option.some.inj H;(go_enter Tryz.func38, Tryz.ntmps38);go_wp2;go_ret;exact ⟨zz8, zz15⟩
   ·rw [if_neg c14] at H;have c14b0 : decide (a0 ≤ 57) = false := decide_eq_false c14;clear c14;by_cases c15 : a0 = 45
    ·rw [if_pos c15] at H;have c15b0 : (a0 == 45) = true := beq_iff_eq.mpr c15;have c15b1 : (a0 != 45) = false := bne_eq_false_iff_eq.mpr c15;clear c15;obtain rfl := Option.some.inj H;(go_enter Tryz.func38, Tryz.ntmps38);go_wp2;go_ret;exact ⟨zz8, zz15⟩
    ·rw [if_neg c15] at H;have c15b0 : (a0 == 45) = false := beq_eq_false_iff_ne.mpr c15;have c15b1 : (a0 != 45) = true := bne_iff_ne.mpr c15;by_cases c16 : a1 = true
     ·subst c16;(have H1 : (if a0 = 58 then (some true) else (some (a0 == 46))) = some r := by rw [if_pos rfl] at H; exact H);clear H;have H := H1;clear H1;by_cases c17 : a0 = 58
      ·rw [if_pos c17] at H;have c17b0 : (a0 == 58) = true := beq_iff_eq.mpr c17;have c17b1 : (a0 != 58) = false := bne_eq_false_iff_eq.mpr c17;clear c17;obtain rfl := Option.some.inj H;(go_enter Tryz.func38, Tryz.ntmps38);go_wp2;go_ret;exact ⟨zz8, zz15⟩
      ·rw [if_neg c17] at H;have c17b0 : (a0 == 58) = false := beq_eq_false_iff_ne.mpr c17;have c17b1 : (a0 != 58) = true := bne_iff_ne.mpr c17;obtain rfl := Option.some.inj H;(go_enter Tryz.func38, Tryz.ntmps38);go_wp2;go_ret;exact ⟨zz8, zz15⟩
     ·replace c16 := Bool.eq_false_iff.mpr c16;subst c16;(have H1 : (some false) = some r := by rw [if_neg (show ¬ (false = true) by decide)] at H; exact H);clear H;have H := H1;clear H1;obtain rfl := Option.some.inj H;(go_enter Tryz.func38, Tryz.ntmps38);go_wp2;go_ret;exact ⟨zz8, zz15⟩
  ·rw [if_neg c13] at H;have c13b0 : decide (48 ≤ a0) = false := decide_eq_false c13;clear c13;by_cases c18 : a0 = 45
   ·rw [if_pos c18] at H;have c18b0 : (a0 == 45) = true := beq_iff_eq.mpr c18;have c18b1 : (a0 != 45) = false := bne_eq_false_iff_eq.mpr c18;clear c18;obtain rfl := Option.some.inj H;(go_enter Tryz.func38, Tryz.ntmps38);go_wp2;go_ret;exact ⟨zz8, zz15⟩
   ·rw [if_neg c18] at H;have c18b0 : (a0 == 45) = false := beq_eq_false_iff_ne.mpr c18;have c18b1 : (a0 != 45) = true := bne_iff_ne.mpr c18;by_cases c19 : a1 = true
    ·subst c19;(have H1 : (if a0 = 58 then (some true) else (some (a0 == 46))) = some r := by rw [if_pos rfl] at H; exact H);clear H;have H := H1;clear H1;by_cases c20 : a0 = 58
     ·rw [if_pos c20] at H;have c20b0 : (a0 == 58) = true := beq_iff_eq.mpr c20;have c20b1 : (a0 != 58) = false := bne_eq_false_iff_eq.mpr c20;clear c20;obtain rfl := Option.some.inj H;(go_enter Tryz.func38, Tryz.ntmps38);go_wp2;go_ret;exact ⟨zz8, zz15⟩
     ·rw [if_neg c20] at H;have c20b0 : (a0 == 58) = false := beq_eq_false_iff_ne.mpr c20;have c20b1 : (a0 != 58) = true := bne_iff_ne.mpr c20;obtain rfl := Option.some.inj H;(go_enter Tryz.func38, Tryz.ntmps38);go_wp2;go_ret;exact ⟨zz8, zz15⟩
    ·replace c19 := Bool.eq_false_iff.mpr c19;subst c19;(have H1 : (some false) = some r := by rw [if_neg (show ¬ (false = true) by decide)] at H; exact H);clear H;have H := H1;clear H1;obtain rfl := Option.some.inj H;(go_enter Tryz.func38, Tryz.ntmps38);go_wp2;go_ret;exact ⟨zz8, zz15⟩
mutual
def qw.j0 : Nat → ByteArray → Bool → Bool → Option (Bool)
 | 0, _, _, _ => none
 | k + 1, x0, x1, x23 => if x23 = true then (some false) else (qw.l0 k x0 x1 1)
def qw.l0 : Nat → ByteArray → Bool → Int → Option (Bool)
 | 0, _, _, _ => none
 | k + 1, x0, x1, x5 => if x5 < (x0.size : Int) then (if 0 ≤ x5 then ((tendrilref02_inner.f (bt x0 x5) x1).bind fun t347 => (if t347 = true then (qw.l0 k x0 x1 (wrap64 (x5 + 1))) else (some false))) else (none)) else (some true)
end
def qw.f (k : Nat) (a0 : ByteArray) (a1 : Bool) : Option (Bool) := if (a0.size : Int) < 1 then (qw.j0 k a0 a1 true) else (if (a0.size : Int) > 32 then (qw.j0 k a0 a1 true) else (if 0 < (a0.size : Int) then (if (bt a0 0) < 97 then (qw.j0 k a0 a1 true) else (qw.j0 k a0 a1 (decide ((bt a0 0) > 122)))) else (none)))
set_option maxHeartbeats 8000000 in
set_option maxRecDepth 100000 in
theorem qw.calls (k : Nat) (a0 : ByteArray) (a1 : Bool) (r : Bool) (w : World) (h : qw.f k a0 a1 = some r) :
  Calls Tryz.prog 25 #[.string a0, .bool a1] w fun e w' => e = .returned (.bool r) ∧ Drawn0 w w' := by
 have H : (if (a0.size : Int) < 1 then (qw.j0 k a0 a1 true) else (if (a0.size : Int) > 32 then (qw.j0 k a0 a1 true) else (if 0 < (a0.size : Int) then (if (bt a0 0) < 97 then (qw.j0 k a0 a1 true) else (qw.j0 k a0 a1 (decide ((bt a0 0) > 122)))) else (none)))) = some r := h;clear h;have HC3 := qa.mk H;clear H;(go_enter Tryz.func25, Tryz.ntmps25);go_upto_region 1 with (fail)
 go_cut [23] (fun v23 wc => ∃ (kq : Nat) (x23_2 : Bool), v23 = .bool x23_2 ∧ qa (qw.j0 kq a0 a1 x23_2 = some r) ∧ qa (kq ≤ k) ∧ Drawn0 w wc)
 case first =>
  have H := HC3.out;clear HC3;by_cases c4 : (a0.size : Int) < 1
  ·rw [if_pos c4] at H;have c4b0 : decide ((a0.size : Int) < 1) = true := decide_eq_true c4;have c4b1 : decide (a0.size < 1) = true := decide_eq_true (by omega);clear c4
   (first | rw [c4b0] | (simp only [i64_w, i32_w]; rw [c4b0]) | rw [c4b2] | skip)
   have H' := qa.mk H;clear H;go_wp2;go_meet
   case rel => exact ⟨_, (true), zz8, H', ⟨zz4⟩, zz15⟩
  ·rw [if_neg c4] at H;have c4b0 : decide ((a0.size : Int) < 1) = false := decide_eq_false c4;have c4b1 : decide (a0.size < 1) = false := decide_eq_false (by omega);clear c4
   (first | rw [c4b0] | (simp only [i64_w, i32_w]; rw [c4b0]) | rw [c4b2] | skip)
   by_cases c5 : (a0.size : Int) > 32
   ·rw [if_pos c5] at H;have c5b0 : decide (32 < (a0.size : Int)) = true := decide_eq_true c5;have c5b1 : decide (32 < a0.size) = true := decide_eq_true (by omega);clear c5;have H' := qa.mk H;clear H;go_wp2;go_meet
    case rel => exact ⟨_, (true), zz8, H', ⟨zz4⟩, zz15⟩
   ·rw [if_neg c5] at H;have c5b0 : decide (32 < (a0.size : Int)) = false := decide_eq_false c5;have c5b1 : decide (32 < a0.size) = false := decide_eq_false (by omega);clear c5;by_cases c6 : 0 < (a0.size : Int)
    ·rw [if_pos c6] at H;have c6b0 : decide (0 < (a0.size : Int)) = true := decide_eq_true c6;have c6b1 : decide (0 < a0.size) = true := decide_eq_true (by omega);clear c6;by_cases c8 : (bt a0 0) < 97
     ·rw [if_pos c8] at H;have c8b0 : decide ((bt a0 0) < 97) = true := decide_eq_true c8;clear c8;have H' := qa.mk H;clear H;have p7 : 0 ≤ (0 : Int) := (by omega);have q7 : 0 < a0.size := (by have : (0 : Int) < (a0.size : Int) := of_decide_eq_true zz13; omega);have hx7 : ∀ h : 0 < a0.size, ((a0[0]'h).toNat : Int) = bt a0 0 := bt_at a0 0;clear p7;have qi7 : (0 < (a0.size : Int)) = True := eq_true (of_decide_eq_true zz13);replace q7 := eq_true q7;go_wp2;go_meet
      case rel => exact ⟨_, (true), zz8, H', ⟨zz4⟩, zz15⟩
     ·rw [if_neg c8] at H;have c8b0 : decide ((bt a0 0) < 97) = false := decide_eq_false c8;clear c8;have H' := qa.mk H;clear H;have p7 : 0 ≤ (0 : Int) := (by omega);have q7 : 0 < a0.size := (by have : (0 : Int) < (a0.size : Int) := of_decide_eq_true zz13; omega);have hx7 : ∀ h : 0 < a0.size, ((a0[0]'h).toNat : Int) = bt a0 0 := bt_at a0 0;clear p7;have qi7 : (0 < (a0.size : Int)) = True := eq_true (of_decide_eq_true zz13);replace q7 := eq_true q7;have p9 : 0 ≤ (0 : Int) := (by omega);have q9 : 0 < a0.size := (by have : (0 : Int) < (a0.size : Int) := of_decide_eq_true zz13; omega);have hx9 : ∀ h : 0 < a0.size, ((a0[0]'h).toNat : Int) = bt a0 0 := bt_at a0 0;clear p9;have qi9 : (0 < (a0.size : Int)) = True := eq_true (of_decide_eq_true zz13);replace q9 := eq_true q9;go_wp2;go_meet
      case rel => exact ⟨_, (decide ((bt a0 0) > 122)), zz8, H', ⟨zz4⟩, zz15⟩
    ·rw [if_neg c6] at H;exact absurd H (by simp)
 case rest =>
  clear HC3;obtain ⟨kq, x23_2, rfl, HA, HJ2, ⟨mc2, rfl⟩⟩ := hcut
  cases kq with
  | zero => exact absurd HA.out (by simp [qw.j0])
  | succ kj2 =>
   have H := HA.out;clear HA;simp only [qw.j0] at H;by_cases c10 : x23_2 = true
   ·subst c10;(have H1 : (some false) = some r := by rw [if_pos rfl] at H; exact H);clear H;have H := H1;clear H1;obtain rfl := Option.some.inj H;go_wp2;go_ret;exact ⟨zz8, zz15⟩
   ·replace c10 := Bool.eq_false_iff.mpr c10;subst c10;(have H1 : (qw.l0 kj2 a0 a1 1) = some r := by rw [if_neg (show ¬ (false = true) by decide)] at H; exact H);clear H;have H := H1;clear H1;have H' := qa.mk H;clear H;go_wp2
    go_loopg [5] kj2 (fun kq v5 w' => ∃ (x5_2 : Int), v5 = .int .i64 x5_2 ∧ qa (qw.l0 kq a0 a1 x5_2 = some r) ∧ qa (kq ≤ kj2) ∧ Drawn0 w w')
    case atStart => exact ⟨(1), zz8, H', ⟨Nat.le_refl _⟩, zz15⟩
    case round =>
     clear H';obtain ⟨x5_2, rfl, HA, HK2, ⟨m2, rfl⟩⟩ := hrel
     cases gk with
     | zero => exact absurd HA.out (by simp [qw.l0])
     | succ k2 =>
      have H := HA.out;clear HA;simp only [qw.l0] at H;by_cases c11 : x5_2 < (a0.size : Int)
      ·rw [if_pos c11] at H;have c11b0 : decide (x5_2 < (a0.size : Int)) = true := decide_eq_true c11;clear c11;by_cases c12 : 0 ≤ x5_2
       ·rw [if_pos c12] at H;have c12b0 : decide (0 ≤ x5_2) = true := decide_eq_true c12;clear c12;replace H := Option.bind_eq_some_iff.mp H;obtain ⟨t347, A140, H⟩ := H;replace H : (if t347 = true then (qw.l0 k2 a0 a1 (wrap64 (x5_2 + 1))) else (some false)) = some r := H;have A14 := qa.mk A140;clear A140;by_cases c15 : t347 = true
        ·subst c15;(have H1 : (qw.l0 k2 a0 a1 (wrap64 (x5_2 + 1))) = some r := by rw [if_pos rfl] at H; exact H);clear H;have H := H1;clear H1;have H' := qa.mk H;clear H;have p13 : 0 ≤ (x5_2 : Int) := of_decide_eq_true zz13;have q13 : x5_2 < (a0.size : Int) := of_decide_eq_true zz13;have hx13 := bt_at a0 x5_2;replace p13 := eq_true p13;replace q13 := eq_true q13;(go_wp2_with (first | ((with_reducible refine qv (f := 38) rfl ?_); refine qpb (some 34) rfl rfl Tryz.func38 (by kernel_rfl) rfl #[.int .u8 (bt a0 x5_2), .bool a1] rfl zz87 ?_; (with_reducible refine (tendrilref02_inner.calls (bt a0 x5_2) a1 true _ A14.out).mono ?_); rintro e w' ⟨rfl, ⟨nd, rfl⟩⟩; refine ⟨_, rfl, ?_⟩)));go_roundg k2
         case measure => have := HJ2.out; have := HK2.out; omega
         case rel => exact ⟨(wrap64 (x5_2 + 1)), zz8, H', ⟨zz5⟩, zz15⟩
        ·replace c15 := Bool.eq_false_iff.mpr c15;subst c15;(have H1 : (some false) = some r := by rw [if_neg (show ¬ (false = true) by decide)] at H; exact H);clear H;have H := H1;clear H1;obtain rfl := Option.some.inj H;have p13 : 0 ≤ (x5_2 : Int) := of_decide_eq_true zz13;have q13 : x5_2 < (a0.size : Int) := of_decide_eq_true zz13;have hx13 := bt_at a0 x5_2;replace p13 := eq_true p13;replace q13 := eq_true q13;(go_wp2_with (first | ((with_reducible refine qv (f := 38) rfl ?_); refine qpb (some 34) rfl rfl Tryz.func38 (by kernel_rfl) rfl #[.int .u8 (bt a0 x5_2), .bool a1] rfl zz87 ?_; (with_reducible refine (tendrilref02_inner.calls (bt a0 x5_2) a1 false _ A14.out).mono ?_); rintro e w' ⟨rfl, ⟨nd, rfl⟩⟩; refine ⟨_, rfl, ?_⟩)));go_ret;exact ⟨zz8, zz15⟩
       ·rw [if_neg c12] at H;exact absurd H (by simp)
      ·rw [if_neg c11] at H;have c11b0 : decide (x5_2 < (a0.size : Int)) = false := decide_eq_false c11;clear c11;obtain rfl := Option.some.inj H;go_wp2;go_ret;exact ⟨zz8, zz15⟩
end Go.Proofs.YtjbobecnlpiejaaGreatDoor.Q
namespace Go.Proofs.YtjbobecnlpiejaaGreatDoor.Q.P
open Go.Proofs.YtjbobecnlpiejaaGreatDoorZ
open Go.RowKit Go.Proofs.YtjbobecnlpiejaaGreatDoorW.PrintWords Go.Proofs.YtjbobecnlpiejaaGreatDoorW.PrintLast Go.Proofs.YtjbobecnlpiejaaGreatDoorW.PrintMore
theorem w64 {x : Int} (h : -9223372036854775808 ≤ x) (h' : x ≤ 9223372036854775807) : wrap64 x = x := by unfold wrap64; omega
theorem bt_nat (s : ByteArray) (i : Nat) (h : i < s.size) : bt s (i : Int) = ((s.data.toList.getD i 0).toNat : Int) := by
 unfold bt;rw [dif_pos (by simpa using h)];simp only [Int.toNat_natCast];rw [List.getD_eq_getElem?_getD, List.getElem?_eq_getElem (by simpa using h)];rfl
theorem size_list (s : ByteArray) : s.size = s.data.toList.length := Array.length_toList.symm
theorem toList_nil_iff (s : ByteArray) : s.toList = [] ↔ s.data.toList = [] := by rw [Lib.toList_data]
def nmC (o : List UInt8) (c : UInt8) : Bool := decide (97 ≤ c.toNat ∧ c.toNat ≤ 122) || decide (48 ≤ c.toNat ∧ c.toNat ≤ 57) || o.contains c
def smallC (c : UInt8) : Bool := decide (97 ≤ c.toNat ∧ c.toNat ≤ 122)
def nm (o : List UInt8) (s : List UInt8) : Bool := !s.isEmpty && decide (s.length ≤ 32) && smallC (s.getD 0 0) && (s.all (nmC o))
theorem small_spec (c : Int) : chars_small.f c = some (decide (97 ≤ c ∧ c ≤ 122)) := by
 unfold chars_small.f;by_cases h : c ≥ 97
 ·rw [if_pos h]; congr 1; simp [h]
 ·rw [if_neg h]; congr 1; simp; omega
theorem small_byte (s : ByteArray) (i : Nat) (h : i < s.size) : chars_small.f (bt s (i : Int)) = some (smallC (s.data.toList.getD i 0)) := by
 rw [small_spec, bt_nat s i h];unfold smallC;congr 1;rw [Bool.eq_iff_iff, decide_eq_true_iff, decide_eq_true_iff];omega
theorem indexByte_neg (l : List UInt8) (c : UInt8) : (Lib.indexByte l c < 0) ↔ l.contains c = false := by
 induction l with
 | nil => simp [Lib.indexByte]
 | cons b l ih =>
  have hg := Lib.indexByte_ge l c;unfold Lib.indexByte;rw [List.contains_cons];by_cases h : b == c
  ·rw [if_pos h];(have : (c == b) = true := by rw [beq_iff_eq] at h ⊢; exact h.symm);rw [this];simp
  ·rw [if_neg h]
   have h2 : (c == b) = false := by
    rw [Bool.eq_false_iff]; intro hh; apply h; rw [beq_iff_eq] at hh ⊢; exact hh.symm
   rw [h2, Bool.false_or, ← ih];by_cases h1 : Lib.indexByte l c == -1
   ·rw [if_pos h1];rw [beq_iff_eq] at h1;omega
   ·rw [if_neg h1];rw [beq_iff_eq] at h1;omega
theorem drop_getD (l : List UInt8) (i : Nat) (h : i < l.length) : l.drop i = l.getD i 0 :: l.drop (i + 1) := by
 rw [List.drop_eq_getElem_cons h, List.getD_eq_getElem?_getD, List.getElem?_eq_getElem h];rfl
theorem byte_back (c : UInt8) : ((c.toNat : Int)).toNat.toUInt8 = c := by simp
theorem named_loop (x0 x1 : ByteArray) (hs : x0.size ≤ 1000000000000) (d : Nat) : ∀ (k i : Nat), i + d = x0.size → d < k → qlb.l0 k x0 x1 (x0.size : Int) (i : Int) = some ((x0.data.toList.drop i).all (nmC x1.data.toList)) := by
 induction d with
 | zero =>
  intro k i hi hk;obtain ⟨k, rfl⟩ : ∃ m, k = m + 1 := ⟨k - 1, by omega⟩;unfold qlb.l0;rw [if_neg (by omega), List.drop_eq_nil_of_le zz3];rfl
 | succ d ih =>
  intro k i hi hk;obtain ⟨k, rfl⟩ : ∃ m, k = m + 1 := ⟨k - 1, by omega⟩;(have hlt : i < x0.size := by omega);(have hw : wrap64 ((i : Int) + 1) = ((i + 1 : Nat) : Int) := by rw [w64 (by omega) (by omega)]; omega);have hr := ih k (i + 1) (by omega) (by omega);rw [drop_getD _ i (by rw [← size_list]; exact hlt), List.all_cons];unfold qlb.l0;rw [if_pos (by omega), if_pos (by omega), if_pos (by omega), small_byte x0 i hlt, bt_nat x0 i hlt];simp only [Option.bind_some, hw, hr, strings_IndexByte.f, byte_back];generalize x0.data.toList.getD i 0 = c;unfold nmC smallC;by_cases h1 : 97 ≤ c.toNat ∧ c.toNat ≤ 122
  ·simp [h1]
  ·simp only [h1, decide_false, Bool.false_eq_true, if_false, Bool.false_or];by_cases h2 : (c.toNat : Int) < 48
   ·rw [if_pos h2];(have h3 : ¬ (48 ≤ c.toNat ∧ c.toNat ≤ 57) := by omega);simp only [h3, decide_false, Bool.false_or];by_cases h4 : Lib.indexByte x1.data.toList c < 0
    ·rw [if_pos h4, (indexByte_neg _ _).1 h4]; simp
    ·rw [if_neg h4]
     have : x1.data.toList.contains c = true := by
      have := mt (indexByte_neg _ _).2 h4;simpa using this
     rw [this]; simp
   ·rw [if_neg h2];by_cases h5 : (c.toNat : Int) > 57
    ·rw [if_pos h5];(have h3 : ¬ (48 ≤ c.toNat ∧ c.toNat ≤ 57) := by omega);simp only [h3, decide_false, Bool.false_or];by_cases h4 : Lib.indexByte x1.data.toList c < 0
     ·rw [if_pos h4, (indexByte_neg _ _).1 h4]; simp
     ·rw [if_neg h4]
      have : x1.data.toList.contains c = true := by
       have := mt (indexByte_neg _ _).2 h4;simpa using this
      rw [this]; simp
    ·rw [if_neg h5];(have h3 : (48 ≤ c.toNat ∧ c.toNat ≤ 57) := by omega);simp [h3]
theorem named_spec (x0 x1 : ByteArray) (k : Nat) (hk : 40 ≤ k) : qlb.f k x0 x1 = some (nm x1.data.toList x0.data.toList) := by
 obtain ⟨k, rfl⟩ : ∃ m, k = m + 1 := ⟨k - 1, by omega⟩;unfold qlb.f nm;by_cases h0 : x0.toList = []
 ·rw [if_pos h0];rw [toList_nil_iff] at h0;simp only [qlb.j0];rw [if_pos trivial, h0];rfl
 ·rw [if_neg h0];rw [toList_nil_iff] at h0;(have he : x0.data.toList.isEmpty = false := by rw [List.isEmpty_eq_false_iff]; exact h0);(have hpos : 0 < x0.size := by rw [size_list]; exact List.length_pos_iff.2 h0);by_cases h1 : (x0.size : Int) > 32
  ·rw [if_pos h1];simp only [qlb.j0];rw [if_pos trivial, he];have : decide (x0.data.toList.length ≤ 32) = false := decide_eq_false zz3;rw [this];simp
  ·rw [if_neg h1, if_pos (by omega)];(have hl : x0.data.toList.length ≤ 32 := by rw [← size_list]; omega);have h2 := small_byte x0 0 hpos;simp only [Int.natCast_zero] at h2;rw [h2];simp only [Option.bind_some];simp only [qlb.j0];have h3 := named_loop x0 x1 (by omega) x0.size k 0 (by omega) (by omega);simp only [Int.natCast_zero, List.drop_zero] at h3;rw [h3, he];rw [decide_eq_true hl];cases smallC (x0.data.toList.getD 0 0) <;> rfl
def tagO : List UInt8 := [45]
def nameO : List UInt8 := [45, 58, 46]
theorem tag_spec (x : ByteArray) (k : Nat) (hk : 40 ≤ k) : qed.f k x = some (nm tagO x.data.toList) := by
 unfold qed.f;rw [named_spec _ _ k hk];rfl
theorem name_spec (x : ByteArray) (k : Nat) (hk : 40 ≤ k) : qxc.f k x = some (nm nameO x.data.toList) := by
 unfold qxc.f;rw [named_spec _ _ k hk];rfl
theorem inner_spec (c : UInt8) (b : Bool) : tendrilref02_inner.f (c.toNat : Int) b = some (nmC (if b = true then nameO else tagO) c) := by
 (have h : ∀ (b : Bool) (c : Fin 256), tendrilref02_inner.f (c.val : Int) b = some (nmC (if b = true then nameO else tagO) (UInt8.ofNat c.val)) := by decide +kernel);have := h b ⟨c.toNat, c.toNat_lt⟩;simpa using this
theorem Named_loop (x0 : ByteArray) (b : Bool) (hs : x0.size ≤ 1000000000000) (d : Nat) : ∀ (k i : Nat), i + d = x0.size → d < k → qw.l0 k x0 b (i : Int) = some ((x0.data.toList.drop i).all (nmC (if b = true then nameO else tagO))) := by
 induction d with
 | zero =>
  intro k i hi hk;obtain ⟨k, rfl⟩ : ∃ m, k = m + 1 := ⟨k - 1, by omega⟩;unfold qw.l0;rw [if_neg (by omega), List.drop_eq_nil_of_le zz3];rfl
 | succ d ih =>
  intro k i hi hk;obtain ⟨k, rfl⟩ : ∃ m, k = m + 1 := ⟨k - 1, by omega⟩;(have hlt : i < x0.size := by omega);(have hw : wrap64 ((i : Int) + 1) = ((i + 1 : Nat) : Int) := by rw [w64 (by omega) (by omega)]; omega);have hr := ih k (i + 1) (by omega) (by omega);rw [drop_getD _ i (by rw [← size_list]; exact hlt), List.all_cons];unfold qw.l0;rw [if_pos (by omega), if_pos (by omega), bt_nat x0 i hlt, inner_spec];simp only [Option.bind_some, hw, hr];cases nmC (if b = true then nameO else tagO) (x0.data.toList.getD i 0) <;> simp
theorem Named_spec (x0 : ByteArray) (b : Bool) (k : Nat) (hk : 40 ≤ k) : qw.f k x0 b = some (nm (if b = true then nameO else tagO) x0.data.toList) := by
 obtain ⟨k, rfl⟩ : ∃ m, k = m + 1 := ⟨k - 1, by omega⟩;unfold qw.f nm;by_cases h0 : (x0.size : Int) < 1
 ·rw [if_pos h0];simp only [qw.j0];have : x0.data.toList = [] := List.eq_nil_of_length_eq_zero zz3;rw [if_pos trivial, this];rfl
 ·rw [if_neg h0];have hpos : 0 < x0.size := by omega
  have he : x0.data.toList.isEmpty = false := by
   rw [List.isEmpty_eq_false_iff]; intro h; rw [size_list, h] at hpos; simp at hpos
  by_cases h1 : (x0.size : Int) > 32
  ·rw [if_pos h1];simp only [qw.j0];have : decide (x0.data.toList.length ≤ 32) = false := decide_eq_false zz3;rw [if_pos trivial, this];simp
  ·rw [if_neg h1, if_pos (by omega)];(have hl : x0.data.toList.length ≤ 32 := by rw [← size_list]; omega);have hb := bt_nat x0 0 hpos;simp only [Int.natCast_zero] at hb;rw [hb];have h3 := Named_loop x0 b (by omega) (x0.size - 1) k 1 (by omega) (by omega);simp only [Int.natCast_one] at h3;have hd := drop_getD x0.data.toList 0 (by rw [← size_list]; exact hpos);rw [List.drop_zero] at hd
   have hall : x0.data.toList.all (nmC (if b = true then nameO else tagO)) = (nmC (if b = true then nameO else tagO) (x0.data.toList.getD 0 0) && (x0.data.toList.drop 1).all (nmC (if b = true then nameO else tagO))) := by
    conv => lhs; rw [hd]
    rfl
   rw [hall, he];generalize x0.data.toList.getD 0 0 = c at *;by_cases h4 : (c.toNat : Int) < 97
   ·rw [if_pos h4];simp only [qw.j0];(have : smallC c = false := by unfold smallC; simp; omega);rw [if_pos trivial, this];simp
   ·rw [if_neg h4];simp only [qw.j0];by_cases h5 : (c.toNat : Int) > 122
    ·(have : smallC c = false := by unfold smallC; simp; omega);rw [if_pos (by simpa using h5), this];simp
    ·(have : smallC c = true := by unfold smallC; simp; omega);(have h6 : nmC (if b = true then nameO else tagO) c = true := by unfold nmC; unfold smallC at this; rw [this]; simp);rw [if_neg (by simpa using h5), h3, this, h6];rw [decide_eq_true hl];simp
end Go.Proofs.YtjbobecnlpiejaaGreatDoor.Q.P
namespace Go.Proofs.YtjbobecnlpiejaaGreatDoor.Q
open Go.Proofs.YtjbobecnlpiejaaGreatDoorZ
open Go.RowKit Go.Proofs.YtjbobecnlpiejaaGreatDoorW.PrintWords Go.Proofs.YtjbobecnlpiejaaGreatDoorW.PrintLast Go.Proofs.YtjbobecnlpiejaaGreatDoorW.PrintMore
attribute [local go_sem] qac qbc qhc qgc
mutual
def qib.l0 : Nat → List (S48) → Int → Int → Int → Option (Bool)
 | 0, _, _, _, _ => none
 | k + 1, x0, x3, x7, x8 => if x8 < x7 then (if 0 ≤ x8 then (if x8 < (x0.length : Int) then (if (wrap64 ((wrap64 (x3 + 1)) + (((qu x0 x8).f4).length : Int))) > 200 then (qib.j1 k x0 (wrap64 ((wrap64 (x3 + 1)) + (((qu x0 x8).f4).length : Int))) x8 x7 x8 true) else (qib.j1 k x0 (wrap64 ((wrap64 (x3 + 1)) + (((qu x0 x8).f4).length : Int))) x8 x7 x8 (decide ((wrap64 ((((qu x0 x8).f2).size : Int) + (((qu x0 x8).f3).size : Int))) > 200000)))) else (none)) else (none)) else (some true)
def qib.j1 : Nat → List (S48) → Int → Int → Int → Int → Bool → Option (Bool)
 | 0, _, _, _, _, _, _ => none
 | k + 1, x0, x3, x4, x7, x8, x37 => if x37 = true then (some false) else (if 0 ≤ x4 then (if x4 < (x0.length : Int) then (qib.l1 k x0 x3 x4 x7 x8 (((qu x0 x4).f4).length : Int) 0) else (none)) else (none))
def qib.l1 : Nat → List (S48) → Int → Int → Int → Int → Int → Int → Option (Bool)
 | 0, _, _, _, _, _, _, _ => none
 | k + 1, x0, x3, x4, x7, x8, x43, x44 => if x44 < x43 then (if 0 ≤ x4 then (if x4 < (x0.length : Int) then (if 0 ≤ x44 then (if x44 < (((qu x0 x4).f4).length : Int) then (if (wrap64 ((((rd_T50 ((qu x0 x4).f4) x44).f0).size : Int) + (((rd_T50 ((qu x0 x4).f4) x44).f1).size : Int))) > 200000 then (some false) else (qib.l1 k x0 x3 x4 x7 x8 x43 (wrap64 (x44 + 1)))) else (none)) else (none)) else (none)) else (none)) else (qib.l0 k x0 x3 x7 (wrap64 (x8 + 1)))
end
def qib.f (k : Nat) (l0 : List (S48)) : Option (Bool) := qib.l0 k l0 0 (l0.length : Int) 0
set_option maxHeartbeats 8000000 in
set_option maxRecDepth 100000 in
theorem qib.calls (k : Nat) (A0 : Option Addr) (c0 : Nat) (l0 : List (S48)) (r : Bool) (w : World) (hr0 : Kd.C k48 w A0 l0.length l0) (hc0 : l0.length ≤ c0) (h : qib.f k l0 = some r) :
  Calls Tryz.prog 5 #[.slice A0 l0.length c0] w fun e w' => e = .returned (.bool r) ∧ Drawn0 w w' := by
 have HR0 := qa.mk hr0;clear hr0 hc0;have H : (qib.l0 k l0 0 (l0.length : Int) 0) = some r := h;clear h;have H' := qa.mk H;clear H;(go_enter Tryz.func5, Tryz.ntmps5);go_wp2
 repeat (go_quiet (fail); try go_wp2)
 go_loopg [3, 8] k (fun kq v3 v8 w' => ∃ (x3_1 : Int) (x8_1 : Int), v3 = .int .i64 x3_1 ∧ v8 = .int .i64 x8_1 ∧ qa (qib.l0 kq l0 x3_1 (l0.length : Int) x8_1 = some r) ∧ qa (kq ≤ k) ∧ Drawn0 w w')
 case atStart => exact ⟨(0), (0), zz8, zz8, H', ⟨Nat.le_refl _⟩, zz15⟩
 case round =>
  clear H';obtain ⟨x3_1, x8_1, rfl, rfl, HA, HK1, ⟨m1, rfl⟩⟩ := hrel
  cases gk with
  | zero => exact absurd HA.out (by simp [qib.l0])
  | succ k1 =>
   have H := HA.out;clear HA;simp only [qib.l0] at H;by_cases c2 : x8_1 < (l0.length : Int)
   ·rw [if_pos c2] at H;have c2b0 : decide (x8_1 < (l0.length : Int)) = true := decide_eq_true c2;clear c2;by_cases c3 : 0 ≤ x8_1
    ·rw [if_pos c3] at H;have c3b0 : decide (0 ≤ x8_1) = true := decide_eq_true c3;clear c3;by_cases c4 : x8_1 < (l0.length : Int)
     ·rw [if_pos c4] at H;have c4b0 : decide (x8_1 < (l0.length : Int)) = true := decide_eq_true c4;clear c4;have HC5 := qa.mk H;clear H;have p101 : 0 ≤ (x8_1 : Int) := of_decide_eq_true zz13;have q101 : x8_1 < (l0.length : Int) := of_decide_eq_true zz13;obtain ⟨ad101, A101_4, c101_4, e101, hx101_0, hx101_1, hx101_2, hx101_3, hx101_4, hl101_4, hi101_4⟩ := at_T48 HR0.out x8_1 p101 q101;cases e101;clear hi101_4 hl101_4;replace p101 := eq_true p101;replace q101 := eq_true q101;go_upto_region 6 with (fail)
      repeat (go_quiet (fail); go_upto_region 6 with (fail))
      go_cut [37] (fun v37 wc => ∃ (kq : Nat) (x37_4 : Bool), v37 = .bool x37_4 ∧ qa (qib.j1 kq l0 (wrap64 ((wrap64 (x3_1 + 1)) + (((qu l0 x8_1).f4).length : Int))) x8_1 (l0.length : Int) x8_1 x37_4 = some r) ∧ qa (kq ≤ k1) ∧ Drawn0 w wc)
      case first =>
       have H := HC5.out;clear HC5;by_cases c6 : (wrap64 ((wrap64 (x3_1 + 1)) + (((qu l0 x8_1).f4).length : Int))) > 200
       ·rw [if_pos c6] at H;have c6b0 : decide (200 < (wrap64 ((wrap64 (x3_1 + 1)) + (((qu l0 x8_1).f4).length : Int)))) = true := decide_eq_true c6;clear c6
        (first | rw [c6b0] | (simp only [i64_w, i32_w]; rw [c6b0]) | rw [c6b2] | skip)
        have H' := qa.mk H;clear H;go_wp2
        repeat (go_quiet (fail); try go_wp2)
        go_meet
        case rel => exact ⟨_, (true), zz8, H', ⟨zz14⟩, zz15⟩
       ·rw [if_neg c6] at H;have c6b0 : decide (200 < (wrap64 ((wrap64 (x3_1 + 1)) + (((qu l0 x8_1).f4).length : Int)))) = false := decide_eq_false c6;clear c6
        (first | rw [c6b0] | (simp only [i64_w, i32_w]; rw [c6b0]) | rw [c6b2] | skip)
        have H' := qa.mk H;clear H;have p102 : 0 ≤ (x8_1 : Int) := of_decide_eq_true zz13;have q102 : x8_1 < (l0.length : Int) := of_decide_eq_true zz13;obtain ⟨ad102, A102_4, c102_4, e102, hx102_0, hx102_1, hx102_2, hx102_3, hx102_4, hl102_4, hi102_4⟩ := at_T48 HR0.out x8_1 p102 q102;obtain rfl : ad101 = ad102 := (by injection e102);clear hi102_4 hl102_4;replace p102 := eq_true p102;replace q102 := eq_true q102;go_wp2
        repeat (go_quiet (fail); try go_wp2)
        go_meet
        case rel => exact ⟨_, (decide ((wrap64 ((((qu l0 x8_1).f2).size : Int) + (((qu l0 x8_1).f3).size : Int))) > 200000)), zz8, H', ⟨zz14⟩, zz15⟩
      case rest =>
       clear HC5;(try clear c1);(try clear p1);(try clear q1);(try clear hx1);(try clear c2);(try clear c2b0);(try clear p2);(try clear c3);(try clear c3b0);(try clear c4);(try clear c4b0);(try clear c5);(try clear c6);(try clear c6b0);(try clear c6b2);(try clear p6);(try clear hx101_0);(try clear hx101_1);(try clear hx101_2);(try clear hx101_3);(try clear hx101_4);(try clear hx102_0);(try clear hx102_1);(try clear hx102_2);(try clear hx102_3);(try clear hx102_4);(try clear hx102_0);(try clear hx102_1);(try clear hx102_2);(try clear hx102_3);(try clear hx102_4);(try clear p101);(try clear p102);(try clear q101);(try clear q102);obtain ⟨kq, x37_4, rfl, HA, HJ4, ⟨mc4, rfl⟩⟩ := hcut
       cases kq with
       | zero => exact absurd HA.out (by simp [qib.j1])
       | succ kj4 =>
        have H := HA.out;clear HA;simp only [qib.j1] at H;by_cases c7 : x37_4 = true
        ·subst c7;(have H1 : (some false) = some r := by rw [if_pos rfl] at H; exact H);clear H;have H := H1;clear H1;obtain rfl := Option.some.inj H;go_wp2
         repeat (go_quiet (fail); try go_wp2)
         go_ret;exact ⟨zz8, zz15⟩
        ·replace c7 := Bool.eq_false_iff.mpr c7;subst c7;(have H1 : (if 0 ≤ x8_1 then (if x8_1 < (l0.length : Int) then (qib.l1 kj4 l0 (wrap64 ((wrap64 (x3_1 + 1)) + (((qu l0 x8_1).f4).length : Int))) x8_1 (l0.length : Int) x8_1 (((qu l0 x8_1).f4).length : Int) 0) else (none)) else (none)) = some r := by rw [if_neg (show ¬ (false = true) by decide)] at H; exact H);clear H;have H := H1;clear H1;by_cases c8 : 0 ≤ x8_1
         ·rw [if_pos c8] at H;have c8b0 : decide (0 ≤ x8_1) = true := decide_eq_true c8;clear c8;by_cases c9 : x8_1 < (l0.length : Int)
          ·rw [if_pos c9] at H;have c9b0 : decide (x8_1 < (l0.length : Int)) = true := decide_eq_true c9;clear c9;have H' := qa.mk H;clear H;have p104 : 0 ≤ (x8_1 : Int) := of_decide_eq_true zz13;have q104 : x8_1 < (l0.length : Int) := of_decide_eq_true zz13;obtain ⟨ad104, A104_4, c104_4, e104, hx104_0, hx104_1, hx104_2, hx104_3, hx104_4, hl104_4, hi104_4⟩ := at_T48 HR0.out x8_1 p104 q104;obtain rfl : ad101 = ad104 := (by injection e104);clear hi104_4 hl104_4;replace p104 := eq_true p104;replace q104 := eq_true q104;go_wp2
           repeat (go_quiet (fail); try go_wp2)
           go_loopg [44] kj4 (fun kq v44 w' => ∃ (x44_3 : Int), v44 = .int .i64 x44_3 ∧ qa (qib.l1 kq l0 (wrap64 ((wrap64 (x3_1 + 1)) + (((qu l0 x8_1).f4).length : Int))) x8_1 (l0.length : Int) x8_1 (((qu l0 x8_1).f4).length : Int) x44_3 = some r) ∧ qa (kq ≤ kj4) ∧ Drawn0 w w')
           case atStart => exact ⟨(0), zz8, H', ⟨Nat.le_refl _⟩, zz15⟩
           case round =>
            clear H';(try clear c1);(try clear p1);(try clear q1);(try clear hx1);(try clear c2);(try clear c2b0);(try clear p2);(try clear c3);(try clear c3b0);(try clear c4);(try clear c4b0);(try clear c5);(try clear c6);(try clear c6b0);(try clear c6b2);(try clear p6);(try clear c7);(try clear c8);(try clear c8b0);(try clear c9);(try clear c9b0);(try clear hx101_0);(try clear hx101_1);(try clear hx101_2);(try clear hx101_3);(try clear hx101_4);(try clear hx102_0);(try clear hx102_1);(try clear hx102_2);(try clear hx102_3);(try clear hx102_4);(try clear hx102_0);(try clear hx102_1);(try clear hx102_2);(try clear hx102_3);(try clear hx102_4);(try clear hx104_0);(try clear hx104_1);(try clear hx104_2);(try clear hx104_3);(try clear hx104_4);(try clear p1);(try clear p101);(try clear p102);(try clear p104);(try clear p2);(try clear p6);(try clear q1);(try clear q101);(try clear q102);(try clear q104);obtain ⟨x44_3, rfl, HA, HK3, ⟨m3, rfl⟩⟩ := hrel
            cases gk with
            | zero => exact absurd HA.out (by simp [qib.l1])
            | succ k3 =>
             have H := HA.out;clear HA;simp only [qib.l1] at H;by_cases c10 : x44_3 < (((qu l0 x8_1).f4).length : Int)
             ·rw [if_pos c10] at H;have c10b0 : decide (x44_3 < (((qu l0 x8_1).f4).length : Int)) = true := decide_eq_true c10;clear c10;by_cases c11 : 0 ≤ x8_1
              ·rw [if_pos c11] at H;have c11b0 : decide (0 ≤ x8_1) = true := decide_eq_true c11;clear c11;by_cases c12 : x8_1 < (l0.length : Int)
               ·rw [if_pos c12] at H;have c12b0 : decide (x8_1 < (l0.length : Int)) = true := decide_eq_true c12;clear c12;by_cases c13 : 0 ≤ x44_3
                ·rw [if_pos c13] at H;have c13b0 : decide (0 ≤ x44_3) = true := decide_eq_true c13;clear c13;by_cases c14 : x44_3 < (((qu l0 x8_1).f4).length : Int)
                 ·rw [if_pos c14] at H;have c14b0 : decide (x44_3 < (((qu l0 x8_1).f4).length : Int)) = true := decide_eq_true c14;clear c14;by_cases c15 : (wrap64 ((((rd_T50 ((qu l0 x8_1).f4) x44_3).f0).size : Int) + (((rd_T50 ((qu l0 x8_1).f4) x44_3).f1).size : Int))) > 200000
                  ·rw [if_pos c15] at H;have c15b0 : decide (200000 < (wrap64 ((((rd_T50 ((qu l0 x8_1).f4) x44_3).f0).size : Int) + (((rd_T50 ((qu l0 x8_1).f4) x44_3).f1).size : Int)))) = true := decide_eq_true c15;clear c15;obtain rfl := Option.some.inj H;have p105 : 0 ≤ (x8_1 : Int) := of_decide_eq_true zz13;have q105 : x8_1 < (l0.length : Int) := of_decide_eq_true zz13;obtain ⟨ad105, A105_4, c105_4, e105, hx105_0, hx105_1, hx105_2, hx105_3, hx105_4, hl105_4, hi105_4⟩ := at_T48 HR0.out x8_1 p105 q105;obtain rfl : ad101 = ad105 := (by injection e105);have HR105_4 := qa.mk hi105_4;have HC105_4 := qa.mk hl105_4;clear hi105_4 hl105_4;replace p105 := eq_true p105;replace q105 := eq_true q105;have p106 : 0 ≤ (x44_3 : Int) := of_decide_eq_true zz13;have q106 : x44_3 < (((qu l0 x8_1).f4).length : Int) := of_decide_eq_true zz13;obtain ⟨ad106, e106, hx106_0, hx106_1, hx106_2⟩ := at_T50 HR105_4.out x44_3 p106 q106;cases e106;replace p106 := eq_true p106;replace q106 := eq_true q106;have p107 : 0 ≤ (x8_1 : Int) := of_decide_eq_true zz13;have q107 : x8_1 < (l0.length : Int) := of_decide_eq_true zz13;obtain ⟨ad107, A107_4, c107_4, e107, hx107_0, hx107_1, hx107_2, hx107_3, hx107_4, hl107_4, hi107_4⟩ := at_T48 HR0.out x8_1 p107 q107;obtain rfl : ad101 = ad107 := (by injection e107);have HR107_4 := qa.mk hi107_4;have HC107_4 := qa.mk hl107_4;clear hi107_4 hl107_4;replace p107 := eq_true p107;replace q107 := eq_true q107;have ea_ := Option.some.inj (hx105_4.symm.trans hx107_4);injection ea_ with ea_ en_ ec_;subst ea_;subst ec_;clear en_;have p108 : 0 ≤ (x44_3 : Int) := of_decide_eq_true zz13;have q108 : x44_3 < (((qu l0 x8_1).f4).length : Int) := of_decide_eq_true zz13;obtain ⟨ad108, e108, hx108_0, hx108_1, hx108_2⟩ := at_T50 HR107_4.out x44_3 p108 q108;cases e108;replace p108 := eq_true p108;replace q108 := eq_true q108;go_wp2
                   repeat (go_quiet (fail); try go_wp2)
                   go_ret;exact ⟨zz8, zz15⟩
                  ·rw [if_neg c15] at H;have c15b0 : decide (200000 < (wrap64 ((((rd_T50 ((qu l0 x8_1).f4) x44_3).f0).size : Int) + (((rd_T50 ((qu l0 x8_1).f4) x44_3).f1).size : Int)))) = false := decide_eq_false c15;clear c15;have H' := qa.mk H;clear H;have p105 : 0 ≤ (x8_1 : Int) := of_decide_eq_true zz13;have q105 : x8_1 < (l0.length : Int) := of_decide_eq_true zz13;obtain ⟨ad105, A105_4, c105_4, e105, hx105_0, hx105_1, hx105_2, hx105_3, hx105_4, hl105_4, hi105_4⟩ := at_T48 HR0.out x8_1 p105 q105;obtain rfl : ad101 = ad105 := (by injection e105);have HR105_4 := qa.mk hi105_4;have HC105_4 := qa.mk hl105_4;clear hi105_4 hl105_4;replace p105 := eq_true p105;replace q105 := eq_true q105;have p106 : 0 ≤ (x44_3 : Int) := of_decide_eq_true zz13;have q106 : x44_3 < (((qu l0 x8_1).f4).length : Int) := of_decide_eq_true zz13;obtain ⟨ad106, e106, hx106_0, hx106_1, hx106_2⟩ := at_T50 HR105_4.out x44_3 p106 q106;cases e106;replace p106 := eq_true p106;replace q106 := eq_true q106;have p107 : 0 ≤ (x8_1 : Int) := of_decide_eq_true zz13;have q107 : x8_1 < (l0.length : Int) := of_decide_eq_true zz13;obtain ⟨ad107, A107_4, c107_4, e107, hx107_0, hx107_1, hx107_2, hx107_3, hx107_4, hl107_4, hi107_4⟩ := at_T48 HR0.out x8_1 p107 q107;obtain rfl : ad101 = ad107 := (by injection e107);have HR107_4 := qa.mk hi107_4;have HC107_4 := qa.mk hl107_4;clear hi107_4 hl107_4;replace p107 := eq_true p107;replace q107 := eq_true q107;have ea_ := Option.some.inj (hx105_4.symm.trans hx107_4);injection ea_ with ea_ en_ ec_;subst ea_;subst ec_;clear en_;have p108 : 0 ≤ (x44_3 : Int) := of_decide_eq_true zz13;have q108 : x44_3 < (((qu l0 x8_1).f4).length : Int) := of_decide_eq_true zz13;obtain ⟨ad108, e108, hx108_0, hx108_1, hx108_2⟩ := at_T50 HR107_4.out x44_3 p108 q108;cases e108;replace p108 := eq_true p108;replace q108 := eq_true q108;go_wp2
                   repeat (go_quiet (fail); try go_wp2)
                   go_roundg k3
                   case measure => have := HK1.out; have := HJ4.out; have := HK3.out; omega
                   case rel => exact ⟨(wrap64 (x44_3 + 1)), zz8, H', ⟨by have := HK1.out; have := HJ4.out; have := HK3.out; omega⟩, zz15⟩
                 ·rw [if_neg c14] at H;exact absurd H (by simp)
                ·rw [if_neg c13] at H;exact absurd H (by simp)
               ·rw [if_neg c12] at H;exact absurd H (by simp)
              ·rw [if_neg c11] at H;exact absurd H (by simp)
             ·rw [if_neg c10] at H;have c10b0 : decide (x44_3 < (((qu l0 x8_1).f4).length : Int)) = false := decide_eq_false c10;clear c10;have H' := qa.mk H;clear H;go_wp2
              repeat (go_quiet (fail); try go_wp2)
              go_roundg k3
              case measure => have := HK1.out; have := HJ4.out; have := HK3.out; omega
              case rel => exact ⟨((wrap64 ((wrap64 (x3_1 + 1)) + (((qu l0 x8_1).f4).length : Int)))), (wrap64 (x8_1 + 1)), zz8, zz8, H', ⟨by have := HK1.out; have := HJ4.out; have := HK3.out; omega⟩, zz15⟩
          ·rw [if_neg c9] at H;exact absurd H (by simp)
         ·rw [if_neg c8] at H;exact absurd H (by simp)
     ·rw [if_neg c4] at H;exact absurd H (by simp)
    ·rw [if_neg c3] at H;exact absurd H (by simp)
   ·rw [if_neg c2] at H;have c2b0 : decide (x8_1 < (l0.length : Int)) = false := decide_eq_false c2;clear c2;obtain rfl := Option.some.inj H;go_wp2
    repeat (go_quiet (fail); try go_wp2)
    go_ret;exact ⟨zz8, zz15⟩
def query_Part_right_1.f (k : Nat) (a0_0 : ByteArray) (a0_1 : ByteArray) (a0_2 : Bool) : Option (Bool) := (qxc.f k a0_0).bind fun t116 => (if t116 = true then ((qcc.f a0_1).bind fun t117 => (if t117 = true then (if a0_2 = true then (some false) else (some (a0_1.toList != ([] : List UInt8)))) else (some true))) else (some true))
set_option maxHeartbeats 8000000 in
set_option maxRecDepth 100000 in
theorem query_Part_right_1.calls (k : Nat) (a0_0 : ByteArray) (a0_1 : ByteArray) (a0_2 : Bool) (r : Bool) (w : World) (h : query_Part_right_1.f k a0_0 a0_1 a0_2 = some r) :
  Calls Tryz.prog 42 #[.agg #[.string a0_0, .string a0_1, .bool a0_2]] w fun e w' => e = .returned (.bool r) ∧ Below w.heap.size w w' := by
 have hu50 := Tryz.underlying50;have HB := qa.mk (Below.refl w.heap.size w);have H : ((qxc.f k a0_0).bind fun t116 => (if t116 = true then ((qcc.f a0_1).bind fun t117 => (if t117 = true then (if a0_2 = true then (some false) else (some (a0_1.toList != ([] : List UInt8)))) else (some true))) else (some true))) = some r := h;clear h;replace H := Option.bind_eq_some_iff.mp H;obtain ⟨t116, A20, H⟩ := H;replace H : (if t116 = true then ((qcc.f a0_1).bind fun t117 => (if t117 = true then (if a0_2 = true then (some false) else (some (a0_1.toList != ([] : List UInt8)))) else (some true))) else (some true)) = some r := H;have A2 := qa.mk A20;clear A20;by_cases c3 : t116 = true
 ·subst c3;(have H1 : ((qcc.f a0_1).bind fun t117 => (if t117 = true then (if a0_2 = true then (some false) else (some (a0_1.toList != ([] : List UInt8)))) else (some true))) = some r := by rw [if_pos rfl] at H; exact H);clear H;have H := H1;clear H1;replace H := Option.bind_eq_some_iff.mp H;obtain ⟨t117, A40, H⟩ := H;replace H : (if t117 = true then (if a0_2 = true then (some false) else (some (a0_1.toList != ([] : List UInt8)))) else (some true)) = some r := H;have A4 := qa.mk A40;clear A40;by_cases c5 : t117 = true
  ·subst c5;(have H1 : (if a0_2 = true then (some false) else (some (a0_1.toList != ([] : List UInt8)))) = some r := by rw [if_pos rfl] at H; exact H);clear H;have H := H1;clear H1;by_cases c6 : a0_2 = true
   ·subst c6;(have H1 : (some false) = some r := by rw [if_pos rfl] at H; exact H);clear H;have H := H1;clear H1;obtain rfl := Option.some.inj H;(go_enter Tryz.func42, Tryz.ntmps42);(go_wp2_with (first | ((with_reducible refine qmb (N := 1) rfl ?_); refine qob ?hg (N := 1) ?hd (cs := #[.string a0_0, .string a0_1, .bool true]) (t := 50) ?hr ?_; (case hd => rfl); (case hg => rfl); (case hr => exact zz7); intro gb115 hg w7 hbox hb; have n0_ := qa.mk (qo zz32 hb); have n1_ := qa.mk (hbox); have n2_ := qa.mk ((by rw [hg]; exact (ql zz32) : w.heap.size ≤ gb115)); have n3_ := qa.mk ((by rw [hg]; exact (ql zz32) : w.heap.size ≤ gb115)); clear HB; have HB := n0_; have BK115 := n1_; have GW115 := n2_; have GE115 := n3_; clear n0_ n1_ n2_ n3_; clear hb hbox hg; have hcz8_0 := ce BK115 0 (.string a0_0); have hcz8_1 := ce BK115 1 (.string a0_1); have hcz8_2 := ce BK115 2 (.bool true); have hfz8_0 := qe BK115.out 0; have hfz8_1 := qe BK115.out 1; have hfz8_2 := qe BK115.out 2) | ((with_reducible refine qv (f := 43) rfl ?_); refine qpb (some 5) rfl rfl Tryz.func43 (by kernel_rfl) rfl #[.string a0_0] rfl zz87 ?_; (with_reducible refine (qxc.calls k a0_0 true _ A2.out).mono ?_); rintro e w' ⟨rfl, ⟨nd, rfl⟩⟩; refine ⟨_, rfl, ?_⟩) | (go_at_call 40; (with_reducible refine (qcc.calls a0_1 true _ A4.out).mono ?_); rintro e w' ⟨rfl, ⟨nd, rfl⟩⟩)));go_ret;exact ⟨zz98, zz72⟩
   ·replace c6 := Bool.eq_false_iff.mpr c6;subst c6;(have H1 : (some (a0_1.toList != ([] : List UInt8))) = some r := by rw [if_neg (show ¬ (false = true) by decide)] at H; exact H);clear H;have H := H1;clear H1;obtain rfl := Option.some.inj H;(go_enter Tryz.func42, Tryz.ntmps42);(go_wp2_with (first | ((with_reducible refine qmb (N := 1) rfl ?_); refine qob ?hg (N := 1) ?hd (cs := #[.string a0_0, .string a0_1, .bool false]) (t := 50) ?hr ?_; (case hd => rfl); (case hg => rfl); (case hr => exact zz7); intro gb115 hg w9 hbox hb; have n0_ := qa.mk (qo zz32 hb); have n1_ := qa.mk (hbox); have n2_ := qa.mk ((by rw [hg]; exact (ql zz32) : w.heap.size ≤ gb115)); have n3_ := qa.mk ((by rw [hg]; exact (ql zz32) : w.heap.size ≤ gb115)); clear HB; have HB := n0_; have BK115 := n1_; have GW115 := n2_; have GE115 := n3_; clear n0_ n1_ n2_ n3_; clear hb hbox hg; have hcz10_0 := ce BK115 0 (.string a0_0); have hcz10_1 := ce BK115 1 (.string a0_1); have hcz10_2 := ce BK115 2 (.bool false); have hfz10_0 := qe BK115.out 0; have hfz10_1 := qe BK115.out 1; have hfz10_2 := qe BK115.out 2) | ((with_reducible refine qv (f := 43) rfl ?_); refine qpb (some 5) rfl rfl Tryz.func43 (by kernel_rfl) rfl #[.string a0_0] rfl zz87 ?_; (with_reducible refine (qxc.calls k a0_0 true _ A2.out).mono ?_); rintro e w' ⟨rfl, ⟨nd, rfl⟩⟩; refine ⟨_, rfl, ?_⟩) | (go_at_call 40; (with_reducible refine (qcc.calls a0_1 true _ A4.out).mono ?_); rintro e w' ⟨rfl, ⟨nd, rfl⟩⟩)));go_ret;exact ⟨zz98, zz72⟩
  ·replace c5 := Bool.eq_false_iff.mpr c5;subst c5;(have H1 : (some true) = some r := by rw [if_neg (show ¬ (false = true) by decide)] at H; exact H);clear H;have H := H1;clear H1;obtain rfl := Option.some.inj H;(go_enter Tryz.func42, Tryz.ntmps42);(go_wp2_with (first | ((with_reducible refine qmb (N := 1) rfl ?_); refine qob ?hg (N := 1) ?hd (cs := #[.string a0_0, .string a0_1, .bool a0_2]) (t := 50) ?hr ?_; (case hd => rfl); (case hg => rfl); (case hr => exact zz7); intro gb115 hg w11 hbox hb; have n0_ := qa.mk (qo zz32 hb); have n1_ := qa.mk (hbox); have n2_ := qa.mk ((by rw [hg]; exact (ql zz32) : w.heap.size ≤ gb115)); have n3_ := qa.mk ((by rw [hg]; exact (ql zz32) : w.heap.size ≤ gb115)); clear HB; have HB := n0_; have BK115 := n1_; have GW115 := n2_; have GE115 := n3_; clear n0_ n1_ n2_ n3_; clear hb hbox hg; have hcz12_0 := ce BK115 0 (.string a0_0); have hcz12_1 := ce BK115 1 (.string a0_1); have hcz12_2 := ce BK115 2 (.bool a0_2); have hfz12_0 := qe BK115.out 0; have hfz12_1 := qe BK115.out 1; have hfz12_2 := qe BK115.out 2) | ((with_reducible refine qv (f := 43) rfl ?_); refine qpb (some 5) rfl rfl Tryz.func43 (by kernel_rfl) rfl #[.string a0_0] rfl zz87 ?_; (with_reducible refine (qxc.calls k a0_0 true _ A2.out).mono ?_); rintro e w' ⟨rfl, ⟨nd, rfl⟩⟩; refine ⟨_, rfl, ?_⟩) | (go_at_call 40; (with_reducible refine (qcc.calls a0_1 false _ A4.out).mono ?_); rintro e w' ⟨rfl, ⟨nd, rfl⟩⟩)));go_ret;exact ⟨zz98, zz72⟩
 ·replace c3 := Bool.eq_false_iff.mpr c3;subst c3;(have H1 : (some true) = some r := by rw [if_neg (show ¬ (false = true) by decide)] at H; exact H);clear H;have H := H1;clear H1;obtain rfl := Option.some.inj H;(go_enter Tryz.func42, Tryz.ntmps42);(go_wp2_with (first | ((with_reducible refine qmb (N := 1) rfl ?_); refine qob ?hg (N := 1) ?hd (cs := #[.string a0_0, .string a0_1, .bool a0_2]) (t := 50) ?hr ?_; (case hd => rfl); (case hg => rfl); (case hr => exact zz7); intro gb115 hg w13 hbox hb; have n0_ := qa.mk (qo zz32 hb); have n1_ := qa.mk (hbox); have n2_ := qa.mk ((by rw [hg]; exact (ql zz32) : w.heap.size ≤ gb115)); have n3_ := qa.mk ((by rw [hg]; exact (ql zz32) : w.heap.size ≤ gb115)); clear HB; have HB := n0_; have BK115 := n1_; have GW115 := n2_; have GE115 := n3_; clear n0_ n1_ n2_ n3_; clear hb hbox hg; have hcz14_0 := ce BK115 0 (.string a0_0); have hcz14_1 := ce BK115 1 (.string a0_1); have hcz14_2 := ce BK115 2 (.bool a0_2); have hfz14_0 := qe BK115.out 0; have hfz14_1 := qe BK115.out 1; have hfz14_2 := qe BK115.out 2) | ((with_reducible refine qv (f := 43) rfl ?_); refine qpb (some 5) rfl rfl Tryz.func43 (by kernel_rfl) rfl #[.string a0_0] rfl zz87 ?_; (with_reducible refine (qxc.calls k a0_0 false _ A2.out).mono ?_); rintro e w' ⟨rfl, ⟨nd, rfl⟩⟩; refine ⟨_, rfl, ?_⟩)));go_ret;exact ⟨zz98, zz72⟩
def qfc.idx : List S50 → Int → Option Int
 | [], _ => some (-1)
 | c :: r, i => (query_Part_right_1.f 64 c.f0 c.f1 c.f2).bind fun t => if t = true then some i else qfc.idx r (i + 1)
theorem qfc.drop (l : List S50) (j : Nat) (h : j < l.length) : l.drop j = rd_T50 l (j : Int) :: l.drop (j + 1) := by
 rw [List.drop_eq_getElem_cons h];unfold rd_T50;rw [Int.toNat_natCast, List.getD_eq_getElem?_getD, List.getElem?_eq_getElem h];rfl
set_option maxHeartbeats 4000000 in
set_option maxRecDepth 100000 in
theorem qfc.index (A0 : Option Addr) (c0 : Nat) (l0 : List S50) (r : Int) (w : World) (hr0 : Kd.C k50 w A0 l0.length l0) (h : qfc.idx l0 0 = some r) :
  Calls Tryz.prog 59 #[.slice A0 l0.length c0, .func (.func 42) #[] #[]] w fun e w' => e = .returned (.int .i64 r) ∧ Below w.heap.size w w' := by
 have hm := hr0.2.1;have HR0 := qa.mk hr0;have HH := qa.mk h;have HB := qa.mk (Below.refl w.heap.size w);clear hr0 h;have hu := Tryz.underlying50;(go_enter Tryz.func59, Tryz.ntmps59);go_wp2
 go_loopg [8] (l0.length + 1) (fun kq v8 w' => ∃ (j : Nat), v8 = .int .i64 (j : Int) ∧ qa (j ≤ l0.length ∧ kq = l0.length + 1 - j ∧ qfc.idx (l0.drop j) (j : Int) = some r) ∧ qa (Below w.heap.size w w'))
 case atStart => exact ⟨0, rfl, ⟨Nat.zero_le _, rfl, HH.out⟩, HB⟩
 case round =>
  clear HB;obtain ⟨j, rfl, HJ, HB⟩ := hrel;obtain ⟨hj, hk, HI⟩ := HJ.out;clear HJ HH;subst hk;by_cases hlt : j < l0.length
  ·rw [qfc.drop l0 j hlt] at HI;simp only [qfc.idx] at HI;obtain ⟨t, ht1, HI⟩ := Option.bind_eq_some_iff.1 HI;have H1 := qa.mk ht1;have H2 := qa.mk HI;clear ht1 HI;obtain ⟨ad, e, hx0, hx1, hx2⟩ := at_T50 HR0.out (j : Int) (by omega) (by omega);cases e;replace hx0 := cx HB hx0;replace hx1 := cx HB hx1;replace hx2 := cx HB hx2;rw [Int.toNat_natCast] at hx0 hx1 hx2;cases t
   all_goals go_wp2_with (go_at_call 42; refine (query_Part_right_1.calls 64 _ _ _ _ _ H1.out).mono ?_; rintro e w2 ⟨rfl, hb⟩; have HB2 := qa.mk (qo HB.out hb); clear hb)
   ·go_roundg (l0.length + 1 - (j + 1))
    case measure => omega
    case rel => exact ⟨j + 1, by go_num, ⟨by omega, rfl, by simpa using H2.out⟩, HB2⟩
   ·obtain rfl := Option.some.inj H2.out;go_ret;exact ⟨rfl, HB2.out⟩
  ·have HI2 := qa.mk HI;clear HI;go_wp2;go_ret;refine ⟨?_, HB.out⟩;have h := HI2.out;rw [List.drop_eq_nil_of_le (by omega)] at h;obtain rfl := Option.some.inj h;rfl
set_option maxHeartbeats 4000000 in
set_option maxRecDepth 100000 in
theorem qfc.contains (A0 : Option Addr) (c0 : Nat) (l0 : List S50) (r : Int) (w : World) (hr0 : Kd.C k50 w A0 l0.length l0) (h : qfc.idx l0 0 = some r) :
  Calls Tryz.prog 41 #[.slice A0 l0.length c0, .func (.func 42) #[] #[]] w fun e w' => e = .returned (.bool (decide (0 ≤ r))) ∧ Below w.heap.size w w' := by
 have HR0 := qa.mk hr0;have HH := qa.mk h;clear hr0 h;(go_enter Tryz.func41, Tryz.ntmps41);(go_wp2_with (go_at_call 59; refine (qfc.index _ _ _ _ _ HR0.out HH.out).mono ?_; rintro e w2 ⟨rfl, hb⟩; have HB2 := qa.mk hb; clear hb));go_ret;exact ⟨rfl, HB2.out⟩
def qfc.f (a0_0 : Bool) (a0_1 : Bool) (a0_2 : ByteArray) (a0_3 : ByteArray) (l0_4 : List S50) : Option Bool :=
 (qed.f 64 a0_2).bind fun tg => (qfc.idx l0_4 0).bind fun j => some ((a0_2.toList == [] || tg) && !(a0_1 == (a0_3.toList == [])) && decide ((a0_3.size : Int) ≤ 65536) && !decide (8 < (l0_4.length : Int)) && !decide (0 ≤ j))
set_option maxHeartbeats 8000000 in
set_option maxRecDepth 100000 in
theorem qfc.calls (a0_0 : Bool) (a0_1 : Bool) (a0_2 : ByteArray) (a0_3 : ByteArray) (A0_4 : Option Addr) (c0_4 : Nat) (l0_4 : List S50) (r : Bool) (w : World) (hr0_4 : Kd.C k50 w A0_4 l0_4.length l0_4) (hc0_4 : l0_4.length ≤ c0_4) (h : qfc.f a0_0 a0_1 a0_2 a0_3 l0_4 = some r) :
  Calls Tryz.prog 26 #[.agg #[.bool a0_0, .bool a0_1, .string a0_2, .string a0_3, .slice A0_4 l0_4.length c0_4]] w fun e w' => e = .returned (.bool r) ∧ Below w.heap.size w w' := by
 obtain ⟨tg, ht, h1⟩ := Option.bind_eq_some_iff.1 h;obtain ⟨j, hj, h2⟩ := Option.bind_eq_some_iff.1 h1;have HT := qa.mk ht;have HJ := qa.mk hj;obtain rfl := Option.some.inj h2;clear h h1 h2 ht hj hc0_4;have HX : ∀ W, Below w.heap.size w W → qa (Kd.C k50 W A0_4 l0_4.length l0_4) := fun W hb => ⟨Kd.C_below hr0_4 hb⟩;clear hr0_4;have fit : ∀ b, decide ((a0_3.size : Int) ≤ 65536) = b → qa (qcc.f a0_3 = some b) := fun b hb => ⟨by rw [← hb]; rfl⟩;have hu := Tryz.underlying48;have ce : ∀ s : ByteArray, ∃ b, (s.toList == ([] : List UInt8)) = b ∧ (s.toList != ([] : List UInt8)) = !b := fun s => ⟨_, rfl, rfl⟩;obtain ⟨b1, c1, c1'⟩ := ce a0_2;obtain ⟨b2, c2, c2'⟩ := ce a0_3;clear ce;rw [c1, c2];by_cases c0 : b1 = false ∧ tg = false
 ·obtain ⟨rfl, rfl⟩ := c0;simp only [Bool.not_false] at c1';clear HJ HX fit c2 c2';go_enter Tryz.func26, Tryz.ntmps26; go_wp2_with (first | (go_at_call 39; refine (qed.calls 64 _ _ _ HT.out).mono ?_; rintro e w2 ⟨rfl, ⟨nd, rfl⟩⟩) | (go_at_call 40; refine (qcc.calls _ _ _ HF.out).mono ?_; rintro e w2 ⟨rfl, ⟨nd, rfl⟩⟩) | (go_at_call 41; refine (qfc.contains _ _ _ _ _ ?hx HJ.out).mono ?_; (case hx => exact zz30); rintro e w2 ⟨rfl, hb⟩; have HB := qa.mk (qo (w := w) zz27 hb); clear hb)); go_ret; refine ⟨by simp [*], ?_⟩; repeat (first | exact HB.out | exact Below.refl _ _ | apply qb | apply qd | apply qc)
 (have c0' : (b1 || tg) = true := by cases b1 <;> cases tg <;> simp_all);rw [c0'];(have hcase : ∀ P : Prop, (b1 = true → P) → (b1 = false → tg = true → P) → P := fun P h1 h2 => by cases b1 <;> cases tg <;> simp_all);clear c0 c0';by_cases hbad : a0_1 = b2
 ·subst hbad;clear HJ HX fit;refine hcase _ ?_ ?_
  ·rintro rfl;clear hcase;cases a0_1
   all_goals (simp only [Bool.not_true, Bool.not_false] at c1' c2'; go_enter Tryz.func26, Tryz.ntmps26; go_wp2_with (first | (go_at_call 39; refine (qed.calls 64 _ _ _ HT.out).mono ?_; rintro e w2 ⟨rfl, ⟨nd, rfl⟩⟩) | (go_at_call 40; refine (qcc.calls _ _ _ HF.out).mono ?_; rintro e w2 ⟨rfl, ⟨nd, rfl⟩⟩) | (go_at_call 41; refine (qfc.contains _ _ _ _ _ ?hx HJ.out).mono ?_; (case hx => exact zz30); rintro e w2 ⟨rfl, hb⟩; have HB := qa.mk (qo (w := w) zz27 hb); clear hb)); go_ret; refine ⟨by simp [*], ?_⟩; repeat (first | exact HB.out | exact Below.refl _ _ | apply qb | apply qd | apply qc))
  ·rintro rfl rfl;clear hcase;cases a0_1
   all_goals (simp only [Bool.not_true, Bool.not_false] at c1' c2'; go_enter Tryz.func26, Tryz.ntmps26; go_wp2_with (first | (go_at_call 39; refine (qed.calls 64 _ _ _ HT.out).mono ?_; rintro e w2 ⟨rfl, ⟨nd, rfl⟩⟩) | (go_at_call 40; refine (qcc.calls _ _ _ HF.out).mono ?_; rintro e w2 ⟨rfl, ⟨nd, rfl⟩⟩) | (go_at_call 41; refine (qfc.contains _ _ _ _ _ ?hx HJ.out).mono ?_; (case hx => exact zz30); rintro e w2 ⟨rfl, hb⟩; have HB := qa.mk (qo (w := w) zz27 hb); clear hb)); go_ret; refine ⟨by simp [*], ?_⟩; repeat (first | exact HB.out | exact Below.refl _ _ | apply qb | apply qd | apply qc))
 (obtain rfl : b2 = !a0_1 := by cases a0_1 <;> cases b2 <;> simp_all);clear hbad;obtain ⟨b3, c3⟩ : ∃ b, decide ((a0_3.size : Int) ≤ 65536) = b := ⟨_, rfl⟩;obtain ⟨b4, c4⟩ : ∃ b, decide (8 < (l0_4.length : Int)) = b := ⟨_, rfl⟩;have HF := fit _ c3;clear fit;rw [c3, c4];cases b3
 ·clear HJ HX c4;refine hcase _ ?_ ?_
  ·rintro rfl;clear hcase;cases a0_1
   all_goals (simp only [Bool.not_true, Bool.not_false] at c1' c2'; go_enter Tryz.func26, Tryz.ntmps26; go_wp2_with (first | (go_at_call 39; refine (qed.calls 64 _ _ _ HT.out).mono ?_; rintro e w2 ⟨rfl, ⟨nd, rfl⟩⟩) | (go_at_call 40; refine (qcc.calls _ _ _ HF.out).mono ?_; rintro e w2 ⟨rfl, ⟨nd, rfl⟩⟩) | (go_at_call 41; refine (qfc.contains _ _ _ _ _ ?hx HJ.out).mono ?_; (case hx => exact zz30); rintro e w2 ⟨rfl, hb⟩; have HB := qa.mk (qo (w := w) zz27 hb); clear hb)); go_ret; refine ⟨by simp [*], ?_⟩; repeat (first | exact HB.out | exact Below.refl _ _ | apply qb | apply qd | apply qc))
  ·rintro rfl rfl;clear hcase;cases a0_1
   all_goals (simp only [Bool.not_true, Bool.not_false] at c1' c2'; go_enter Tryz.func26, Tryz.ntmps26; go_wp2_with (first | (go_at_call 39; refine (qed.calls 64 _ _ _ HT.out).mono ?_; rintro e w2 ⟨rfl, ⟨nd, rfl⟩⟩) | (go_at_call 40; refine (qcc.calls _ _ _ HF.out).mono ?_; rintro e w2 ⟨rfl, ⟨nd, rfl⟩⟩) | (go_at_call 41; refine (qfc.contains _ _ _ _ _ ?hx HJ.out).mono ?_; (case hx => exact zz30); rintro e w2 ⟨rfl, hb⟩; have HB := qa.mk (qo (w := w) zz27 hb); clear hb)); go_ret; refine ⟨by simp [*], ?_⟩; repeat (first | exact HB.out | exact Below.refl _ _ | apply qb | apply qd | apply qc))
 cases b4
 all_goals
  refine hcase _ ?_ ?_
  ·rintro rfl;clear hcase;cases a0_1
   all_goals (simp only [Bool.not_true, Bool.not_false] at c1' c2'; go_enter Tryz.func26, Tryz.ntmps26; go_wp2_with (first | (go_at_call 39; refine (qed.calls 64 _ _ _ HT.out).mono ?_; rintro e w2 ⟨rfl, ⟨nd, rfl⟩⟩) | (go_at_call 40; refine (qcc.calls _ _ _ HF.out).mono ?_; rintro e w2 ⟨rfl, ⟨nd, rfl⟩⟩) | (go_at_call 41; refine (qfc.contains _ _ _ _ _ ?hx HJ.out).mono ?_; (case hx => exact zz30); rintro e w2 ⟨rfl, hb⟩; have HB := qa.mk (qo (w := w) zz27 hb); clear hb)); go_ret; refine ⟨by simp [*], ?_⟩; repeat (first | exact HB.out | exact Below.refl _ _ | apply qb | apply qd | apply qc))
  ·rintro rfl rfl;clear hcase;cases a0_1
   all_goals (simp only [Bool.not_true, Bool.not_false] at c1' c2'; go_enter Tryz.func26, Tryz.ntmps26; go_wp2_with (first | (go_at_call 39; refine (qed.calls 64 _ _ _ HT.out).mono ?_; rintro e w2 ⟨rfl, ⟨nd, rfl⟩⟩) | (go_at_call 40; refine (qcc.calls _ _ _ HF.out).mono ?_; rintro e w2 ⟨rfl, ⟨nd, rfl⟩⟩) | (go_at_call 41; refine (qfc.contains _ _ _ _ _ ?hx HJ.out).mono ?_; (case hx => exact zz30); rintro e w2 ⟨rfl, hb⟩; have HB := qa.mk (qo (w := w) zz27 hb); clear hb)); go_ret; refine ⟨by simp [*], ?_⟩; repeat (first | exact HB.out | exact Below.refl _ _ | apply qb | apply qd | apply qc))
mutual
def qcb.j0 : Nat → List (S48) → Bool → Option (Int)
 | 0, _, _ => none
 | k + 1, x0, x18 => if x18 = true then (some 2) else (qcb.l0 k x0 (x0.length : Int) 0)
def qcb.l0 : Nat → List (S48) → Int → Int → Option (Int)
 | 0, _, _, _ => none
 | k + 1, x19, x20, x21 => if x21 < x20 then (if 0 ≤ x21 then (if x21 < (x19.length : Int) then ((qfc.f ((qu x19 x21).f0) ((qu x19 x21).f1) ((qu x19 x21).f2) ((qu x19 x21).f3) ((qu x19 x21).f4)).bind fun t121 => (if t121 = true then (qcb.l0 k x19 x20 (wrap64 (x21 + 1))) else (some 2))) else (none)) else (none)) else (some 0)
end
def qcb.f (k : Nat) (l0 : List (S48)) : Option (Int) := if (l0.length : Int) = 0 then (qcb.j0 k l0 true) else (if (l0.length : Int) > 8 then (qcb.j0 k l0 true) else (if 0 < (l0.length : Int) then (qcb.j0 k l0 ((qu l0 0).f0)) else (none)))
theorem qcb.mono_l : ∀ k, (∀ y0 y1, LeO (qcb.j0 k y0 y1) (qcb.j0 (k + 1) y0 y1)) ∧ (∀ y0 y1 y2, LeO (qcb.l0 k y0 y1 y2) (qcb.l0 (k + 1) y0 y1 y2))
 | 0 => ⟨fun _ _ r h => by simp [qcb.j0] at h, fun _ _ _ r h => by simp [qcb.l0] at h⟩
 | k + 1 => by
  obtain ⟨ih0, ih1⟩ := qcb.mono_l k;refine ⟨?_, ?_⟩
  ·intro y0 y1;unfold qcb.j0
   repeat' first
   | (with_reducible exact ih0 _ _)
   | (with_reducible exact ih1 _ _ _)
   | (with_reducible exact LeO.refl _)
   | (with_reducible exact LeO.none _)
   | (with_reducible refine LeO.ite ?_ ?_)
   | (with_reducible refine LeO.bind ?_ (fun _ => ?_))
   | exact ih0 _ _
   | exact ih1 _ _ _
   | exact LeO.none _
   | refine LeO.ite ?_ ?_
   | refine LeO.bind ?_ (fun _ => ?_)
  ·intro y0 y1 y2;unfold qcb.l0
   repeat' first
   | (with_reducible exact ih0 _ _)
   | (with_reducible exact ih1 _ _ _)
   | (with_reducible exact LeO.refl _)
   | (with_reducible exact LeO.none _)
   | (with_reducible refine LeO.ite ?_ ?_)
   | (with_reducible refine LeO.bind ?_ (fun _ => ?_))
   | exact ih0 _ _
   | exact ih1 _ _ _
   | exact LeO.none _
   | refine LeO.ite ?_ ?_
   | refine LeO.bind ?_ (fun _ => ?_)
theorem qcb.mono : ∀ a0 k, LeO (qcb.f k a0) (qcb.f (k + 1) a0) := by
 intro a0 k;obtain ⟨ih0, ih1⟩ := qcb.mono_l k;unfold qcb.f
 repeat' first
   | (with_reducible exact ih0 _ _)
   | (with_reducible exact ih1 _ _ _)
   | (with_reducible exact LeO.refl _)
   | (with_reducible exact LeO.none _)
   | (with_reducible refine LeO.ite ?_ ?_)
   | (with_reducible refine LeO.bind ?_ (fun _ => ?_))
   | exact ih0 _ _
   | exact ih1 _ _ _
   | exact LeO.none _
   | refine LeO.ite ?_ ?_
   | refine LeO.bind ?_ (fun _ => ?_)
set_option maxHeartbeats 8000000 in
set_option maxRecDepth 100000 in
theorem qcb.calls (k : Nat) (A0 : Option Addr) (c0 : Nat) (l0 : List (S48)) (r : Int) (w : World) (hr0 : Kd.C k48 w A0 l0.length l0) (hc0 : l0.length ≤ c0) (h : qcb.f k l0 = some r) :
  Calls Tryz.prog 10 #[.slice A0 l0.length c0] w fun e w' => e = .returned (.int .i64 r) ∧ Below w.heap.size w w' := by
 have hu48 := Tryz.underlying48;have HR0 := qa.mk hr0;clear hr0 hc0;have HB := qa.mk (Below.refl w.heap.size w);have H : (if (l0.length : Int) = 0 then (qcb.j0 k l0 true) else (if (l0.length : Int) > 8 then (qcb.j0 k l0 true) else (if 0 < (l0.length : Int) then (qcb.j0 k l0 ((qu l0 0).f0)) else (none)))) = some r := h;clear h;have HC2 := qa.mk H;clear H;(go_enter Tryz.func10, Tryz.ntmps10);go_upto_region 1 with (fail)
 go_cut [18] (fun v18 wc => ∃ (kq : Nat) (x18_1 : Bool), v18 = .bool x18_1 ∧ qa (qcb.j0 kq l0 x18_1 = some r) ∧ qa (kq ≤ k) ∧ qa (Below w.heap.size w wc))
 case first =>
  have H := HC2.out;clear HC2;by_cases c3 : (l0.length : Int) = 0
  ·rw [if_pos c3] at H;have c3b0 : ((l0.length : Int) == 0) = true := beq_iff_eq.mpr c3;have c3b1 : ((l0.length : Int) != 0) = false := bne_eq_false_iff_eq.mpr c3;clear c3
   (first | rw [c3b0] | (simp only [i64_w, i32_w]; rw [c3b0]) | rw [c3b2] | skip)
   have H' := qa.mk H;clear H;go_wp2;go_meet
   case rel => exact ⟨_, (true), zz8, H', ⟨zz4⟩, ⟨zz32⟩⟩
  ·rw [if_neg c3] at H;have c3b0 : ((l0.length : Int) == 0) = false := beq_eq_false_iff_ne.mpr c3;have c3b1 : ((l0.length : Int) != 0) = true := bne_iff_ne.mpr c3;have c3b2 : ¬ (l0 = []) := fun h_ => c3 (by rw [h_]; rfl)
   (first | rw [c3b0] | (simp only [i64_w, i32_w]; rw [c3b0]) | rw [c3b2] | skip)
   by_cases c4 : (l0.length : Int) > 8
   ·rw [if_pos c4] at H;have c4b0 : decide (8 < (l0.length : Int)) = true := decide_eq_true c4;have c4b1 : decide (8 < l0.length) = true := decide_eq_true (by omega);clear c4;have H' := qa.mk H;clear H;go_wp2;go_meet
    case rel => exact ⟨_, (true), zz8, H', ⟨zz4⟩, ⟨zz32⟩⟩
   ·rw [if_neg c4] at H;have c4b0 : decide (8 < (l0.length : Int)) = false := decide_eq_false c4;have c4b1 : decide (8 < l0.length) = false := decide_eq_false (by omega);clear c4;by_cases c5 : 0 < (l0.length : Int)
    ·rw [if_pos c5] at H;have c5b0 : decide (0 < (l0.length : Int)) = true := decide_eq_true c5;have c5b1 : decide (0 < l0.length) = true := decide_eq_true (by omega);clear c5;have H' := qa.mk H;clear H;have p118 : 0 ≤ (0 : Int) := (by omega);have q118 : 0 < (l0.length : Int) := of_decide_eq_true zz13;obtain ⟨ad118, A118_4, c118_4, e118, hx118_0, hx118_1, hx118_2, hx118_3, hx118_4, hl118_4, hi118_4⟩ := at_T48 HR0.out 0 p118 q118;cases e118;have qi118 : (0 < l0.length) = True := eq_true (by omega)
     (try rw [show ((0 : Int)).toNat = 0 from rfl] at hx118_0)
     (try rw [show 0 * 5 = 0 from rfl] at hx118_0)
     (try rw [Addr.add_zero'] at hx118_0)
     (try rw [show ((0 : Int)).toNat = 0 from rfl] at hx118_1)
     (try rw [show 0 * 5 = 0 from rfl] at hx118_1)
     (try rw [Addr.add_zero'] at hx118_1)
     (try rw [show ((0 : Int)).toNat = 0 from rfl] at hx118_2)
     (try rw [show 0 * 5 = 0 from rfl] at hx118_2)
     (try rw [Addr.add_zero'] at hx118_2)
     (try rw [show ((0 : Int)).toNat = 0 from rfl] at hx118_3)
     (try rw [show 0 * 5 = 0 from rfl] at hx118_3)
     (try rw [Addr.add_zero'] at hx118_3)
     (try rw [show ((0 : Int)).toNat = 0 from rfl] at hx118_4)
     (try rw [show 0 * 5 = 0 from rfl] at hx118_4)
     (try rw [Addr.add_zero'] at hx118_4)
     replace hx118_0 := cx HB hx118_0;replace hx118_1 := cx HB hx118_1;replace hx118_2 := cx HB hx118_2;replace hx118_3 := cx HB hx118_3;replace hx118_4 := cx HB hx118_4;clear hi118_4 hl118_4;replace p118 := eq_true p118;replace q118 := eq_true q118;go_wp2;go_meet
     case rel => exact ⟨_, ((qu l0 0).f0), zz8, H', ⟨zz4⟩, ⟨zz32⟩⟩
    ·rw [if_neg c5] at H;exact absurd H (by simp)
 case rest =>
  clear HC2;obtain ⟨kq, x18_1, rfl, HA, HJ1, HB⟩ := hcut
  cases kq with
  | zero => exact absurd HA.out (by simp [qcb.j0])
  | succ kj1 =>
   have H := HA.out;clear HA;simp only [qcb.j0] at H;by_cases c6 : x18_1 = true
   ·subst c6;(have H1 : (some 2) = some r := by rw [if_pos rfl] at H; exact H);clear H;have H := H1;clear H1;obtain rfl := Option.some.inj H;go_wp2;go_ret;exact ⟨zz98, zz32⟩
   ·replace c6 := Bool.eq_false_iff.mpr c6;subst c6;(have H1 : (qcb.l0 kj1 l0 (l0.length : Int) 0) = some r := by rw [if_neg (show ¬ (false = true) by decide)] at H; exact H);clear H;have H := H1;clear H1;have H' := qa.mk H;clear H;go_wp2
    go_loopg [21] kj1 (fun kq v21 w' => ∃ (x21_2 : Int), v21 = .int .i64 x21_2 ∧ qa (qcb.l0 kq l0 (l0.length : Int) x21_2 = some r) ∧ qa (kq ≤ kj1) ∧ qa (Below w.heap.size w w'))
    case atStart => exact ⟨(0), zz8, H', ⟨Nat.le_refl _⟩, ⟨zz32⟩⟩
    case round =>
     clear H';obtain ⟨x21_2, rfl, HA, HK2, HB⟩ := hrel
     cases gk with
     | zero => exact absurd HA.out (by simp [qcb.l0])
     | succ k2 =>
      have H := HA.out;clear HA;simp only [qcb.l0] at H;by_cases c7 : x21_2 < (l0.length : Int)
      ·rw [if_pos c7] at H;have c7b0 : decide (x21_2 < (l0.length : Int)) = true := decide_eq_true c7;clear c7;by_cases c8 : 0 ≤ x21_2
       ·rw [if_pos c8] at H;have c8b0 : decide (0 ≤ x21_2) = true := decide_eq_true c8;clear c8;by_cases c9 : x21_2 < (l0.length : Int)
        ·rw [if_pos c9] at H;have c9b0 : decide (x21_2 < (l0.length : Int)) = true := decide_eq_true c9;clear c9;replace H := Option.bind_eq_some_iff.mp H;obtain ⟨t121, A100, H⟩ := H;replace H : (if t121 = true then (qcb.l0 k2 l0 (l0.length : Int) (wrap64 (x21_2 + 1))) else (some 2)) = some r := H;have A10 := qa.mk A100;clear A100;by_cases c11 : t121 = true
         ·subst c11;(have H1 : (qcb.l0 k2 l0 (l0.length : Int) (wrap64 (x21_2 + 1))) = some r := by rw [if_pos rfl] at H; exact H);clear H;have H := H1;clear H1;have H' := qa.mk H;clear H;have p119 : 0 ≤ (x21_2 : Int) := of_decide_eq_true zz13;have q119 : x21_2 < (l0.length : Int) := of_decide_eq_true zz13;obtain ⟨ad119, A119_4, c119_4, e119, hx119_0, hx119_1, hx119_2, hx119_3, hx119_4, hl119_4, hi119_4⟩ := at_T48 HR0.out x21_2 p119 q119;cases e119;replace hx119_0 := cx HB hx119_0;replace hx119_1 := cx HB hx119_1;replace hx119_2 := cx HB hx119_2;replace hx119_3 := cx HB hx119_3;replace hx119_4 := cx HB hx119_4;have HR119_4 := qa.mk hi119_4;have HC119_4 := qa.mk hl119_4;clear hi119_4 hl119_4;replace p119 := eq_true p119;replace q119 := eq_true q119;(go_wp2_with (first | ((with_reducible refine qmb (N := 4) rfl ?_); (try (refine qyc (by rfl) ?_; dsimp only)); refine qob ?hg (N := 4) ?hd (cs := #[.bool false, .bool false, .string (⟨#[]⟩ : ByteArray), .string (⟨#[]⟩ : ByteArray), .slice none 0 0]) (t := 48) ?hr ?_; (case hd => rfl); (case hg => rfl); (case hr => exact zz7); intro gb120 hg w12 hbox hb; have n0_ := qa.mk (qo zz32 hb); have n1_ := qa.mk (hbox); have n2_ := qa.mk ((by rw [hg]; exact (ql zz32) : w.heap.size ≤ gb120)); have n3_ := qa.mk ((by rw [hg]; exact (ql zz32) : w.heap.size ≤ gb120)); clear HB; have HB := n0_; have BK120 := n1_; have GW120 := n2_; have GE120 := n3_; clear n0_ n1_ n2_ n3_; clear hb hbox hg; have hcz13_0 := ce BK120 0 (.bool false); have hcz13_1 := ce BK120 1 (.bool false); have hcz13_2 := ce BK120 2 (.string (⟨#[]⟩ : ByteArray)); have hcz13_3 := ce BK120 3 (.string (⟨#[]⟩ : ByteArray)); have hcz13_4 := ce BK120 4 (.slice none 0 0); have hfz13_0 := qe BK120.out 0; have hfz13_1 := qe BK120.out 1; have hfz13_2 := qe BK120.out 2; have hfz13_3 := qe BK120.out 3; have hfz13_4 := qe BK120.out 4) | ((with_reducible refine qv (f := 26) rfl ?_); refine qpb (some 26) rfl rfl Tryz.func26 (by kernel_rfl) rfl #[.agg #[.bool ((qu l0 x21_2).f0), .bool ((qu l0 x21_2).f1), .string ((qu l0 x21_2).f2), .string ((qu l0 x21_2).f3), .slice A119_4 ((qu l0 x21_2).f4).length c119_4]] rfl zz87 ?_; (with_reducible refine (qfc.calls ((qu l0 x21_2).f0) ((qu l0 x21_2).f1) ((qu l0 x21_2).f2) ((qu l0 x21_2).f3) _ _ ((qu l0 x21_2).f4) true _ ?side1 ?side2 A10.out).mono ?_); (case side1 => exact Kd.C_below HR119_4.out zz73); (case side2 => exact HC119_4.out); rintro e w14 ⟨rfl, hb⟩; refine ⟨_, rfl, ?_⟩; have n0_ := qa.mk (qvb (g := gb120) (o := .cells #[.bool ((qu l0 x21_2).f0), .bool ((qu l0 x21_2).f1), .string ((qu l0 x21_2).f2), .string ((qu l0 x21_2).f3), .slice A119_4 ((qu l0 x21_2).f4).length c119_4] 48 (0, 0)) zz88 hb); have n1_ := qa.mk (qo zz73 hb); clear BK120; clear HB; have BK120 := n0_; have HB := n1_; clear n0_ n1_; (try clear hb); (try clear hb2); (try clear hk); (try clear hi))));go_roundg k2
          case measure => have := HJ1.out; have := HK2.out; omega
          case rel => exact ⟨(wrap64 (x21_2 + 1)), zz8, H', ⟨by have := HJ1.out; have := HK2.out; omega⟩, ⟨zz73⟩⟩
         ·replace c11 := Bool.eq_false_iff.mpr c11;subst c11;(have H1 : (some 2) = some r := by rw [if_neg (show ¬ (false = true) by decide)] at H; exact H);clear H;have H := H1;clear H1;obtain rfl := Option.some.inj H;have p119 : 0 ≤ (x21_2 : Int) := of_decide_eq_true zz13;have q119 : x21_2 < (l0.length : Int) := of_decide_eq_true zz13;obtain ⟨ad119, A119_4, c119_4, e119, hx119_0, hx119_1, hx119_2, hx119_3, hx119_4, hl119_4, hi119_4⟩ := at_T48 HR0.out x21_2 p119 q119;cases e119;replace hx119_0 := cx HB hx119_0;replace hx119_1 := cx HB hx119_1;replace hx119_2 := cx HB hx119_2;replace hx119_3 := cx HB hx119_3;replace hx119_4 := cx HB hx119_4;have HR119_4 := qa.mk hi119_4;have HC119_4 := qa.mk hl119_4;clear hi119_4 hl119_4;replace p119 := eq_true p119;replace q119 := eq_true q119;(go_wp2_with (first | ((with_reducible refine qmb (N := 4) rfl ?_); (try (refine qyc (by rfl) ?_; dsimp only)); refine qob ?hg (N := 4) ?hd (cs := #[.bool false, .bool false, .string (⟨#[]⟩ : ByteArray), .string (⟨#[]⟩ : ByteArray), .slice none 0 0]) (t := 48) ?hr ?_; (case hd => rfl); (case hg => rfl); (case hr => exact zz7); intro gb120 hg w15 hbox hb; have n0_ := qa.mk (qo zz32 hb); have n1_ := qa.mk (hbox); have n2_ := qa.mk ((by rw [hg]; exact (ql zz32) : w.heap.size ≤ gb120)); have n3_ := qa.mk ((by rw [hg]; exact (ql zz32) : w.heap.size ≤ gb120)); clear HB; have HB := n0_; have BK120 := n1_; have GW120 := n2_; have GE120 := n3_; clear n0_ n1_ n2_ n3_; clear hb hbox hg; have hcz16_0 := ce BK120 0 (.bool false); have hcz16_1 := ce BK120 1 (.bool false); have hcz16_2 := ce BK120 2 (.string (⟨#[]⟩ : ByteArray)); have hcz16_3 := ce BK120 3 (.string (⟨#[]⟩ : ByteArray)); have hcz16_4 := ce BK120 4 (.slice none 0 0); have hfz16_0 := qe BK120.out 0; have hfz16_1 := qe BK120.out 1; have hfz16_2 := qe BK120.out 2; have hfz16_3 := qe BK120.out 3; have hfz16_4 := qe BK120.out 4) | ((with_reducible refine qv (f := 26) rfl ?_); refine qpb (some 26) rfl rfl Tryz.func26 (by kernel_rfl) rfl #[.agg #[.bool ((qu l0 x21_2).f0), .bool ((qu l0 x21_2).f1), .string ((qu l0 x21_2).f2), .string ((qu l0 x21_2).f3), .slice A119_4 ((qu l0 x21_2).f4).length c119_4]] rfl zz87 ?_; (with_reducible refine (qfc.calls ((qu l0 x21_2).f0) ((qu l0 x21_2).f1) ((qu l0 x21_2).f2) ((qu l0 x21_2).f3) _ _ ((qu l0 x21_2).f4) false _ ?side1 ?side2 A10.out).mono ?_); (case side1 => exact Kd.C_below HR119_4.out zz73); (case side2 => exact HC119_4.out); rintro e w17 ⟨rfl, hb⟩; refine ⟨_, rfl, ?_⟩; have n0_ := qa.mk (qvb (g := gb120) (o := .cells #[.bool ((qu l0 x21_2).f0), .bool ((qu l0 x21_2).f1), .string ((qu l0 x21_2).f2), .string ((qu l0 x21_2).f3), .slice A119_4 ((qu l0 x21_2).f4).length c119_4] 48 (0, 0)) zz88 hb); have n1_ := qa.mk (qo zz73 hb); clear BK120; clear HB; have BK120 := n0_; have HB := n1_; clear n0_ n1_; (try clear hb); (try clear hb2); (try clear hk); (try clear hi))));go_ret;exact ⟨zz98, zz73⟩
        ·rw [if_neg c9] at H;exact absurd H (by simp)
       ·rw [if_neg c8] at H;exact absurd H (by simp)
      ·rw [if_neg c7] at H;have c7b0 : decide (x21_2 < (l0.length : Int)) = false := decide_eq_false c7;clear c7;obtain rfl := Option.some.inj H;go_wp2;go_ret;exact ⟨zz98, zz32⟩
end Go.Proofs.YtjbobecnlpiejaaGreatDoor.Q
namespace Go.Proofs.YtjbobecnlpiejaaGreatDoor.Q.P
open Go.Proofs.YtjbobecnlpiejaaGreatDoorZ
open Go.RowKit Go.Proofs.YtjbobecnlpiejaaGreatDoorW.PrintWords Go.Proofs.YtjbobecnlpiejaaGreatDoorW.PrintLast Go.Proofs.YtjbobecnlpiejaaGreatDoorW.PrintMore
def bbL : Nat → Nat → List Bool
 | 0, _ => []
 | n + 1, m => (m % 2 == 1) :: bbL n (m / 2)
def bb (n m : Nat) : Array Bool := (bbL n m).toArray
section
variable {P : Program} {ops : Array Oper} {Q : Exit → Act → World → Prop} {md : Region.Mode} {S : World → Prop} {ds : List Nat} (i : Nat) (N : Option Tmp) {oi : Oper} {v : Value} {fuel : Nat} {l : Array Bool} {a : Act} {w : World} (l' : Array Bool) {a' : Act}
theorem pS (h : qqc P md ops Q S ds fuel l' a' w) (hc : anyB md ops l l' i = true := by first | exact any_of HT_.out (by kernel_rfl) | kernel_rfl) (hi : ops[i]? = some oi := by rfl) (hN : oi.dst = N := by rfl) (hQ : ∀ c a w, Q (.panic c) (a.put oi.dst v) w → Q (.panic c) a w := by exact fun _ _ _ h => h) (hy : Yields P ops oi v a := by exact Or.inl ⟨by rfl, by intro w'; go_simp; with_reducible rfl⟩) (ha : a.put N v = a' := by simp only [Act.put, List.setIfInBounds_toArray, List.set_cons_zero, List.set_cons_succ, i64_w, i32_w]; rfl) : qqc P md ops Q S ds (fuel + 1) l a w := pure_ l' hi hN hc hQ hy ha h
theorem pU (h : qqc P md ops Q S ds fuel l' a' w) (hc : anyB md ops l l' i = true := by first | exact any_of HT_.out (by kernel_rfl) | kernel_rfl) (hi : ops[i]? = some oi := by rfl) (hN : oi.dst = N := by rfl) (hQ : ∀ c a w, Q (.panic c) (a.put oi.dst undef) w → Q (.panic c) a w := by exact fun _ _ _ h => h) (hy : Yields P ops oi undef a := by exact Or.inr ⟨by rfl, rfl⟩) (ha : a.put N undef = a' := by simp only [Act.put, List.setIfInBounds_toArray, List.set_cons_zero, List.set_cons_succ, i64_w, i32_w]; rfl) : qqc P md ops Q S ds (fuel + 1) l a w := pure_ l' hi hN hc hQ hy ha h
theorem tS (hi : ops[i]? = some oi) (hS : S w) (hz : ∀ w', S w' → (execOp a.eval oi).run P w' = .ok (.value v) w') (h : qqc P md ops Q S ds fuel l' a' w) (hc : takeB md ops ds l l' i = true := by first | exact take_ofW HT_.out HW_.out (by kernel_rfl) | kernel_rfl) (hN : oi.dst = N := by rfl) (hQ : ∀ c a w, Q (.panic c) (a.put oi.dst v) w → Q (.panic c) a w := by exact fun _ _ _ h => h) (hy : Region.wanted oi (yielded ops a.tmps) = true := by rfl) (ha : a.put N v = a' := by simp only [Act.put, List.setIfInBounds_toArray, List.set_cons_zero, List.set_cons_succ, i64_w, i32_w]; rfl) : qqc P md ops Q S ds (fuel + 1) l a w := take_ l' hi hN hc hQ (.inl ⟨hy, hz⟩) hS ha h
end
end Go.Proofs.YtjbobecnlpiejaaGreatDoor.Q.P
namespace Go.Proofs.YtjbobecnlpiejaaGreatDoor.Q
open Go.Proofs.YtjbobecnlpiejaaGreatDoorZ
open Go.Proofs.YtjbobecnlpiejaaGreatDoor.Q.P Go.RowKit Go.Proofs.YtjbobecnlpiejaaGreatDoorW.PrintWords Go.Proofs.YtjbobecnlpiejaaGreatDoorW.PrintLast Go.Proofs.YtjbobecnlpiejaaGreatDoorW.PrintMore
attribute [local go_sem] qac qbc qhc qgc
mutual
def qsb.l0 : Nat → List (S48) → List (S58) → Int → Int → Option ((List (S58)))
 | 0, _, _, _, _ => none
 | k + 1, x0, x3, x9, x10 => if x10 < x9 then (if 0 ≤ x10 then (if x10 < (x0.length : Int) then (qsb.l1 k x0 x3 x10 x9 x10 (((qu x0 x10).f4).length : Int) 0 ((qu x0 x10).f0) ((qu x0 x10).f1) ((qu x0 x10).f2) ((qu x0 x10).f3) ([] : List (S59))) else (none)) else (none)) else (some x3)
def qsb.l1 : Nat → List (S48) → List (S58) → Int → Int → Int → Int → Int → Bool → Bool → ByteArray → ByteArray → List (S59) → Option ((List (S58)))
 | 0, _, _, _, _, _, _, _, _, _, _, _, _ => none
 | k + 1, x0, x3, x4, x9, x10, x39, x40, x337000, x337001, x337002, x337003, x337004 => if x40 < x39 then (if 0 ≤ x4 then (if x4 < (x0.length : Int) then (if 0 ≤ x40 then (if x40 < (((qu x0 x4).f4).length : Int) then (if x337004.length < 3518437208883 then (qsb.l1 k x0 x3 x4 x9 x10 x39 (wrap64 (x40 + 1)) x337000 x337001 x337002 x337003 (x337004 ++ [(⟨(rd_T50 ((qu x0 x4).f4) x40).f0, (rd_T50 ((qu x0 x4).f4) x40).f1, (rd_T50 ((qu x0 x4).f4) x40).f2⟩ : S59)])) else (none)) else (none)) else (none)) else (none)) else (none)) else (if x3.length < 2199023255552 then (qsb.l0 k x0 (x3 ++ [(⟨x337000, x337001, x337002, x337003, x337004⟩ : S58)]) x9 (wrap64 (x10 + 1))) else (none))
end
def qsb.f (k : Nat) (l0 : List (S48)) : Option ((List (S58))) := qsb.l0 k l0 ([] : List (S58)) (l0.length : Int) 0
def qsb.T5 : Bool × List (List Nat × List Nat) := (true, [([], []), ([], []), ([0, 1], [0, 1]), ([2], [2]), ([3], [3]), ([], []), ([], []), ([5, 6], [5, 6]), ([7], [7]), ([8], [8]), ([], []), ([], []), ([10, 11], [10, 11]), ([12], [12]), ([13], [13]), ([], []), ([], []), ([15, 16], [15, 16]), ([17], [17]), ([18], [18]), ([4, 9, 14, 19], [4, 9, 14, 19]), ([], []), ([21, 20, 0, 1, 2, 3, 4, 5, 6, 7, 8, 9, 10, 11, 12, 13, 14, 15, 16, 17, 18, 19, 20, 21], [20, 21])])
def qsb.B5 : List Nat := [0, 0, 3, 7, 15, 0, 0, 96, 224, 480, 0, 0, 3072, 7168, 15360, 0, 0, 98304, 229376, 491520, 1048575, 0, 4194303]
theorem qsb.tab5 : rtab .any (opsOf Tryz.f7 5) = qsb.T5 := by kernel_rfl
theorem qsb.bits5 : waitsOk qsb.T5.2 qsb.B5 = true := by kernel_rfl
set_option maxHeartbeats 8000000 in
set_option maxRecDepth 100000 in
theorem qsb.calls (k : Nat) (A0 : Option Addr) (c0 : Nat) (l0 : List (S48)) (r : List (S58)) (w : World) (hr0 : Kd.C k48 w A0 l0.length l0) (hc0 : l0.length ≤ c0) (h : qsb.f k l0 = some r) :
  Calls Tryz.prog 7 #[.slice A0 l0.length c0] w fun e w' => ∃ v0_ : Value, e = .returned (v0_) ∧ Kd.S k58 58 w' w.heap.size (fun _ => True) v0_ r ∧ Below w.heap.size w w' := by
 have hu58 := Tryz.underlying58;have hu50 := Tryz.underlying50;have hu59 := Tryz.underlying59;have HR0 := qa.mk hr0;clear hr0 hc0;have HB := qa.mk (Below.refl w.heap.size w);have H : (qsb.l0 k l0 ([] : List (S58)) (l0.length : Int) 0) = some r := h;clear h;have H' := qa.mk H;clear H;(go_enter Tryz.func7, Tryz.ntmps7);go_wp2
 go_loopg [3, 10] k (fun kq v3 v10 w' => ∃ (x3_1 : List (S58)) (x10_1 : Int), v10 = .int .i64 x10_1 ∧ qa (qsb.l0 kq l0 x3_1 (l0.length : Int) x10_1 = some r) ∧ qa (kq ≤ k) ∧ qa (Kd.S k58 58 w' w.heap.size (fun _ => True) v3 x3_1) ∧ qa (Below w.heap.size w w'))
 case atStart => exact ⟨(([] : List (S58))), (0), zz8, H', ⟨Nat.le_refl _⟩, ⟨zz90⟩, ⟨zz32⟩⟩
 case round =>
  clear H';obtain ⟨x3_1, x10_1, rfl, HA, HK1, HO_3, HB⟩ := hrel
  cases gk with
  | zero => exact absurd HA.out (by simp [qsb.l0])
  | succ k1 =>
   have H := HA.out;clear HA;simp only [qsb.l0] at H;by_cases c2 : x10_1 < (l0.length : Int)
   ·rw [if_pos c2] at H;have c2b0 : decide (x10_1 < (l0.length : Int)) = true := decide_eq_true c2;clear c2;by_cases c3 : 0 ≤ x10_1
    ·rw [if_pos c3] at H;have c3b0 : decide (0 ≤ x10_1) = true := decide_eq_true c3;clear c3;by_cases c4 : x10_1 < (l0.length : Int)
     ·rw [if_pos c4] at H;have c4b0 : decide (x10_1 < (l0.length : Int)) = true := decide_eq_true c4;clear c4;have H' := qa.mk H;clear H;(try go_wp2);have n0_ := qa.mk (Kd.S_drew HO_3.out);have n1_ := qa.mk (qd HB.out);clear HO_3 HB;have HO_3 := n0_;have HB := n1_;clear n0_ n1_;have p332 : 0 ≤ (x10_1 : Int) := of_decide_eq_true zz13;have q332 : x10_1 < (l0.length : Int) := of_decide_eq_true zz13;obtain ⟨ad332, A332_4, c332_4, e332, hx332_0, hx332_1, hx332_2, hx332_3, hx332_4, hl332_4, hi332_4⟩ := at_T48 HR0.out x10_1 p332 q332;have hw332_4 := hx332_4;have hw332_3 := hx332_3;have hw332_2 := hx332_2;have hw332_1 := hx332_1;have hw332_0 := hx332_0;cases e332;replace hx332_0 := cx HB hx332_0;replace hx332_1 := cx HB hx332_1;replace hx332_2 := cx HB hx332_2;replace hx332_3 := cx HB hx332_3;replace hx332_4 := cx HB hx332_4;have HR332_4 := qa.mk hi332_4;clear hi332_4 hl332_4;replace p332 := eq_true p332;replace q332 := eq_true q332;refine start_ (n := 23) (S := fun w' => w'.cell? (ad332.add ((x10_1).toNat * 5)) = some (.bool ((qu l0 x10_1).f0)) ∧ w'.cell? ⟨(ad332.add ((x10_1).toNat * 5)).block, (ad332.add ((x10_1).toNat * 5)).off + 1, none⟩ = some (.bool ((qu l0 x10_1).f1)) ∧ w'.cell? ⟨(ad332.add ((x10_1).toNat * 5)).block, (ad332.add ((x10_1).toNat * 5)).off + 2, none⟩ = some (.string ((qu l0 x10_1).f2)) ∧ w'.cell? ⟨(ad332.add ((x10_1).toNat * 5)).block, (ad332.add ((x10_1).toNat * 5)).off + 3, none⟩ = some (.string ((qu l0 x10_1).f3)) ∧ w'.cell? ⟨(ad332.add ((x10_1).toNat * 5)).block, (ad332.add ((x10_1).toNat * 5)).off + 4, none⟩ = some (.slice A332_4 ((qu l0 x10_1).f4).length c332_4)) (ds := []) (bb 23 0) (by kernel_rfl) rfl rfl ⟨(cx HB hw332_0), (cx HB hw332_1), (cx HB hw332_2), (cx HB hw332_3), (cx HB hw332_4)⟩ (fun hHeld => ?_); refine with_tabW qsb.tab5 qsb.bits5 (fun HT_ HW_ => ?_);generalize wr.drew = w5 at HO_3 HB HR332_4 hx332_0 hx332_1 hx332_2 hx332_3 hx332_4 hHeld ⊢;refine pS 0 (some 13) (bb 23 1) ?_;refine pS 1 (some 14) (bb 23 3) ?_;refine pS 2 (some 15) (bb 23 7) ?_;refine pS 3 (some 16) (bb 23 15) ?_;refine pS 5 (some 18) (bb 23 47) ?_;refine pS 6 (some 19) (bb 23 111) ?_;refine pS 7 (some 20) (bb 23 239) ?_;refine pS 8 (some 21) (bb 23 495) ?_;refine pS 10 (some 23) (bb 23 1519) ?_;refine pS 11 (some 24) (bb 23 3567) ?_;refine pS 12 (some 25) (bb 23 7663) ?_;refine pS 13 (some 26) (bb 23 15855) ?_;refine pS 15 (some 28) (bb 23 48623) ?_;refine pS 16 (some 29) (bb 23 114159) ?_;refine pS 17 (some 30) (bb 23 245231) ?_;refine pS 18 (some 31) (bb 23 507375) ?_;refine tS 4 (some 17) (bb 23 507391) rfl hHeld zz17 ?_;refine tS 9 (some 22) (bb 23 507903) rfl hHeld zz17 ?_;refine tS 14 (some 27) (bb 23 524287) rfl hHeld zz17 ?_;refine tS 19 (some 32) (bb 23 1048575) rfl hHeld zz17 ?_;refine pS 20 (some 33) (bb 23 2097151) ?_;refine one_ (i := 21) (N := some 5) (bb 23 4194303) rfl rfl (one_of HT_.out (by kernel_rfl)) (by decide) (fun K hK => ?_);refine box_step ?hg (N := 5) ?hd (cs := #[.bool false, .bool false, .string (⟨#[]⟩ : ByteArray), .string (⟨#[]⟩ : ByteArray), .slice none 0 0]) (t := 58) ?hr ?_; (case hd => rfl); (case hg => rfl); (case hr => exact zz7);intro gb336 hg w6 hbox hb;have n0_ := qa.mk (Kd.S_below (Kd.S_elderB zz41 gb336 (Nat.le_of_eq hg.symm)) hb);have n1_ := qa.mk (qo zz32 hb);have n2_ := qa.mk (hbox);have n3_ := qa.mk ((by rw [hg]; exact (ql zz32) : w.heap.size ≤ gb336));have n4_ := qa.mk ((by rw [hg]; exact (ql zz32) : w.heap.size ≤ gb336));clear HO_3 HB;have HO_3 := n0_;have HB := n1_;have BK336 := n2_;have GW336 := n3_;have GE336 := n4_;clear n0_ n1_ n2_ n3_ n4_ hb hbox hg;refine hK.out _ _ ⟨(cx HB hw332_0), (cx HB hw332_1), (cx HB hw332_2), (cx HB hw332_3), (cx HB hw332_4)⟩ (fun hHeld => ?_);clear hK K;refine norm_ (a' := ?_) ?_ ?_;rotate_left
      ·show Act.put _ (some 5) _ = _;simp only [Act.put, List.setIfInBounds_toArray, List.set_cons_zero, List.set_cons_succ, i64_w, i32_w];rfl
      refine one_ (i := 22) (N := none) (bb 23 8388607) rfl rfl (one_of HT_.out (by kernel_rfl)) (by decide) (fun K hK => ?_);have hs7 : w6.cell? ⟨gb336, 0, none⟩ = some (.bool false) := (qz BK336.out 0).trans rfl;have hfs7 := qe BK336.out 0;have hs8 : w6.cell? ⟨gb336, 1, none⟩ = some (.bool false) := (qz BK336.out 1).trans rfl;have hfs8 := qe BK336.out 1;have hs9 : w6.cell? ⟨gb336, 2, none⟩ = some (.string (⟨#[]⟩ : ByteArray)) := (qz BK336.out 2).trans rfl;have hfs9 := qe BK336.out 2;have hs10 : w6.cell? ⟨gb336, 3, none⟩ = some (.string (⟨#[]⟩ : ByteArray)) := (qz BK336.out 3).trans rfl;have hfs10 := qe BK336.out 3;have hs11 : w6.cell? ⟨gb336, 4, none⟩ = some (.slice none 0 0) := (qz BK336.out 4).trans rfl;have hfs11 := qe BK336.out 4;refine skip_ (w1 := ?_) (by rfl) rfl ?_ ?_;rotate_left
      ·go_simp;rfl
      refine hK.out _ _ ⟨((qnb (p := ⟨gb336, _, none⟩) zz154 _).trans (((qnb (p := ⟨gb336, _, none⟩) zz154 _).trans (((qnb (p := ⟨gb336, _, none⟩) zz154 _).trans (((qnb (p := ⟨gb336, _, none⟩) zz154 _).trans (((qnb (p := ⟨gb336, _, none⟩) zz154 _).trans (hHeld.1)))))))))), ((qnb (p := ⟨gb336, _, none⟩) zz155 _).trans (((qnb (p := ⟨gb336, _, none⟩) zz155 _).trans (((qnb (p := ⟨gb336, _, none⟩) zz155 _).trans (((qnb (p := ⟨gb336, _, none⟩) zz155 _).trans (((qnb (p := ⟨gb336, _, none⟩) zz155 _).trans (hHeld.2.1)))))))))), ((qnb (p := ⟨gb336, _, none⟩) zz156 _).trans (((qnb (p := ⟨gb336, _, none⟩) zz156 _).trans (((qnb (p := ⟨gb336, _, none⟩) zz156 _).trans (((qnb (p := ⟨gb336, _, none⟩) zz156 _).trans (((qnb (p := ⟨gb336, _, none⟩) zz156 _).trans (hHeld.2.2.1)))))))))), ((qnb (p := ⟨gb336, _, none⟩) zz157 _).trans (((qnb (p := ⟨gb336, _, none⟩) zz157 _).trans (((qnb (p := ⟨gb336, _, none⟩) zz157 _).trans (((qnb (p := ⟨gb336, _, none⟩) zz157 _).trans (((qnb (p := ⟨gb336, _, none⟩) zz157 _).trans (hHeld.2.2.2.1)))))))))), ((qnb (p := ⟨gb336, _, none⟩) zz158 _).trans (((qnb (p := ⟨gb336, _, none⟩) zz158 _).trans (((qnb (p := ⟨gb336, _, none⟩) zz158 _).trans (((qnb (p := ⟨gb336, _, none⟩) zz158 _).trans (((qnb (p := ⟨gb336, _, none⟩) zz158 _).trans (hHeld.2.2.2.2))))))))))⟩ (fun hHeld => ?_);clear hK K;refine done_ (done_of HT_.out (by kernel_rfl)) ?_;have p337 : 0 ≤ (x10_1 : Int) := of_decide_eq_true zz13;have q337 : x10_1 < (l0.length : Int) := of_decide_eq_true zz13;obtain ⟨ad337, A337_4, c337_4, e337, hx337_0, hx337_1, hx337_2, hx337_3, hx337_4, hl337_4, hi337_4⟩ := at_T48 HR0.out x10_1 p337 q337;obtain rfl : ad332 = ad337 := (by injection e337);have hn337_0 : ad332.block ≠ gb336 := qjd (qid zz23 GW336.out);have hn337_1 : ad332.block ≠ gb336 := qjd (qid zz23 GW336.out);have hn337_2 : ad332.block ≠ gb336 := qjd (qid zz23 GW336.out);have hn337_3 : ad332.block ≠ gb336 := qjd (qid zz23 GW336.out);have hn337_4 : ad332.block ≠ gb336 := qjd (qid zz23 GW336.out);replace hx337_0 := cx HB hx337_0;replace hx337_1 := cx HB hx337_1;replace hx337_2 := cx HB hx337_2;replace hx337_3 := cx HB hx337_3;replace hx337_4 := cx HB hx337_4;clear hi337_4 hl337_4;replace hx337_0 := (qnb (p := ⟨gb336, 0, none⟩) zz52 (.bool ((qu l0 x10_1).f0))).trans hx337_0;replace hx337_1 := (qnb (p := ⟨gb336, 0, none⟩) zz52 (.bool ((qu l0 x10_1).f0))).trans hx337_1;replace hx337_2 := (qnb (p := ⟨gb336, 0, none⟩) zz52 (.bool ((qu l0 x10_1).f0))).trans hx337_2;replace hx337_3 := (qnb (p := ⟨gb336, 0, none⟩) zz52 (.bool ((qu l0 x10_1).f0))).trans hx337_3;replace hx337_4 := (qnb (p := ⟨gb336, 0, none⟩) zz52 (.bool ((qu l0 x10_1).f0))).trans hx337_4;replace hx337_0 := (qnb (p := ⟨gb336, 1, none⟩) zz53 (.bool ((qu l0 x10_1).f1))).trans hx337_0;replace hx337_1 := (qnb (p := ⟨gb336, 1, none⟩) zz53 (.bool ((qu l0 x10_1).f1))).trans hx337_1;replace hx337_2 := (qnb (p := ⟨gb336, 1, none⟩) zz53 (.bool ((qu l0 x10_1).f1))).trans hx337_2;replace hx337_3 := (qnb (p := ⟨gb336, 1, none⟩) zz53 (.bool ((qu l0 x10_1).f1))).trans hx337_3;replace hx337_4 := (qnb (p := ⟨gb336, 1, none⟩) zz53 (.bool ((qu l0 x10_1).f1))).trans hx337_4;replace hx337_0 := (qnb (p := ⟨gb336, 2, none⟩) zz54 (.string ((qu l0 x10_1).f2))).trans hx337_0;replace hx337_1 := (qnb (p := ⟨gb336, 2, none⟩) zz54 (.string ((qu l0 x10_1).f2))).trans hx337_1;replace hx337_2 := (qnb (p := ⟨gb336, 2, none⟩) zz54 (.string ((qu l0 x10_1).f2))).trans hx337_2;replace hx337_3 := (qnb (p := ⟨gb336, 2, none⟩) zz54 (.string ((qu l0 x10_1).f2))).trans hx337_3;replace hx337_4 := (qnb (p := ⟨gb336, 2, none⟩) zz54 (.string ((qu l0 x10_1).f2))).trans hx337_4;replace hx337_0 := (qnb (p := ⟨gb336, 3, none⟩) zz55 (.string ((qu l0 x10_1).f3))).trans hx337_0;replace hx337_1 := (qnb (p := ⟨gb336, 3, none⟩) zz55 (.string ((qu l0 x10_1).f3))).trans hx337_1;replace hx337_2 := (qnb (p := ⟨gb336, 3, none⟩) zz55 (.string ((qu l0 x10_1).f3))).trans hx337_2;replace hx337_3 := (qnb (p := ⟨gb336, 3, none⟩) zz55 (.string ((qu l0 x10_1).f3))).trans hx337_3;replace hx337_4 := (qnb (p := ⟨gb336, 3, none⟩) zz55 (.string ((qu l0 x10_1).f3))).trans hx337_4;replace hx337_0 := (qnb (p := ⟨gb336, 4, none⟩) zz56 (.slice none 0 0)).trans hx337_0;replace hx337_1 := (qnb (p := ⟨gb336, 4, none⟩) zz56 (.slice none 0 0)).trans hx337_1;replace hx337_2 := (qnb (p := ⟨gb336, 4, none⟩) zz56 (.slice none 0 0)).trans hx337_2;replace hx337_3 := (qnb (p := ⟨gb336, 4, none⟩) zz56 (.slice none 0 0)).trans hx337_3;replace hx337_4 := (qnb (p := ⟨gb336, 4, none⟩) zz56 (.slice none 0 0)).trans hx337_4;clear hn337_0 hn337_1 hn337_2 hn337_3 hn337_4;replace p337 := eq_true p337;replace q337 := eq_true q337;try go_wp2
      go_loopg [40] k1 (fun kq v40 w' => ∃ (x40_2 : Int) (x337004_2 : List (S59)) (u337004 : Value), v40 = .int .i64 x40_2 ∧ qa (qsb.l1 kq l0 x3_1 x10_1 (l0.length : Int) x10_1 (((qu l0 x10_1).f4).length : Int) x40_2 ((qu l0 x10_1).f0) ((qu l0 x10_1).f1) ((qu l0 x10_1).f2) ((qu l0 x10_1).f3) x337004_2 = some r) ∧ qa (kq ≤ k1) ∧ qa (Kd.S k58 58 w' w.heap.size (fun k_ => some k_ ≠ (u337004 : Value).ownBlock ∧ k_ ≠ gb336) u3 x3_1) ∧ qa (Kd.R k59 59 w' w.heap.size (fun _ => True) u337004 x337004_2) ∧ qa (w'.heap[gb336]? = some (.cells #[.bool ((qu l0 x10_1).f0), .bool ((qu l0 x10_1).f1), .string ((qu l0 x10_1).f2), .string ((qu l0 x10_1).f3), u337004] 58 (0, 0))) ∧ qa (Below w.heap.size w w'))
      case atStart => exact ⟨(0), (([] : List (S59))), (.slice none 0 0), zz8, H', ⟨Nat.le_refl _⟩, ⟨by (with_reducible repeat (first | apply Kd.S_alloc | apply Kd.S_drewN | apply Kd.S_drew)); exact Kd.S_mono (Kd.S_far (p := ⟨gb336, 4, none⟩) (Kd.S_far (p := ⟨gb336, 3, none⟩) (Kd.S_far (p := ⟨gb336, 2, none⟩) (Kd.S_far (p := ⟨gb336, 1, none⟩) (Kd.S_far (p := ⟨gb336, 0, none⟩) (Kd.S_mono HO_3.out (fun k_ hk => (⟨hk, hk.2⟩ : _ ∧ k_ ≠ gb336))) (fun _ hk => hk.2) (.bool ((qu l0 x10_1).f0))) (fun _ hk => hk.2) (.bool ((qu l0 x10_1).f1))) (fun _ hk => hk.2) (.string ((qu l0 x10_1).f2))) (fun _ hk => hk.2) (.string ((qu l0 x10_1).f3))) (fun _ hk => hk.2) (.slice none 0 0)) (fun _ hk => ⟨(by simp [Value.ownBlock]), hk.1.2⟩)⟩, ⟨zz89⟩, ⟨zz88⟩, ⟨zz74⟩⟩
      case round =>
       clear H';obtain ⟨x40_2, x337004_2, u337004, rfl, HA, HK2, HO_3, HO_337004, BK336, HB⟩ := hrel
       cases gk with
       | zero => exact absurd HA.out (by simp [qsb.l1])
       | succ k2 =>
        have H := HA.out;clear HA;simp only [qsb.l1] at H;by_cases c12 : x40_2 < (((qu l0 x10_1).f4).length : Int)
        ·rw [if_pos c12] at H;have c12b0 : decide (x40_2 < (((qu l0 x10_1).f4).length : Int)) = true := decide_eq_true c12;clear c12;by_cases c13 : 0 ≤ x10_1
         ·rw [if_pos c13] at H;have c13b0 : decide (0 ≤ x10_1) = true := decide_eq_true c13;clear c13;by_cases c14 : x10_1 < (l0.length : Int)
          ·rw [if_pos c14] at H;have c14b0 : decide (x10_1 < (l0.length : Int)) = true := decide_eq_true c14;clear c14;by_cases c15 : 0 ≤ x40_2
           ·rw [if_pos c15] at H;have c15b0 : decide (0 ≤ x40_2) = true := decide_eq_true c15;clear c15;by_cases c16 : x40_2 < (((qu l0 x10_1).f4).length : Int)
            ·rw [if_pos c16] at H;have c16b0 : decide (x40_2 < (((qu l0 x10_1).f4).length : Int)) = true := decide_eq_true c16;clear c16;by_cases c17 : x337004_2.length < 3518437208883
             ·rw [if_pos c17] at H;have LMc17 := qa.mk c17;clear c17;obtain ⟨y341, hy341⟩ : ∃ y_ : List (S59), y_ = (x337004_2 ++ [(⟨(rd_T50 ((qu l0 x10_1).f4) x40_2).f0, (rd_T50 ((qu l0 x10_1).f4) x40_2).f1, (rd_T50 ((qu l0 x10_1).f4) x40_2).f2⟩ : S59)]) := ⟨_, rfl⟩;(replace H : (qsb.l1 k2 l0 x3_1 x10_1 (l0.length : Int) x10_1 (((qu l0 x10_1).f4).length : Int) (wrap64 (x40_2 + 1)) ((qu l0 x10_1).f0) ((qu l0 x10_1).f1) ((qu l0 x10_1).f2) ((qu l0 x10_1).f3) y341) = some r := by first | (rw [hy341]; with_reducible exact H) | (have H2_ := (Option.bind_some _ _).symm.trans H; rw [hy341]; with_reducible exact H2_) | (have H2_ := (Option.bind_some _ _).symm.trans H; with_reducible exact H2_) | with_reducible exact H | (rw [hy341]; exact H) | exact H);have Ny341 := qa.mk hy341;clear hy341;have H' := qa.mk H;clear H;have p338 : 0 ≤ (x10_1 : Int) := of_decide_eq_true zz13;have q338 : x10_1 < (l0.length : Int) := of_decide_eq_true zz13;obtain ⟨ad338, A338_4, c338_4, e338, hx338_0, hx338_1, hx338_2, hx338_3, hx338_4, hl338_4, hi338_4⟩ := at_T48 HR0.out x10_1 p338 q338;obtain rfl : ad332 = ad338 := (by injection e338);replace hx338_0 := cx HB hx338_0;replace hx338_1 := cx HB hx338_1;replace hx338_2 := cx HB hx338_2;replace hx338_3 := cx HB hx338_3;replace hx338_4 := cx HB hx338_4;have HR338_4 := qa.mk hi338_4;clear hi338_4 hl338_4;replace p338 := eq_true p338;replace q338 := eq_true q338;have p339 : 0 ≤ (x40_2 : Int) := of_decide_eq_true zz13;have q339 : x40_2 < (((qu l0 x10_1).f4).length : Int) := of_decide_eq_true zz13;obtain ⟨ad339, e339, hx339_0, hx339_1, hx339_2⟩ := at_T50 HR338_4.out x40_2 p339 q339;cases e339;replace hx339_0 := cx HB hx339_0;replace hx339_1 := cx HB hx339_1;replace hx339_2 := cx HB hx339_2;replace p339 := eq_true p339;replace q339 := eq_true q339;(go_wp2_with (first | ((with_reducible refine qmb (N := 7) rfl ?_); refine qob ?hg (N := 7) ?hd (cs := #[.string (⟨#[]⟩ : ByteArray), .string (⟨#[]⟩ : ByteArray), .bool false]) (t := 50) ?hr ?_; (case hd => rfl); (case hg => rfl); (case hr => exact zz7); intro gb340 hg w18 hbox hb; have n0_ := qa.mk (Kd.S_below zz41 hb); have n1_ := qa.mk (Kd.R_below (by (with_reducible repeat (first | apply Kd.R_alloc | apply Kd.R_drewN | apply Kd.R_drew)); exact HO_337004.out) hb); have n2_ := qa.mk (qvb (g := gb336) (o := .cells #[.bool ((qu l0 x10_1).f0), .bool ((qu l0 x10_1).f1), .string ((qu l0 x10_1).f2), .string ((qu l0 x10_1).f3), u337004] 58 (0, 0)) zz65 hb); have n3_ := qa.mk (qo zz74 hb); have n4_ := qa.mk (hbox); have n5_ := qa.mk ((by rw [hg]; exact (ql zz74) : w.heap.size ≤ gb340)); have n6_ := qa.mk ((by rw [hg]; exact (ql zz74) : w.heap.size ≤ gb340)); have n7_ := qa.mk ((by rw [hg]; exact qjd (qmc (g := gb336) (o := .cells #[.bool ((qu l0 x10_1).f0), .bool ((qu l0 x10_1).f1), .string ((qu l0 x10_1).f2), .string ((qu l0 x10_1).f3), u337004] 58 (0, 0)) zz65) : gb336 ≠ gb340)); have n8_ := qa.mk ((by rw [hg]; exact Nat.ne_of_gt (qmc (g := gb336) (o := .cells #[.bool ((qu l0 x10_1).f0), .bool ((qu l0 x10_1).f1), .string ((qu l0 x10_1).f2), .string ((qu l0 x10_1).f3), u337004] 58 (0, 0)) zz65) : gb340 ≠ gb336)); clear HO_3; clear HO_337004; clear BK336; clear HB; have HO_3 := n0_; have HO_337004 := n1_; have BK336 := n2_; have HB := n3_; have BK340 := n4_; have GW340 := n5_; have GE340 := n6_; have NB336_340 := n7_; have NB340_336 := n8_; clear n0_ n1_ n2_ n3_ n4_ n5_ n6_ n7_ n8_; clear hb hbox hg; have hnb19 := NB340_336.out; have hnc19 := NB336_340.out; have hcz20_0 := ce BK340 0 (.string (⟨#[]⟩ : ByteArray)); have hcz20_1 := ce BK340 1 (.string (⟨#[]⟩ : ByteArray)); have hcz20_2 := ce BK340 2 (.bool false); have hfz20_0 := qe BK340.out 0; have hfz20_1 := qe BK340.out 1; have hfz20_2 := qe BK340.out 2; have hcz21_0 := ce BK336 0 (.bool ((qu l0 x10_1).f0)); have hcz21_1 := ce BK336 1 (.bool ((qu l0 x10_1).f1)); have hcz21_2 := ce BK336 2 (.string ((qu l0 x10_1).f2)); have hcz21_3 := ce BK336 3 (.string ((qu l0 x10_1).f3)); have hcz21_4 := ce BK336 4 (u337004); have hfz21_0 := qe BK336.out 0; have hfz21_1 := qe BK336.out 1; have hfz21_2 := qe BK336.out 2; have hfz21_3 := qe BK336.out 3; have hfz21_4 := qe BK336.out 4) | ((with_reducible refine gate_builtin (b := .append) (xs := #[.tmp 52, .tmp 60]) rfl ?_); at_builtin; refine Kd.R_append k59 (w0 := w) w.heap.size rfl (.tmp 52) (.tmp 60) 56 59 (.agg #[(.string ⟨#[]⟩), (.string ⟨#[]⟩), (.bool false)]) 40 rfl Tryz.underlying56 info59 rfl (by decide) (by omega) u337004 x337004_2 (⟨(rd_T50 ((qu l0 x10_1).f4) x40_2).f0, (rd_T50 ((qu l0 x10_1).f4) x40_2).f1, (rd_T50 ((qu l0 x10_1).f4) x40_2).f2⟩ : S59) [.string ((rd_T50 ((qu l0 x10_1).f4) x40_2).f0), .string ((rd_T50 ((qu l0 x10_1).f4) x40_2).f1), .bool ((rd_T50 ((qu l0 x10_1).f4) x40_2).f2)] (fun _ => True) (fun _ => False) rfl zz7 ?aP (fun _ hk => hk.elim) ?aF ?aO ?aB ?aS ?aL ?_; (case aP => exact k59_mkM _ _ _ (⟨(rd_T50 ((qu l0 x10_1).f4) x40_2).f0, (rd_T50 ((qu l0 x10_1).f4) x40_2).f1, (rd_T50 ((qu l0 x10_1).f4) x40_2).f2⟩ : S59)); (case aB => exact zz102); (case aF => exact (fun _ _ => trivial)); (case aO => exact (by (with_reducible repeat (first | apply Kd.R_alloc | apply Kd.R_drewN | apply Kd.R_drew)); exact Kd.R_mono (Kd.R_far (p := ⟨gb340, 2, none⟩) (Kd.R_far (p := ⟨gb340, 1, none⟩) (Kd.R_far (p := ⟨gb340, 0, none⟩) (Kd.R_types HO_337004.out BK340.out (by decide)) (fun _ hk => hk.2) (.string ((rd_T50 ((qu l0 x10_1).f4) x40_2).f0))) (fun _ hk => hk.2) (.string ((rd_T50 ((qu l0 x10_1).f4) x40_2).f1))) (fun _ hk => hk.2) (.bool ((rd_T50 ((qu l0 x10_1).f4) x40_2).f2))) (fun _ hk => trivial))); (case aS => exact (ql zz102)); (case aL => have := LMc17.out; omega); intro v342 w22 ho hb hg hat; rw [← Ny341.out] at ho; have n0_ := qa.mk (Kd.S_after (ok := (fun k_ => k_ ≠ gb336)) (by (with_reducible repeat (first | apply Kd.S_alloc | apply Kd.S_drewN | apply Kd.S_drew)); exact Kd.S_mono (Kd.S_far (p := ⟨gb340, 2, none⟩) (Kd.S_far (p := ⟨gb340, 1, none⟩) (Kd.S_far (p := ⟨gb340, 0, none⟩) (Kd.S_types HO_3.out BK340.out (by decide)) (fun _ hk => hk.2) (.string ((rd_T50 ((qu l0 x10_1).f4) x40_2).f0))) (fun _ hk => hk.2) (.string ((rd_T50 ((qu l0 x10_1).f4) x40_2).f1))) (fun _ hk => hk.2) (.bool ((rd_T50 ((qu l0 x10_1).f4) x40_2).f2))) (fun _ hk => ⟨hk.1.2, hk.1.1⟩)) hg hat); have n1_ := qa.mk (blk_grown (g := gb336) (o := .cells #[.bool ((qu l0 x10_1).f0), .bool ((qu l0 x10_1).f1), .string ((qu l0 x10_1).f2), .string ((qu l0 x10_1).f3), u337004] 58 (0, 0)) (by (with_reducible repeat (first | refine qj ?_ _ | refine qm ?_ | refine qi ?_ _)); refine qwb ?_ NB336_340.out _; (with_reducible repeat (first | refine qj ?_ _ | refine qm ?_ | refine qi ?_ _)); refine qwb ?_ NB336_340.out _; (with_reducible repeat (first | refine qj ?_ _ | refine qm ?_ | refine qi ?_ _)); refine qwb ?_ NB336_340.out _; (with_reducible repeat (first | refine qj ?_ _ | refine qm ?_ | refine qi ?_ _)); exact BK336.out) hg (Kd.R_ne HO_337004.out BK336.out (by decide))); have n2_ := qa.mk (blk_grown (g := gb340) (o := .cells #[.string ((rd_T50 ((qu l0 x10_1).f4) x40_2).f0), .string ((rd_T50 ((qu l0 x10_1).f4) x40_2).f1), .bool ((rd_T50 ((qu l0 x10_1).f4) x40_2).f2)] 50 (0, 0)) zz88 hg (Kd.R_ne HO_337004.out BK340.out (by decide))); have n3_ := qa.mk (hb); have n4_ := qa.mk (ho); clear HO_3; clear BK336; clear BK340; clear HB; clear HO_337004; have HO_3 := n0_; have BK336 := n1_; have BK340 := n2_; have HB := n3_; have HO343 := n4_; clear n0_ n1_ n2_ n3_ n4_; clear ho hb hg hat; obtain ⟨Ao23, co23, eo23⟩ := Kd.R_slice HO343.out; subst eo23; have hcz24_0 := ce BK336 0 (.bool ((qu l0 x10_1).f0)); have hcz24_1 := ce BK336 1 (.bool ((qu l0 x10_1).f1)); have hcz24_2 := ce BK336 2 (.string ((qu l0 x10_1).f2)); have hcz24_3 := ce BK336 3 (.string ((qu l0 x10_1).f3)); have hcz24_4 := ce BK336 4 (u337004); have hfz24_0 := qe BK336.out 0; have hfz24_1 := qe BK336.out 1; have hfz24_2 := qe BK336.out 2; have hfz24_3 := qe BK336.out 3; have hfz24_4 := qe BK336.out 4)));go_roundg k2
              case measure => have := HK1.out; have := HK2.out; omega
              case rel => exact ⟨(wrap64 (x40_2 + 1)), (y341), (.slice Ao23 y341.length co23), zz8, H', ⟨zz6⟩, ⟨by (with_reducible repeat (first | apply Kd.S_alloc | apply Kd.S_drewN | apply Kd.S_drew)); exact Kd.S_mono (Kd.S_far (p := ⟨gb336, 4, none⟩) (Kd.S_mono HO_3.out (fun k_ hk => (⟨hk, hk.1⟩ : _ ∧ k_ ≠ gb336))) (fun _ hk => hk.2) (.slice Ao23 y341.length co23)) (fun _ hk => ⟨hk.1.2, hk.1.1⟩)⟩, ⟨by (with_reducible repeat (first | apply Kd.R_alloc | apply Kd.R_drewN | apply Kd.R_drew)); exact Kd.R_mono (Kd.R_far (p := ⟨gb336, 4, none⟩) (Kd.R_types HO343.out BK336.out (by decide)) (fun _ hk => hk.2) (.slice Ao23 y341.length co23)) (fun _ hk => trivial)⟩, ⟨zz88⟩, ⟨zz102⟩⟩
             ·rw [if_neg c17] at H;exact absurd H (by simp)
            ·rw [if_neg c16] at H;exact absurd H (by simp)
           ·rw [if_neg c15] at H;exact absurd H (by simp)
          ·rw [if_neg c14] at H;exact absurd H (by simp)
         ·rw [if_neg c13] at H;exact absurd H (by simp)
        ·rw [if_neg c12] at H;have c12b0 : decide (x40_2 < (((qu l0 x10_1).f4).length : Int)) = false := decide_eq_false c12;clear c12;by_cases c25 : x3_1.length < 2199023255552
         ·rw [if_pos c25] at H;have LMc25 := qa.mk c25;clear c25;obtain ⟨y344, hy344⟩ : ∃ y_ : List (S58), y_ = (x3_1 ++ [(⟨((qu l0 x10_1).f0), ((qu l0 x10_1).f1), ((qu l0 x10_1).f2), ((qu l0 x10_1).f3), x337004_2⟩ : S58)]) := ⟨_, rfl⟩;(replace H : (qsb.l0 k2 l0 y344 (l0.length : Int) (wrap64 (x10_1 + 1))) = some r := by first | (rw [hy344]; with_reducible exact H) | (have H2_ := (Option.bind_some _ _).symm.trans H; rw [hy344]; with_reducible exact H2_) | (have H2_ := (Option.bind_some _ _).symm.trans H; with_reducible exact H2_) | with_reducible exact H | (rw [hy344]; exact H) | exact H);have Ny344 := qa.mk hy344;clear hy344;have H' := qa.mk H;clear H;have hcz26_0 := ce BK336 0 (.bool ((qu l0 x10_1).f0));have hcz26_1 := ce BK336 1 (.bool ((qu l0 x10_1).f1));have hcz26_2 := ce BK336 2 (.string ((qu l0 x10_1).f2));have hcz26_3 := ce BK336 3 (.string ((qu l0 x10_1).f3));have hcz26_4 := ce BK336 4 (u337004);have hfz26_0 := qe BK336.out 0;have hfz26_1 := qe BK336.out 1;have hfz26_2 := qe BK336.out 2;have hfz26_3 := qe BK336.out 3;have hfz26_4 := qe BK336.out 4;obtain ⟨Ao28, co28, eo28⟩ := Kd.R_slice HO_337004.out;subst eo28;(go_wp2_with (first | ((with_reducible refine gate_builtin (b := .append) (xs := #[.tmp 64, .tmp 66]) rfl ?_); at_builtin; refine Kd.S_append k58 (w0 := w) w.heap.size rfl (.tmp 64) (.tmp 66) 25 58 (.agg #[(.bool false), (.bool false), (.string ⟨#[]⟩), (.string ⟨#[]⟩), (.slice none 0 0)]) 64 rfl Tryz.underlying25 info58 rfl (by decide) (by omega) u3 x3_1 (⟨((qu l0 x10_1).f0), ((qu l0 x10_1).f1), ((qu l0 x10_1).f2), ((qu l0 x10_1).f3), x337004_2⟩ : S58) [.bool ((qu l0 x10_1).f0), .bool ((qu l0 x10_1).f1), .string ((qu l0 x10_1).f2), .string ((qu l0 x10_1).f3), .slice Ao28 x337004_2.length co28] (fun k_ => k_ ≠ gb336) (fun k_ => some k_ = (.slice Ao28 x337004_2.length co28 : Value).ownBlock) rfl rfl ?aP (fun k_ hk_ => ((Kd.R_mono (ok' := fun k_ => ((fun k_ => k_ ≠ gb336)) k_ ∧ some k_ ≠ (u3 : Value).ownBlock) (Kd.R_types (Kd.R_apart' (HO_337004.out) (Kd.S_typed HO_3.out) (by decide)) BK336.out (by decide)) (fun k_ hk => ⟨hk.2, hk.1.2⟩))).1 k_ hk_.symm) ?aF ?aO ?aB ?aS ?aL ?_; (case aP => exact k58_mkM _ _ _ (⟨((qu l0 x10_1).f0), ((qu l0 x10_1).f1), ((qu l0 x10_1).f2), ((qu l0 x10_1).f3), x337004_2⟩ : S58) (Kd.R_mono (Kd.R_tight rfl (Kd.R_mono (ok' := fun k_ => ((fun k_ => k_ ≠ gb336)) k_ ∧ some k_ ≠ (u3 : Value).ownBlock) (Kd.R_types (Kd.R_apart' (HO_337004.out) (Kd.S_typed HO_3.out) (by decide)) BK336.out (by decide)) (fun k_ hk => ⟨hk.2, hk.1.2⟩))) (fun _ h_ => h_))); (case aB => exact zz74); (case aF => exact (fun k_ hk => Kd.freshB (g := gb336) (o := .cells #[.bool ((qu l0 x10_1).f0), .bool ((qu l0 x10_1).f1), .string ((qu l0 x10_1).f2), .string ((qu l0 x10_1).f3), .slice Ao28 x337004_2.length co28] 58 (0, 0)) zz65 k_ hk)); (case aO => exact (by (with_reducible repeat (first | apply Kd.S_alloc | apply Kd.S_drewN | apply Kd.S_drew)); exact Kd.S_mono HO_3.out (fun k_ hk => ⟨hk.2, fun e_ => hk.1 e_⟩))); (case aS => exact (ql zz74)); (case aL => have := LMc25.out; omega); intro v345 w27 ho hb hg hat; rw [← Ny344.out] at ho; have n0_ := qa.mk (blk_grown (g := gb336) (o := .cells #[.bool ((qu l0 x10_1).f0), .bool ((qu l0 x10_1).f1), .string ((qu l0 x10_1).f2), .string ((qu l0 x10_1).f3), .slice Ao28 x337004_2.length co28] 58 (0, 0)) zz65 hg (Kd.S_away HO_3.out (fun _ hk => hk.2))); have n1_ := qa.mk (hb); have n2_ := qa.mk (ho); clear BK336; clear HB; clear HO_3; clear HO_337004; have BK336 := n0_; have HB := n1_; have HO346 := n2_; clear n0_ n1_ n2_; clear ho hb hg hat)));go_roundg k2
          case measure => have := HK1.out; have := HK2.out; omega
          case rel => exact ⟨(y344), (wrap64 (x10_1 + 1)), zz8, H', ⟨zz6⟩, ⟨by (with_reducible repeat (first | apply Kd.S_alloc | apply Kd.S_drewN | apply Kd.S_drew)); exact Kd.S_mono HO346.out (fun _ hk => trivial)⟩, ⟨zz74⟩⟩
         ·rw [if_neg c25] at H;exact absurd H (by simp)
     ·rw [if_neg c4] at H;exact absurd H (by simp)
    ·rw [if_neg c3] at H;exact absurd H (by simp)
   ·rw [if_neg c2] at H;have c2b0 : decide (x10_1 < (l0.length : Int)) = false := decide_eq_false c2;clear c2;obtain rfl := Option.some.inj H;go_wp2;go_ret;exact ⟨_, zz98, zz41, zz32⟩
end Go.Proofs.YtjbobecnlpiejaaGreatDoor.Q
