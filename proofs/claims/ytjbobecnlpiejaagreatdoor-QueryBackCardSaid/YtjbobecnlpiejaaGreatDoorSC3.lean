import Derived.Test.YtjbobecnlpiejaaGreatDoorSC2
import Derived.KernelRfl
set_option linter.unusedVariables false
set_option linter.unusedSimpArgs false
namespace Go.Proofs.YtjbobecnlpiejaaGreatDoor.Q
open Go.Proofs.YtjbobecnlpiejaaGreatDoorZ
open Go.RowKit Go.Proofs.YtjbobecnlpiejaaGreatDoorW.PrintWords Go.Proofs.YtjbobecnlpiejaaGreatDoorW.PrintLast Go.Proofs.YtjbobecnlpiejaaGreatDoorW.PrintMore
attribute [local go_sem] qvb qwb qzb qyb
def refForms (s : List UInt8) : List Int → Option (Int × Int)
 | [] => none
 | c :: r => if (formL c).isPrefixOf s = true then some (c, ((formL c).length : Int)) else refForms s r
def refNum (s : List UInt8) : Int × Int :=
 if [38, 35].isPrefixOf s = true then
  if Lib.indexByte (s.take 6) 59 < 0 then (0, 0) else
   match Lib.atoiAll ((s.take (Lib.indexByte (s.take 6) 59).toNat).drop 2) with
   | .ok n => if n < 0 ∨ 127 < n ∨ formL n ≠ s.take ((Lib.indexByte (s.take 6) 59).toNat + 1) then (0, 0) else (n, Lib.indexByte (s.take 6) 59 + 1)
   | _ => (0, 0)
 else (0, 0)
def refC (s : List UInt8) : Int × Int := (refForms s [38, 60, 62, 34]).getD (refNum s)
def unescL : List UInt8 → Nat → List UInt8 → Nat → Except Nat (List UInt8)
 | _, 0, acc, _ => .ok acc
 | s, k + 1, acc, i =>
  match s with
  | [] => .ok acc
  | b :: r =>
   if b.toNat = 38 then (if (refC s).2 = 0 then .error i else unescL (s.drop (refC s).2.toNat) k (acc ++ [(refC s).1.toNat.toUInt8]) (i + (refC s).2.toNat))
   else if formL (b.toNat : Int) ≠ [] then .error i else unescL r k (acc ++ [b]) (i + 1)
def escape_Unescape.f (a0 : ByteArray) : Option (ByteArray × Int × Int) :=
 if a0.size ≤ 1000000000000 then
  match unescL a0.data.toList a0.size [] 0 with
  | .ok l => some (⟨l.toArray⟩, 0, 0)
  | .error i => some (⟨#[]⟩, (i : Int), 2)
 else none
theorem hasPrefix_eq (a b : ByteArray) : qsc.f a b = some (b.data.toList.isPrefixOf a.data.toList) := by
 unfold qsc.f qnc.f
 have hex : (a.extract 0 ((b.size : Int) : Int).toNat).toList = a.data.toList.take b.size := by
  rw [Lib.toList_data]
  simp
 have hla : a.data.toList.length = a.size := rfl
 have hlb : b.data.toList.length = b.size := rfl
 by_cases h : (a.size : Int) ≥ (b.size : Int)
 ·rw [if_pos h, if_pos (by omega), if_pos (by omega), hex, Lib.toList_data]
  simp only [Option.bind_some, Option.some.injEq]
  rw [Bool.eq_iff_iff, beq_iff_eq, List.isPrefixOf_iff_prefix, List.prefix_iff_eq_take]
  rw [hlb]
  exact eq_comm
 ·rw [if_neg h]
  simp only [Option.bind_some, Option.some.injEq]
  symm
  rw [Bool.eq_false_iff]
  intro hp
  have := (List.isPrefixOf_iff_prefix.1 hp).length_le
  omega
set_option maxHeartbeats 8000000 in
set_option maxRecDepth 100000 in
theorem escape_reference.calls (s : ByteArray) (w : World) (hG : Glob w) :
  Calls Tryz.prog 76 #[.string s] w fun e w' => e = .returned (.tuple #[.int .u8 (refC s.data.toList).1, .int .i64 (refC s.data.toList).2]) ∧ Below w.heap.size w w' := by
 have HG := qa.mk hG
 clear hG
 go_enter Tryz.func76, Tryz.ntmps76
 go_wp2_with fail
 go_loopg [11] 5 (fun kq v11 w' => ∃ (j : Nat), v11 = .int .i64 (j : Int) ∧ w'.heap[w.heap.size]? = some (.cells #[.int .u8 38, .int .u8 60, .int .u8 62, .int .u8 34] 5 (0, 0)) ∧ qa (j ≤ 4 ∧ kq = 5 - j) ∧ qa (refForms s.data.toList (([38, 60, 62, 34] : List Int).drop j) = refForms s.data.toList [38, 60, 62, 34]) ∧ qa (Below w.heap.size w w'))
 case atStart => exact ⟨0, rfl, heap_alloc_new w _, ⟨by omega, rfl⟩, ⟨rfl⟩, ⟨qc (Below.refl _ _) _⟩⟩
 case round =>
  obtain ⟨j, rfl, hblk, HJ, HF, HB⟩ := hrel
  obtain ⟨hj, rfl⟩ := HJ.out
  by_cases h4 : j = 4
  ·subst h4
   have HR := qa.mk (show refC s.data.toList = refNum s.data.toList from by
    unfold refC
    rw [← HF.out]
    rfl)
   clear hblk HF HJ hj
   cases hp : ([38, 35] : List UInt8).isPrefixOf s.data.toList
   ·have HN := qa.mk (show refNum s.data.toList = (0, 0) from by
     unfold refNum
     rw [if_neg (by rw [hp]; exact Bool.false_ne_true)])
    have HP := qa.mk (show qsc.f s ⟨#[38, 35]⟩ = some false from by rw [hasPrefix_eq, ← hp])
    clear hp
    go_wp2_with (go_at_call 85; refine (qsc.calls _ _ _ _ HP.out).mono ?_; rintro e w3 ⟨rfl, hw3⟩; have HB3 := qa.mk (HB.out.trans (hw3.below.mono HB.out.size)); clear hw3)
    go_ret2
    exact ⟨by rw [HR.out, HN.out]; rfl, HB3.out⟩
   ·have HN := qa.mk hp
    have HP := qa.mk (show qsc.f s ⟨#[38, 35]⟩ = some true from by rw [hasPrefix_eq, ← hp])
    have h2s : 2 ≤ s.size := by
     have := (List.isPrefixOf_iff_prefix.1 hp).length_le
     exact this
    have h0 : s.data.toList[0]? = some 38 ∧ s.data.toList[1]? = some 35 := by
     obtain ⟨t, ht⟩ := List.isPrefixOf_iff_prefix.1 hp
     rw [← ht]
     exact ⟨rfl, rfl⟩
    obtain ⟨e, he⟩ : ∃ e, e = Lib.indexByte (s.data.toList.take 6) 59 := ⟨_, rfl⟩
    have HE := qa.mk he
    have HX1 := qa.mk (show strings_IndexByte.f (s.extract 0 6) 59 = some e from by
     rw [he]
     unfold strings_IndexByte.f
     congr 2
     simp)
    have HX2 := qa.mk (show (s.size : Int) ≤ 6 → strings_IndexByte.f s 59 = some e from by
     intro h6
     rw [he, List.take_of_length_le (by have : s.data.toList.length = s.size := rfl; omega)]
     rfl)
    have hem : e = -1 ∨ (2 ≤ e ∧ e < s.size ∧ e < 6) := by
     have h1 := Lib.indexByte_ge (s.data.toList.take 6) 59
     rw [← he] at h1
     by_cases h : e = -1
     ·exact .inl h
     ·right
      obtain ⟨n, rfl⟩ := Int.eq_ofNat_of_zero_le (show 0 ≤ e by omega)
      have h2 := (Lib.indexByte_some he.symm).1
      have h3 := (List.getElem?_eq_some_iff.1 h2).1
      rw [List.length_take] at h3
      rw [List.getElem?_take_of_lt (by omega)] at h2
      have hls : s.data.toList.length = s.size := rfl
      refine ⟨?_, by omega, by omega⟩
      rcases (show n = 0 ∨ n = 1 ∨ 2 ≤ n by omega) with rfl | rfl | h
      ·rw [h0.1] at h2; cases h2
      ·rw [h0.2] at h2; cases h2
      ·omega
    clear hp he h0
    go_upto_if 34 with (first | (go_at_call 85; refine (qsc.calls _ _ _ _ HP.out).mono ?_; rintro e w3 ⟨rfl, hw3⟩; have HB3 := qa.mk (HB.out.trans (hw3.below.mono HB.out.size)); clear hw3) | (go_at_call 75; refine (strings_IndexByte.calls _ _ e _ (by first | exact HX1.out | exact HX2.out (by omega))).mono ?_; rintro e w4 ⟨rfl, hw4⟩; have HB4 := qa.mk (HB3.out.trans (hw4.below.mono HB3.out.size)); clear hw4))
    all_goals
     clear HB3 HX1 HX2 HP HB
     rcases hem with hem | ⟨h2, hes, he6⟩
     ·have HNR := qa.mk (show refNum s.data.toList = (0, 0) from by
       unfold refNum
       rw [if_pos HN.out, ← HE.out, if_pos (by omega)])
      have hlt0 : e < 0 := by omega
      clear hem
      go_wp2_with fail
      go_ret2
      exact ⟨by rw [HR.out, HNR.out]; rfl, HB4.out⟩
     ·have hlt0 : ¬ e < 0 := by omega
      have HNR := qa.mk (show refNum s.data.toList = (match Lib.atoiAll ((s.data.toList.take e.toNat).drop 2) with
        | .ok n => if n < 0 ∨ 127 < n ∨ formL n ≠ s.data.toList.take (e.toNat + 1) then (0, 0) else (n, e + 1)
        | _ => (0, 0)) from by
       unfold refNum
       rw [if_pos HN.out, ← HE.out, if_neg hlt0])
      have hex : (s.extract 2 e.toNat).data.toList = (s.data.toList.take e.toNat).drop 2 := by
       simp [List.drop_take, List.extract_eq_take_drop]
      have hexs : (s.extract 2 e.toNat).size ≤ 281474976710656 := by
       simp only [ByteArray.size_extract]
       omega
      rw [← hex] at HNR
      have HXS := qa.mk hexs
      clear hex hexs
      have hle2 : e ≤ (s.size : Int) := by omega
      obtain ⟨⟨tp1, p1, hv1⟩, tp2, p2, hv2⟩ := (HG.out.below HB4.out).2
      have HV1 := qa.mk hv1
      have HV2 := qa.mk hv2
      clear hv1 hv2
      have hends : ∀ z : Lib.NumEnd Int, (∃ n, z = .ok n) ∨ z = Lib.NumEnd.syntax ∨ z = .range := by
       intro z
       cases z
       exact .inl ⟨_, rfl⟩
       exact .inr (.inl rfl)
       exact .inr (.inr rfl)
      rcases hends (Lib.atoiAll (s.extract 2 e.toNat).data.toList) with ⟨n, hat⟩ | hat | hat
      ·rw [hat] at HNR
       dsimp only at HNR
       have HAT := qa.mk hat
       clear hat
       go_upto_region 13 with (first | (go_at_call 86; go_loud (refine (Tryz.strconv_Atoi_ok _ (Nat.le_trans HXS.out (by decide)) n HAT.out _).mono ?_); rintro e5 w5 ⟨rfl, hw5⟩; have HB5 := qa.mk (HB4.out.trans (Below.mono (show Below w4.heap.size w4 w5 from by rcases hw5 with rfl | ⟨t, rfl⟩; exact Below.refl _ _; exact Lib.bytesWorld_below _ _ _) HB4.out.size)); clear hw5))
       clear HV1 HV2
       by_cases hn0 : n < 0
       ·have HNS := qa.mk (show refNum s.data.toList = (0, 0) from by rw [HNR.out, if_pos (.inl hn0)])
        have hd0 : decide (n < 0) = true := by simpa using hn0
        go_quiet (fail)
        go_wp2_with fail
        go_ret2
        exact ⟨by rw [HR.out, HNS.out]; rfl, zz36⟩
       by_cases hn1 : 127 < n
       ·have HNS := qa.mk (show refNum s.data.toList = (0, 0) from by rw [HNR.out, if_pos (.inr (.inl hn1))])
        have hd0 : decide (n < 0) = false := by simpa using hn0
        have hd1 : decide (127 < n) = true := by simpa using hn1
        go_quiet (fail)
        go_wp2_with fail
        go_ret2
        exact ⟨by rw [HR.out, HNS.out]; rfl, zz36⟩
       have hd0 : decide (n < 0) = false := by simpa using hn0
       have hd1 : decide (127 < n) = false := by simpa using hn1
       have hwr : IntKind.u8.wrap n = n := by
        rw [show IntKind.u8.wrap n = n % 256 from by simp [IntKind.wrap, IntKind.bits, IntKind.signed]]
        omega
       have HN2 := qa.mk (show 0 ≤ n ∧ n ≤ 255 from by omega)
       have hs5 := HB5.out.size
       have he1 : IntKind.i64.wrap (e + 1) = e + 1 := by rw [IntKind.wrap_i64]; omega
       have hle3 : e + 1 ≤ (s.size : Int) := by omega
       have hle4 : 0 ≤ e + 1 := by omega
       go_region_held3 (fun w' => Below w.heap.size w w') (first | exact HB5.out | exact HB6.out | exact Below.drew HB5.out | exact Below.drew HB6.out | (apply below_drewN; assumption) | assumption) (first | (go_at_call 37; refine (escape_form.calls n _ _ (HG.out.below (by assumption)) (if_pos HN2.out)).mono ?_; rintro e6 w6 ⟨rfl, hb6⟩; have HB6 := qa.mk (Below.trans (show Below w.heap.size w _ from by assumption) (hb6.mono hs5)); clear hb6))
       generalize hq : (formL n == (s.extract 0 (e + 1).toNat).toList) = q
       have hx : (s.extract 0 (e + 1).toNat).toList = s.data.toList.take (e.toNat + 1) := by
        rw [Lib.toList_data, show (e + 1).toNat = e.toNat + 1 by omega]
        simp
       rw [hx] at hq
       clear hx
       have HQ := qa.mk hq
       clear hq
       cases q
       ·have HNS := qa.mk (show refNum s.data.toList = (0, 0) from by rw [HNR.out, if_pos (.inr (.inr (beq_eq_false_iff_ne.1 HQ.out)))])
        go_wp2_with fail
        go_ret2
        exact ⟨by rw [HR.out, HNS.out]; rfl, HB6.out⟩
       ·have HNS := qa.mk (show refNum s.data.toList = (n, e + 1) from by
         rw [HNR.out, if_neg]
         rintro (h1 | h1 | h1)
         ·omega
         ·omega
         ·exact h1 (beq_iff_eq.1 HQ.out))
        go_wp2_with fail
        go_ret2
        exact ⟨by rw [HR.out, HNS.out]; rfl, HB6.out⟩
      ·rw [hat] at HNR
       have HAT := qa.mk hat
       clear hat
       go_upto_region 13 with (first | (go_at_call 86; go_loud (refine (Tryz.strconv_Atoi_syntax_var _ HXS.out HAT.out tp1 p1 _ HV1.out).mono ?_); rintro e5 w5 ⟨N5, rfl, hN5, _, hb5⟩; have HB5 := qa.mk (HB4.out.trans (hb5.mono HB4.out.size)); clear hb5))
       go_quiet (fail)
       go_wp2_with fail
       go_ret2
       exact ⟨by rw [HR.out, HNR.out]; rfl, zz36⟩
      ·rw [hat] at HNR
       have HAT := qa.mk hat
       clear hat
       go_upto_region 13 with (first | (go_at_call 86; go_loud (refine (Tryz.strconv_Atoi_range_var _ HXS.out HAT.out tp2 p2 _ HV2.out).mono ?_); rintro e5 w5 ⟨N5, rfl, hN5, _, hb5⟩; have HB5 := qa.mk (HB4.out.trans (hb5.mono HB4.out.size)); clear hb5))
       go_quiet (fail)
       go_wp2_with fail
       go_ret2
       exact ⟨by rw [HR.out, HNR.out]; rfl, zz36⟩
  ·obtain ⟨c, hc0, hc1, hcl, hcell⟩ : ∃ c : Int, 0 ≤ c ∧ c ≤ 255 ∧ ([38, 60, 62, 34] : List Int).drop j = c :: ([38, 60, 62, 34] : List Int).drop (j + 1) ∧ wr.cell? ⟨w.heap.size, (j : Nat), none⟩ = some (.int .u8 c) := by
    have hj4 : j = 0 ∨ j = 1 ∨ j = 2 ∨ j = 3 := by omega
    rcases hj4 with rfl | rfl | rfl | rfl
    ·exact ⟨38, by omega, by omega, rfl, (qh hblk 0).trans rfl⟩
    ·exact ⟨60, by omega, by omega, rfl, (qh hblk 1).trans rfl⟩
    ·exact ⟨62, by omega, by omega, rfl, (qh hblk 2).trans rfl⟩
    ·exact ⟨34, by omega, by omega, rfl, (qh hblk 3).trans rfl⟩
   have HC := qa.mk (And.intro hc0 hc1)
   have HCL := qa.mk hcl
   clear hc0 hc1 hcl
   have hj3 : (j : Int) < 4 := by omega
   have HBLK := qa.mk hblk
   clear hblk
   have hcell2 : wr.cell? ((⟨w.heap.size, 0, none⟩ : Addr).add j) = some (.int .u8 c) := by
    rw [Addr.add_lit, Nat.zero_add]
    exact hcell
   cases hb : (formL c).isPrefixOf s.data.toList
   ·have HN := qa.mk (show refForms s.data.toList (([38, 60, 62, 34] : List Int).drop (j + 1)) = refForms s.data.toList [38, 60, 62, 34] from by
     rw [← HF.out, HCL.out]
     simp only [refForms, hb, Bool.false_eq_true, if_false])
    have HP := qa.mk (show qsc.f s ⟨(formL c).toArray⟩ = some false from by rw [hasPrefix_eq, ← hb])
    clear hb
    go_wp2_with (first | (go_at_call 37; refine (escape_form.calls c _ _ (HG.out.below HB.out) (if_pos HC.out)).mono ?_; rintro e w2 ⟨rfl, hb2⟩; have HB2 := qa.mk (HB.out.trans (hb2.mono HB.out.size)); have HBLK2 := qa.mk ((hb2.block w.heap.size (Array.getElem?_eq_some_iff.1 HBLK.out).1).trans HBLK.out); clear hb2) | (go_at_call 85; refine (qsc.calls _ _ _ _ HP.out).mono ?_; rintro e w3 ⟨rfl, hw3⟩; have HB3 := qa.mk (HB2.out.trans (hw3.below.mono HB2.out.size)); have HBLK3 := qa.mk ((hw3.below.block w.heap.size (Array.getElem?_eq_some_iff.1 HBLK2.out).1).trans HBLK2.out); clear hw3))
    go_roundg (5 - (j + 1))
    case measure => omega
    case rel => exact ⟨j + 1, by simp, HBLK3.out, ⟨by omega, rfl⟩, HN, HB3⟩
   ·have HN := qa.mk (show refC s.data.toList = (c, ((formL c).length : Int)) from by
     unfold refC
     rw [← HF.out, HCL.out]
     simp only [refForms, hb, if_true, Option.getD_some])
    have HP := qa.mk (show qsc.f s ⟨(formL c).toArray⟩ = some true from by rw [hasPrefix_eq, ← hb])
    clear hb
    go_wp2_with (first | (go_at_call 37; first | (refine (escape_form.calls c _ _ (HG.out.below HB.out) (if_pos HC.out)).mono ?_; rintro e w2 ⟨rfl, hb2⟩; have HB2 := qa.mk (HB.out.trans (hb2.mono HB.out.size)); clear hb2) | (refine (escape_form.calls c _ _ (HG.out.below HB3.out) (if_pos HC.out)).mono ?_; rintro e w4 ⟨rfl, hb4⟩; have HB4 := qa.mk (HB3.out.trans (hb4.mono HB3.out.size)); clear hb4)) | (go_at_call 85; refine (qsc.calls _ _ _ _ HP.out).mono ?_; rintro e w3 ⟨rfl, hw3⟩; have HB3 := qa.mk (HB2.out.trans (hw3.below.mono HB2.out.size)); clear hw3))
    go_ret2
    exact ⟨by rw [HN.out]; rfl, HB4.out⟩
theorem refForms_ok (s : List UInt8) : ∀ (cs : List Int), (∀ c ∈ cs, 0 ≤ c ∧ c ≤ 127 ∧ formL c ≠ []) → ∀ c n, refForms s cs = some (c, n) → 1 ≤ n ∧ n ≤ s.length ∧ 0 ≤ c ∧ c ≤ 127
 | [], _, _, _, h => by cases h
 | c0 :: r, hc, c, n, h => by
  unfold refForms at h
  obtain ⟨h1, h2, h3⟩ := hc c0 (List.mem_cons_self ..)
  split at h
  ·rename_i hp
   have hle := (List.isPrefixOf_iff_prefix.1 hp).length_le
   have hpos := List.length_pos_iff.2 h3
   cases h
   omega
  ·exact refForms_ok s r (fun c hm => hc c (List.mem_cons_of_mem _ hm)) c n h
theorem refC_ok (s : List UInt8) : (refC s).2 = 0 ∨ (1 ≤ (refC s).2 ∧ (refC s).2 ≤ s.length ∧ 0 ≤ (refC s).1 ∧ (refC s).1 ≤ 127) := by
 unfold refC
 cases h : refForms s [38, 60, 62, 34] with
 | some x =>
  right
  obtain ⟨c, n⟩ := x
  exact refForms_ok s _ (by decide) c n h
 | none =>
  simp only [Option.getD_none]
  unfold refNum
  split
  ·split
   ·exact .inl rfl
   ·rename_i h2
    split
    ·rename_i n hn
     split
     ·exact .inl rfl
     ·right
      rename_i h3
      have h4 := Lib.indexByte_ge (s.take 6) 59
      obtain ⟨o, ho⟩ := Int.eq_ofNat_of_zero_le (show 0 ≤ Lib.indexByte (s.take 6) 59 by omega)
      have h5 := (List.getElem?_eq_some_iff.1 (Lib.indexByte_some ho).1).1
      rw [List.length_take] at h5
      rw [not_or, not_or] at h3
      dsimp only
      omega
    ·exact .inl rfl
  ·exact .inl rfl
set_option maxHeartbeats 8000000 in
set_option maxRecDepth 100000 in
theorem escape_Unescape.calls (a0 : ByteArray) (r1 : ByteArray) (r2 r3 : Int) (w : World) (hG : Glob w) (h : escape_Unescape.f a0 = some (r1, r2, r3)) :
  Calls Tryz.prog 61 #[.string a0] w fun e w' => e = .returned (.tuple #[.string r1, .int .i64 r2, .int .i64 r3]) ∧ Below w.heap.size w w' := by
 unfold escape_Unescape.f at h
 by_cases hl : a0.size ≤ 1000000000000
 rotate_left
 ·rw [if_neg hl] at h
  cases h
 rw [if_pos hl] at h
 have HG := qa.mk hG
 have HH := qa.mk h
 clear hG h
 have hls : a0.data.toList.length = a0.size := rfl
 go_enter Tryz.func61, Tryz.ntmps61
 go_wp2_with fail
 go_loopg [6] (a0.size + 1) (fun kq v6 w' => ∃ (j k : Nat) (acc : List UInt8), v6 = .int .i64 (j : Int) ∧ qa (j ≤ a0.size ∧ kq = a0.size + 1 - j ∧ acc.length ≤ j ∧ a0.size ≤ k + j) ∧ qa (unescL (a0.data.toList.drop j) k acc j = unescL a0.data.toList a0.size [] 0) ∧ qa (Bld w.heap.size acc w') ∧ qa (Below w.heap.size w w'))
 case atStart => exact ⟨0, a0.size, [], rfl, ⟨Nat.zero_le _, rfl, Nat.le_refl _, Nat.le_refl _⟩, ⟨rfl⟩, ⟨Bld.fresh w⟩, ⟨qc (Below.refl _ _) _⟩⟩
 case round =>
  obtain ⟨j, k, acc, rfl, HJ, HU, HI, HB⟩ := hrel
  obtain ⟨hj, hk, hacc, hjk⟩ := HJ.out
  clear HJ
  subst hk
  have hsz : w.heap.size ≤ wr.heap.size := HB.out.size
  by_cases hlt : j < a0.size
  ·obtain ⟨k, rfl⟩ : ∃ k', k = k' + 1 := ⟨k - 1, by omega⟩
   have hcons : a0.data.toList.drop j = a0[j] :: a0.data.toList.drop (j + 1) := by
    rw [List.drop_eq_getElem_cons (by omega)]
    rfl
   have hb255 : (a0[j].toNat : Int) ≤ 255 := by have := a0[j].toNat_lt; omega
   by_cases h38 : a0[j].toNat = 38
   ·have hU2 := HU.out
    conv at hU2 => lhs; rw [hcons]; unfold unescL
    dsimp only at hU2
    rw [if_pos h38, ← hcons] at hU2
    have hok := refC_ok (a0.data.toList.drop j)
    have hex : (a0.extract j a0.size).data.toList = a0.data.toList.drop j := by
     simp only [ByteArray.data_extract, Array.toList_extract, List.extract_eq_take_drop]
     exact List.take_of_length_le (by rw [List.length_drop]; omega)
    have HEX := qa.mk hex
    obtain ⟨cc, nn, hcn⟩ : ∃ cc nn, refC (a0.data.toList.drop j) = (cc, nn) := ⟨_, _, rfl⟩
    have HCN := qa.mk hcn
    rw [hcn] at hU2 hok
    dsimp only at hU2 hok
    have c38 : ((a0[j].toNat : Int) == 38) = true := by rw [h38]; rfl
    clear hcn hex hcons
    by_cases hn0 : nn = 0
    ·rw [if_pos hn0] at hU2
     have HU2 := qa.mk hU2
     clear hU2 hok
     subst hn0
     go_wp2_with (first | (go_at_call 76; go_loud (refine (escape_reference.calls _ _ (HG.out.below HB.out)).mono ?_); rintro e w2 ⟨rfl, hb⟩; have HB2 := qa.mk (qp HB.out hb); clear hb; rw [HEX.out, HCN.out]; dsimp only))
     go_ret3
     have h9 := HH.out
     rw [← HU2.out] at h9
     simp only [Option.some.injEq, Prod.mk.injEq] at h9
     obtain ⟨rfl, rfl, rfl⟩ := h9
     exact ⟨rfl, HB2.out⟩
    ·rw [if_neg hn0] at hU2
     obtain ⟨h1, h2, h3, h4⟩ := hok.resolve_left hn0
     have hN1 : (nn == 0) = false := by simpa using hn0
     obtain ⟨m, rfl⟩ := Int.eq_ofNat_of_zero_le (show 0 ≤ nn by omega)
     rw [List.drop_drop] at hU2
     simp only [Int.toNat_natCast] at hU2
     rw [List.length_drop] at h2
     have HU2 := qa.mk hU2
     clear hU2 hok hn0
     go_wp2_with (first | (go_at_call 76; refine (escape_reference.calls _ _ (HG.out.below HB.out)).mono ?_; rintro e w2 ⟨rfl, hb⟩; have HB2 := qa.mk (qp HB.out hb); have HI2 := qa.mk (HI.out.below hb); have hs2 := HB2.out.size; clear hb; rw [HEX.out, HCN.out]; dsimp only) | (go_at_call 21; go_loud (refine (Bld.byte w.heap.size _ cc _ HI2.out h3 (by omega) (by omega) hs2).mono ?_); rintro e w3 ⟨rfl, h3, hb3, _⟩; have HB3 := qa.mk (HB2.out.trans hb3); have HI3 := qa.mk h3; clear h3 hb3))
     go_roundg (a0.size + 1 - (j + m))
     case measure => omega
     case rel => exact ⟨j + m, k, _, by go_num, ⟨by omega, rfl, by simp; omega, by omega⟩, HU2, HI3, HB3⟩
   ·have hU2 := HU.out
    conv at hU2 => lhs; rw [hcons]; unfold unescL
    dsimp only at hU2
    rw [if_neg h38] at hU2
    have c38 : ((a0[j].toNat : Int) == 38) = false := by simp; omega
    have HF := qa.mk (show escape_form.f (a0[j].toNat : Int) = some ⟨(formL (a0[j].toNat : Int)).toArray⟩ from if_pos ⟨by omega, hb255⟩)
    clear hcons
    by_cases hf : formL (a0[j].toNat : Int) = []
    ·rw [if_neg (by rw [hf]; simp)] at hU2
     have HU2 := qa.mk hU2
     have HE := qa.mk hf
     clear hU2 hf
     go_wp2_with (first | (go_at_call 37; refine (escape_form.calls _ _ _ (Glob.below HG.out HB.out) HF.out).mono ?_; rintro e w2 ⟨rfl, hb⟩; have HB2 := qa.mk (qp HB.out hb); have HI2 := qa.mk (HI.out.below hb); have hs2 := HB2.out.size; clear hb; rw [HE.out]) | (go_at_call 21; refine (Bld.byte w.heap.size _ (a0[j].toNat : Int) _ HI2.out (by omega) hb255 (by omega) hs2).mono ?_; rintro e w3 ⟨rfl, h3, hb3, _⟩; have HB3 := qa.mk (HB2.out.trans hb3); have HI3 := qa.mk h3; clear h3 hb3))
     go_roundg (a0.size + 1 - (j + 1))
     case measure => omega
     case rel => exact ⟨j + 1, k, acc ++ [a0[j]], by go_num, ⟨by omega, rfl, by simp; omega, by omega⟩, HU2, ⟨by simpa using HI3.out⟩, HB3⟩
    ·rw [if_pos hf] at hU2
     have HU2 := qa.mk hU2
     have c1 : (formL (a0[j].toNat : Int)).isEmpty = false := by simpa using hf
     clear hU2 hf
     go_wp2_with (first | (go_at_call 37; refine (escape_form.calls _ _ _ (Glob.below HG.out HB.out) HF.out).mono ?_; rintro e w2 ⟨rfl, hb⟩; have HB2 := qa.mk (qp HB.out hb); clear hb))
     go_ret3
     have h9 := HH.out
     rw [← HU2.out] at h9
     simp only [Option.some.injEq, Prod.mk.injEq] at h9
     obtain ⟨rfl, rfl, rfl⟩ := h9
     exact ⟨rfl, HB2.out⟩
  ·have HU2 := qa.mk (show unescL a0.data.toList a0.size [] 0 = .ok acc from by
    rw [← HU.out, List.drop_eq_nil_of_le (by omega)]
    cases k <;> rfl)
   go_wp2_with (go_at_call 24; refine (Bld.out w.heap.size _ _ HI.out hsz).mono ?_; rintro e w2 ⟨rfl, hb⟩; have HB2 := qa.mk (HB.out.trans hb); clear hb)
   go_ret3
   have h9 := HH.out
   rw [HU2.out] at h9
   simp only [Option.some.injEq, Prod.mk.injEq] at h9
   obtain ⟨rfl, rfl, rfl⟩ := h9
   exact ⟨rfl, HB2.out⟩
def query_reader_text.f (s0_0 : ByteArray) (s0_1 : Bool) : Option (ByteArray × ByteArray × Bool) := (qpc.f s0_0 s0_1 (⟨#[34]⟩ : ByteArray)).bind fun bt128 => ((escape_Unescape.f bt128.1).bind fun bt131 => (if bt131.2.2 = 0 then ((qjb.f bt128.2.1 bt128.2.2 (⟨#[34]⟩ : ByteArray)).bind fun bt134 => (if bt134.1 = true then (some (bt131.1, bt134.2.1, bt134.2.2)) else (some (bt131.1, bt134.2.1, true)))) else (some (bt131.1, bt128.2.1, true))))
set_option maxHeartbeats 8000000 in
set_option maxRecDepth 100000 in
theorem query_reader_text.calls (g : Nat) (s0_0 : ByteArray) (s0_1 : Bool) (r1 : ByteArray) (r2 : ByteArray) (r3 : Bool) (w0 w : World) (hG : Glob w0) (hI : IsS74 w0 w g s0_0 s0_1) (hB : Below w0.heap.size w0 w) (h : query_reader_text.f s0_0 s0_1 = some (r1, r2, r3)) :
  Calls Tryz.prog 45 #[.pointer (some ⟨g, 0, none⟩)] w fun e w' => e = .returned (.string r1) ∧ IsS74 w0 w' g r2 r3 ∧ Below w0.heap.size w0 w' ∧ KeepBut w w' g none := by
 have HG := qa.mk hG
 clear hG
 have HI0 := qa.mk hI
 have HK := qa.mk (KeepBut.refl w g none)
 have HL := qa.mk hB.size
 clear hI
 have HW0 := qa.mk hB.size
 have HB := qa.mk hB
 clear hB
 have H : ((qpc.f s0_0 s0_1 (⟨#[34]⟩ : ByteArray)).bind fun bt128 => ((escape_Unescape.f bt128.1).bind fun bt131 => (if bt131.2.2 = 0 then ((qjb.f bt128.2.1 bt128.2.2 (⟨#[34]⟩ : ByteArray)).bind fun bt134 => (if bt134.1 = true then (some (bt131.1, bt134.2.1, bt134.2.2)) else (some (bt131.1, bt134.2.1, true)))) else (some (bt131.1, bt128.2.1, true))))) = some (r1, r2, r3) := h
 clear h
 replace H := Option.bind_eq_some_iff.mp H
 obtain ⟨⟨t128, t129, t130⟩, A20, H⟩ := H
 replace H : ((escape_Unescape.f t128).bind fun bt131 => (if bt131.2.2 = 0 then ((qjb.f t129 t130 (⟨#[34]⟩ : ByteArray)).bind fun bt134 => (if bt134.1 = true then (some (bt131.1, bt134.2.1, bt134.2.2)) else (some (bt131.1, bt134.2.1, true)))) else (some (bt131.1, t129, true)))) = some (r1, r2, r3) := H
 have A2 := qa.mk A20
 clear A20
 replace H := Option.bind_eq_some_iff.mp H
 obtain ⟨⟨t131, t132, t133⟩, A30, H⟩ := H
 replace H : (if t133 = 0 then ((qjb.f t129 t130 (⟨#[34]⟩ : ByteArray)).bind fun bt134 => (if bt134.1 = true then (some (t131, bt134.2.1, bt134.2.2)) else (some (t131, bt134.2.1, true)))) else (some (t131, t129, true))) = some (r1, r2, r3) := H
 have A3 := qa.mk A30
 clear A30
 by_cases c4 : t133 = 0
 ·rw [if_pos c4] at H
  have c4b0 : (t133 == 0) = true := beq_iff_eq.mpr c4
  have c4b1 : (t133 != 0) = false := bne_eq_false_iff_eq.mpr c4
  clear c4
  replace H := Option.bind_eq_some_iff.mp H
  obtain ⟨⟨t134, t135, t136⟩, A50, H⟩ := H
  replace H : (if t134 = true then (some (t131, t135, t136)) else (some (t131, t135, true))) = some (r1, r2, r3) := H
  have A5 := qa.mk A50
  clear A50
  by_cases c6 : t134 = true
  ·subst c6
   have H1 : (some (t131, t135, t136)) = some (r1, r2, r3) := by rw [if_pos rfl] at H; exact H
   clear H
   have H := H1
   clear H1
   simp only [Option.some.injEq, Prod.mk.injEq] at H
   obtain ⟨rfl, rfl, rfl⟩ := H
   go_enter Tryz.func45, Tryz.ntmps45
   go_wp2_with (first | ((with_reducible refine qy (f := 44) rfl ?_); refine qrb (some 8) rfl rfl Tryz.func44 (by kernel_rfl) rfl #[.pointer (some ⟨g, 0, none⟩), .string (⟨#[34]⟩ : ByteArray)] rfl zz93 ?_; (with_reducible refine (qpc.calls g s0_0 s0_1 (⟨#[34]⟩ : ByteArray) t128 t129 t130 w0 _ ?side1 ?side2 A2.out).mono ?_); (case side1 => exact zz118); (case side2 => exact zz91); rintro e w7 ⟨rfl, hi, hb, hk⟩; refine ⟨_, rfl, ?_⟩; have n0_ := qa.mk (KeepBut.trans zz97 hk (.inl rfl)); have n1_ := qa.mk (hb); have n2_ := qa.mk (hi); clear HK; clear HB; clear HI0; have HK := n0_; have HB := n1_; have HI0 := n2_; clear n0_ n1_ n2_; (try clear hb); (try clear hb2); (try clear hk); (try clear hi)) | ((with_reducible refine qy (f := 61) rfl ?_); refine qrb (some 9) rfl rfl Tryz.func61 (by kernel_rfl) rfl #[.string t128] rfl zz93 ?_; (with_reducible refine (escape_Unescape.calls t128 t131 t132 t133 _ ?side1 A3.out).mono ?_); (case side1 => exact zz116); rintro e w8 ⟨rfl, hb⟩; refine ⟨_, rfl, ?_⟩; have n0_ := qa.mk (IsS74.below zz118 hb); have n1_ := qa.mk (KeepBut.trans zz97 (KeepBut.of_below hb g none) (.inl rfl)); have n2_ := qa.mk (qp zz91 hb); clear HI0; clear HK; clear HB; have HI0 := n0_; have HK := n1_; have HB := n2_; clear n0_ n1_ n2_; (try clear hb); (try clear hb2); (try clear hk); (try clear hi)) | (go_at_call 28; (with_reducible refine (qjb.calls g t129 t130 (⟨#[34]⟩ : ByteArray) true t135 t136 w0 _ ?side1 ?side2 A5.out).mono ?_); (case side1 => exact zz118); (case side2 => exact zz91); rintro e w9 ⟨rfl, hi, hb, hk⟩; have n0_ := qa.mk (KeepBut.trans zz97 hk (.inl rfl)); have n1_ := qa.mk (hb); have n2_ := qa.mk (hi); clear HK; clear HB; clear HI0; have HK := n0_; have HB := n1_; have HI0 := n2_; clear n0_ n1_ n2_; (try clear hb); (try clear hb2); (try clear hk); (try clear hi)))
   go_ret
   exact ⟨zz102, zz118, zz91, zz97⟩
  ·replace c6 := Bool.eq_false_iff.mpr c6
   subst c6
   have H1 : (some (t131, t135, true)) = some (r1, r2, r3) := by rw [if_neg (show ¬ (false = true) by decide)] at H; exact H
   clear H
   have H := H1
   clear H1
   simp only [Option.some.injEq, Prod.mk.injEq] at H
   obtain ⟨rfl, rfl, rfl⟩ := H
   go_enter Tryz.func45, Tryz.ntmps45
   go_wp2_with (first | ((with_reducible refine qy (f := 44) rfl ?_); refine qrb (some 8) rfl rfl Tryz.func44 (by kernel_rfl) rfl #[.pointer (some ⟨g, 0, none⟩), .string (⟨#[34]⟩ : ByteArray)] rfl zz93 ?_; (with_reducible refine (qpc.calls g s0_0 s0_1 (⟨#[34]⟩ : ByteArray) t128 t129 t130 w0 _ ?side1 ?side2 A2.out).mono ?_); (case side1 => exact zz118); (case side2 => exact zz91); rintro e w10 ⟨rfl, hi, hb, hk⟩; refine ⟨_, rfl, ?_⟩; have n0_ := qa.mk (KeepBut.trans zz97 hk (.inl rfl)); have n1_ := qa.mk (hb); have n2_ := qa.mk (hi); clear HK; clear HB; clear HI0; have HK := n0_; have HB := n1_; have HI0 := n2_; clear n0_ n1_ n2_; (try clear hb); (try clear hb2); (try clear hk); (try clear hi)) | ((with_reducible refine qy (f := 61) rfl ?_); refine qrb (some 9) rfl rfl Tryz.func61 (by kernel_rfl) rfl #[.string t128] rfl zz93 ?_; (with_reducible refine (escape_Unescape.calls t128 t131 t132 t133 _ ?side1 A3.out).mono ?_); (case side1 => exact zz116); rintro e w11 ⟨rfl, hb⟩; refine ⟨_, rfl, ?_⟩; have n0_ := qa.mk (IsS74.below zz118 hb); have n1_ := qa.mk (KeepBut.trans zz97 (KeepBut.of_below hb g none) (.inl rfl)); have n2_ := qa.mk (qp zz91 hb); clear HI0; clear HK; clear HB; have HI0 := n0_; have HK := n1_; have HB := n2_; clear n0_ n1_ n2_; (try clear hb); (try clear hb2); (try clear hk); (try clear hi)) | (go_at_call 28; (with_reducible refine (qjb.calls g t129 t130 (⟨#[34]⟩ : ByteArray) false t135 t136 w0 _ ?side1 ?side2 A5.out).mono ?_); (case side1 => exact zz118); (case side2 => exact zz91); rintro e w12 ⟨rfl, hi, hb, hk⟩; have n0_ := qa.mk (KeepBut.trans zz97 hk (.inl rfl)); have n1_ := qa.mk (hb); have n2_ := qa.mk (hi); clear HK; clear HB; clear HI0; have HK := n0_; have HB := n1_; have HI0 := n2_; clear n0_ n1_ n2_; (try clear hb); (try clear hb2); (try clear hk); (try clear hi); obtain ⟨HGz13, hgz13⟩ := HI0.out; have hcz13_0 := cellS74_0 HGz13; have hcz13_1 := cellS74_1 HGz13; have hfz13_0 := qf HGz13 0; have hfz13_1 := qf HGz13 1; clear HGz13 hgz13))
   go_ret
   exact ⟨zz102, zz118, zz91, zz97⟩
 ·rw [if_neg c4] at H
  have c4b0 : (t133 == 0) = false := beq_eq_false_iff_ne.mpr c4
  have c4b1 : (t133 != 0) = true := bne_iff_ne.mpr c4
  simp only [Option.some.injEq, Prod.mk.injEq] at H
  obtain ⟨rfl, rfl, rfl⟩ := H
  go_enter Tryz.func45, Tryz.ntmps45
  go_wp2_with (first | ((with_reducible refine qy (f := 44) rfl ?_); refine qrb (some 8) rfl rfl Tryz.func44 (by kernel_rfl) rfl #[.pointer (some ⟨g, 0, none⟩), .string (⟨#[34]⟩ : ByteArray)] rfl zz93 ?_; (with_reducible refine (qpc.calls g s0_0 s0_1 (⟨#[34]⟩ : ByteArray) t128 t129 t130 w0 _ ?side1 ?side2 A2.out).mono ?_); (case side1 => exact zz118); (case side2 => exact zz91); rintro e w14 ⟨rfl, hi, hb, hk⟩; refine ⟨_, rfl, ?_⟩; have n0_ := qa.mk (KeepBut.trans zz97 hk (.inl rfl)); have n1_ := qa.mk (hb); have n2_ := qa.mk (hi); clear HK; clear HB; clear HI0; have HK := n0_; have HB := n1_; have HI0 := n2_; clear n0_ n1_ n2_; (try clear hb); (try clear hb2); (try clear hk); (try clear hi)) | ((with_reducible refine qy (f := 61) rfl ?_); refine qrb (some 9) rfl rfl Tryz.func61 (by kernel_rfl) rfl #[.string t128] rfl zz93 ?_; (with_reducible refine (escape_Unescape.calls t128 t131 t132 t133 _ ?side1 A3.out).mono ?_); (case side1 => exact zz116); rintro e w15 ⟨rfl, hb⟩; refine ⟨_, rfl, ?_⟩; have n0_ := qa.mk (IsS74.below zz118 hb); have n1_ := qa.mk (KeepBut.trans zz97 (KeepBut.of_below hb g none) (.inl rfl)); have n2_ := qa.mk (qp zz91 hb); clear HI0; clear HK; clear HB; have HI0 := n0_; have HK := n1_; have HB := n2_; clear n0_ n1_ n2_; (try clear hb); (try clear hb2); (try clear hk); (try clear hi); obtain ⟨HGz16, hgz16⟩ := HI0.out; have hcz16_0 := cellS74_0 HGz16; have hcz16_1 := cellS74_1 HGz16; have hfz16_0 := qf HGz16 0; have hfz16_1 := qf HGz16 1; clear HGz16 hgz16))
  go_ret
  exact ⟨zz102, zz118, zz91, zz97⟩
def part_cond.f (s0 : ByteArray) (b0 : Bool) : Option (S50 × ByteArray × Bool) :=
 (qpc.f s0 b0 ⟨#[61, 93]⟩).bind fun x => (qjb.f x.2.1 x.2.2 ⟨#[61, 34]⟩).bind fun y =>
  (if y.1 = true then (query_reader_text.f y.2.1 y.2.2).bind fun z => some (z.1, true, z.2.1, z.2.2) else some (⟨#[]⟩, false, y.2.1, y.2.2)).bind fun v =>
   if v.2.2.2 = true then some (⟨x.1, v.1, v.2.1⟩, v.2.2.1, true) else (qjb.f v.2.2.1 v.2.2.2 ⟨#[93]⟩).bind fun u => some (⟨x.1, v.1, v.2.1⟩, u.2.1, !u.1)
def part_conds.f : Nat → List S50 → ByteArray → Bool → Option (List S50 × ByteArray × Bool)
 | 0, _, _, _ => none
 | k + 1, acc, s, b => if b = true then some (acc, s, b) else if acc.length ≤ 8 then (qjb.f s b ⟨#[91]⟩).bind fun y => if y.1 = true then (part_cond.f y.2.1 y.2.2).bind fun c => part_conds.f k (acc ++ [c.1]) c.2.1 c.2.2 else some (acc, y.2.1, y.2.2) else some (acc, s, b)
def qac.f (s0 : ByteArray) (b0 : Bool) : Option (Bool × Bool × ByteArray × ByteArray × List S50 × ByteArray × Bool) :=
 (qjb.f s0 b0 ⟨#[42]⟩).bind fun x => (if x.1 = true then some ((⟨#[]⟩ : ByteArray), x.2.1, x.2.2) else (qpc.f x.2.1 x.2.2 ⟨#[35, 91, 62, 32]⟩).bind fun t => some (t.1, t.2.1, t.2.2 || t.1.data.toList.isEmpty)).bind fun t =>
  (qjb.f t.2.1 t.2.2 ⟨#[35, 34]⟩).bind fun y => (if y.1 = true then query_reader_text.f y.2.1 y.2.2 else some (⟨#[]⟩, y.2.1, y.2.2)).bind fun z =>
   (part_conds.f 10 [] z.2.1 z.2.2).bind fun c => some (false, y.1, t.1, z.1, c.1, c.2.1, c.2.2)
theorem keep_new {w W : World} {g b j : Nat} (h : KeepBut w W g none) (hb : w.heap.size ≤ b) (u : Value) : KeepBut w (W.setCell ⟨b, j, none⟩ u) g none :=
 ⟨by simpa [World.setCell] using h.1, fun i hi hg hr => (Below.heap_setCell W ⟨b, j, none⟩ u i (by show i ≠ b; omega)).trans (h.2 i hi hg hr)⟩
structure PC (w0 w : World) (bx g bc : Nat) (s : ByteArray) (b : Bool) (c0 c1 : ByteArray) (c2 : Bool) (W : World) : Prop where
 hx : W.heap[bx]? = some (.cells #[.pointer (some ⟨g, 0, none⟩)] 72 (0, 0))
 hr : W.heap[w.heap.size]? = some (.cells #[.string ⟨#[]⟩, .string ⟨#[]⟩, .bool false] 50 (0, 0))
 hc : W.heap[bc]? = some (.cells #[.string c0, .string c1, .bool c2] 50 (0, 0))
 hn : w.heap.size < bc
 hl : w0.heap.size ≤ w.heap.size
 hi : IsS74 w0 W g s b
 hb : Below w0.heap.size w0 W
 hk : KeepBut w W g none
section
variable {w0 w W W1 : World} {bx g bc : Nat} {s s1 : ByteArray} {b b1 : Bool} {c0 c1 : ByteArray} {c2 : Bool}
theorem PC.ne (h : PC w0 w bx g bc s b c0 c1 c2 W) : bx ≠ g ∧ w.heap.size ≠ g ∧ bc ≠ g ∧ bx ≠ bc := ⟨blk_ne h.hx h.hi.1 (by decide), blk_ne h.hr h.hi.1 (by decide), blk_ne h.hc h.hi.1 (by decide), blk_ne h.hx h.hc (by decide)⟩
theorem PC.call (h : PC w0 w bx g bc s b c0 c1 c2 W) (hi : IsS74 w0 W1 g s1 b1) (hb : Below w0.heap.size w0 W1) (hk : KeepBut W W1 g none) : PC w0 w bx g bc s1 b1 c0 c1 c2 W1 :=
 ⟨hk.blk h.hx h.ne.1 (by simp), hk.blk h.hr h.ne.2.1 (by simp), hk.blk h.hc h.ne.2.2.1 (by simp), h.hn, h.hl, hi, hb, h.hk.trans hk (.inl rfl)⟩
theorem PC.drew (h : PC w0 w bx g bc s b c0 c1 c2 W) : PC w0 w bx g bc s b c0 c1 c2 W.drew := ⟨h.hx, h.hr, h.hc, h.hn, h.hl, h.hi.drew, h.hb.drew, keep_drew h.hk⟩
theorem PC.bad (h : PC w0 w bx g bc s b c0 c1 c2 W) (x : Bool) : PC w0 w bx g bc s x c0 c1 c2 (W.setCell ⟨g, 1, none⟩ (.bool x)) :=
 ⟨qqb h.hx h.ne.1 _, qqb h.hr h.ne.2.1 _, qqb h.hc h.ne.2.2.1 _, h.hn, h.hl, h.hi.set_1 x, qm h.hb h.hi.2, h.hk.set_ 1 _⟩
theorem PC.set1 (h : PC w0 w bx g bc s b c0 c1 c2 W) (x : ByteArray) : PC w0 w bx g bc s b c0 x c2 (W.setCell ⟨bc, 1, none⟩ (.string x)) :=
 ⟨qqb h.hx h.ne.2.2.2 _, qqb h.hr (qyc h.hn) _, qr h.hc 1 _ rfl, h.hn, h.hl, h.hi.far (Ne.symm h.ne.2.2.1) _, qm h.hb (Nat.le_of_lt (Nat.lt_of_le_of_lt h.hl h.hn)), keep_new h.hk (Nat.le_of_lt h.hn) _⟩
theorem PC.set2 (h : PC w0 w bx g bc s b c0 c1 c2 W) (x : Bool) : PC w0 w bx g bc s b c0 c1 x (W.setCell ⟨bc, 2, none⟩ (.bool x)) :=
 ⟨qqb h.hx h.ne.2.2.2 _, qqb h.hr (qyc h.hn) _, qr h.hc 2 _ rfl, h.hn, h.hl, h.hi.far (Ne.symm h.ne.2.2.1) _, qm h.hb (Nat.le_of_lt (Nat.lt_of_le_of_lt h.hl h.hn)), keep_new h.hk (Nat.le_of_lt h.hn) _⟩
theorem PC.look (h : PC w0 w bx g bc s b c0 c1 c2 W) : W.cell? ⟨bx, 0, none⟩ = some (.pointer (some ⟨g, 0, none⟩)) ∧ W.cell? ⟨g, 0, none⟩ = some (.string s) ∧ W.cell? ⟨g, 1, none⟩ = some (.bool b) ∧ W.cell? ⟨bc, 0, none⟩ = some (.string c0) ∧ W.cell? ⟨bc, 1, none⟩ = some (.string c1) ∧ W.cell? ⟨bc, 2, none⟩ = some (.bool c2) ∧ W.frozen? ⟨g, 1, none⟩ = false ∧ W.frozen? ⟨bc, 1, none⟩ = false ∧ W.frozen? ⟨bc, 2, none⟩ = false :=
 ⟨(qh h.hx 0).trans rfl, (qh h.hi.1 0).trans rfl, (qh h.hi.1 1).trans rfl, (qh h.hc 0).trans rfl, (qh h.hc 1).trans rfl, (qh h.hc 2).trans rfl, qf h.hi.1 1, qf h.hc 1, qf h.hc 2⟩
theorem PC.end (h : PC w0 w bx g bc s b c0 c1 c2 W) (u0 u1 u2 : Value) : IsS74 w0 (((W.setCell ⟨w.heap.size, 0, none⟩ u0).setCell ⟨w.heap.size, 1, none⟩ u1).setCell ⟨w.heap.size, 2, none⟩ u2) g s b ∧ Below w0.heap.size w0 (((W.setCell ⟨w.heap.size, 0, none⟩ u0).setCell ⟨w.heap.size, 1, none⟩ u1).setCell ⟨w.heap.size, 2, none⟩ u2) ∧ KeepBut w (((W.setCell ⟨w.heap.size, 0, none⟩ u0).setCell ⟨w.heap.size, 1, none⟩ u1).setCell ⟨w.heap.size, 2, none⟩ u2) g none :=
 ⟨((h.hi.far (Ne.symm h.ne.2.1) _).far (Ne.symm h.ne.2.1) _).far (Ne.symm h.ne.2.1) _, qm (qm (qm h.hb h.hl) h.hl) h.hl, keep_new (keep_new (keep_new h.hk (Nat.le_refl _) _) (Nat.le_refl _) _) (Nat.le_refl _) _⟩
end
set_option maxHeartbeats 8000000 in
set_option maxRecDepth 100000 in
theorem qac.cond (bx g : Nat) (s0 : ByteArray) (b0 : Bool) (c : S50) (s1 : ByteArray) (b1 : Bool) (w0 w : World) (hG : Glob w0) (hI : IsS74 w0 w g s0 b0) (hB : Below w0.heap.size w0 w) (hx : w.heap[bx]? = some (.cells #[.pointer (some ⟨g, 0, none⟩)] 72 (0, 0))) (h : part_cond.f s0 b0 = some (c, s1, b1)) :
  Calls Tryz.prog 46 #[.pointer (some ⟨bx, 0, none⟩)] w fun e w' => e = .returned (.agg #[.string c.f0, .string c.f1, .bool c.f2]) ∧ IsS74 w0 w' g s1 b1 ∧ Below w0.heap.size w0 w' ∧ KeepBut w w' g none := by
 obtain ⟨⟨nm, s2, b2⟩, hrun, h2⟩ := Option.bind_eq_some_iff.1 h
 obtain ⟨⟨ok, s3, b3⟩, his, h3⟩ := Option.bind_eq_some_iff.1 h2
 obtain ⟨⟨v, gv, s4, b4⟩, htx, h4⟩ := Option.bind_eq_some_iff.1 h3
 clear h h2 h3
 dsimp only at hrun his htx h4
 have HRUN := qa.mk hrun
 have HIS := qa.mk his
 have HTX := qa.mk htx
 have HH := qa.mk h4
 have HG := qa.mk hG
 have HI := qa.mk hI
 have HB := qa.mk hB
 have HX := qa.mk hx
 have hs := hB.size
 have HNE := qa.mk (blk_ne hx hI.1 (by decide))
 have hu1 := Tryz.underlying50
 clear hrun his htx h4 hG hI hB
 obtain ⟨w1, hw1⟩ : ∃ w1, w1 = w.alloc (.cells #[.string ⟨#[]⟩, .string ⟨#[]⟩, .bool false] 50) := ⟨_, rfl⟩
 have hx1 := (qh (qj hx (.cells #[.string ⟨#[]⟩, .string ⟨#[]⟩, .bool false] 50)) 0).trans (show _ = some (Value.pointer (some ⟨g, 0, none⟩)) from rfl)
 have HK1 := qa.mk (keep_alloc (KeepBut.refl w g none) (.cells #[.string ⟨#[]⟩, .string ⟨#[]⟩, .bool false] 50))
 have HI1 := qa.mk (HI.out.alloc (.cells #[.string ⟨#[]⟩, .string ⟨#[]⟩, .bool false] 50))
 have HB1 := qa.mk (qc HB.out (.cells #[.string ⟨#[]⟩, .string ⟨#[]⟩, .bool false] 50))
 have HR1 := qa.mk (heap_alloc_new w (.cells #[.string ⟨#[]⟩, .string ⟨#[]⟩, .bool false] 50))
 clear hx hw1 w1
 go_enter Tryz.func46, Tryz.ntmps46
 go_upto_if 7 with (first
  | (go_at_call 44; refine (qpc.calls g _ _ _ _ _ _ w0 _ HI1.out HB1.out HRUN.out).mono ?_; rintro e w2 ⟨rfl, hi2, hb2, hk2⟩; have HP2 := qa.mk (show PC w0 w bx g w2.heap.size s2 b2 nm ⟨#[]⟩ false (w2.alloc (.cells #[.string nm, .string ⟨#[]⟩, .bool false] 50)) from ⟨qj (hk2.blk (qj HX.out _) HNE.out (by simp)) _, qj (hk2.blk HR1.out (blk_ne HR1.out HI1.out.1 (by decide)) (by simp)) _, heap_alloc_new _ _, qbc (hk2.blk HR1.out (blk_ne HR1.out HI1.out.1 (by decide)) (by simp)), hs, hi2.alloc _, qc hb2 _, keep_alloc (HK1.out.trans hk2 (.inl rfl)) _⟩); obtain ⟨hp0, hp1, hp2, hp3, hp4, hp5, hp6, hp7, hp8⟩ := HP2.out.look; clear hi2 hb2 hk2)
  | (go_at_call 28; go_loud (refine (qjb.calls g _ _ _ _ _ _ w0 _ HP2.out.hi HP2.out.hb HIS.out).mono ?_); rintro e w3 ⟨rfl, hi3, hb3, hk3⟩; have HP3 := qa.mk (HP2.out.call hi3 hb3 hk3); clear hi3 hb3 hk3))
 clear hp0 hp1 hp2 hp3 hp4 hp5 hp6 hp7 hp8 hx1
 obtain ⟨hp0, hp1, hp2, hp3, hp4, hp5, hp6, hp7, hp8⟩ := HP3.out.look
 go_cut [] (fun wc => qa (PC w0 w bx g w2.heap.size s4 b4 nm v gv wc))
 case first =>
  cases ok
  ·have hq := HTX.out
   rw [if_neg Bool.false_ne_true] at hq
   simp only [Option.some.injEq, Prod.mk.injEq] at hq
   obtain ⟨rfl, rfl, rfl, rfl⟩ := hq
   go_wp2_with fail
   go_meet
   exact HP3
  ·have hq := HTX.out
   rw [if_pos rfl] at hq
   obtain ⟨⟨z1, z2, z3⟩, hz, hq⟩ := Option.bind_eq_some_iff.1 hq
   simp only [Option.some.injEq, Prod.mk.injEq] at hq
   obtain ⟨rfl, rfl, rfl, rfl⟩ := hq
   have HZ := qa.mk hz
   clear hz
   go_wp2_with (first
    | (go_at_call 45; go_loud (refine (query_reader_text.calls g _ _ _ _ _ w0 _ HG.out HP3.out.hi HP3.out.hb HZ.out).mono ?_); rintro e w4 ⟨rfl, hi4, hb4, hk4⟩; have HP4 := qa.mk (HP3.out.call hi4 hb4 hk4); obtain ⟨hq0, hq1, hq2, hq3, hq4, hq5, hq6, hq7, hq8⟩ := HP4.out.look; clear hi4 hb4 hk4))
   go_meet
   exact ⟨(HP4.out.set2 true).set1 _⟩
 case rest =>
  clear hp0 hp1 hp2 hp3 hp4 hp5 hp6 hp7 hp8
  obtain ⟨hp0, hp1, hp2, hp3, hp4, hp5, hp6, hp7, hp8⟩ := hcut.out.look
  cases b4
  ·have hq := HH.out
   rw [if_neg Bool.false_ne_true] at hq
   obtain ⟨⟨z1, z2, z3⟩, hz, hq⟩ := Option.bind_eq_some_iff.1 hq
   simp only [Option.some.injEq, Prod.mk.injEq] at hq
   obtain ⟨rfl, rfl, rfl⟩ := hq
   have HZ := qa.mk hz
   clear hz
   clear hq HH HTX HRUN HIS
   go_wp2_with fail
   go_cut [] (fun wd => qa (PC w0 w bx g w2.heap.size z2 (!z1) nm v gv wd))
   case first =>
    go_region_with (first | (go_at_call 28; refine (qjb.calls g _ _ _ _ _ _ w0 _ hcut.out.drew.hi hcut.out.drew.hb HZ.out).mono ?_; rintro e w5 ⟨rfl, hi5, hb5, hk5⟩; have HP5 := qa.mk (hcut.out.drew.call hi5 hb5 hk5); obtain ⟨hr0, hr1, hr2, hr3, hr4, hr5, hr6, hr7, hr8⟩ := HP5.out.look; clear hi5 hb5 hk5))
    all_goals go_wp2_with fail
    all_goals go_meet
    all_goals exact ⟨HP5.out.bad (!z1)⟩
   case rest =>
    have HP6 := hcut
    clear hp0 hp1 hp2 hp3 hp4 hp5 hp6 hp7 hp8
    obtain ⟨hp0, hp1, hp2, hp3, hp4, hp5, hp6, hp7, hp8⟩ := HP6.out.look
    have hz0 := qf HP6.out.hr 0
    have hz1 := qf HP6.out.hr 1
    have hz2 := qf HP6.out.hr 2
    have hz3 : _ = some (Value.string ⟨#[]⟩) := qh HP6.out.hr 0
    have hz4 : _ = some (Value.string ⟨#[]⟩) := qh HP6.out.hr 1
    have hz5 : _ = some (Value.bool false) := qh HP6.out.hr 2
    go_wp2_with fail
    (try simp only [Exit.inBlock, Exit.then])
    refine bodyPost_ret (v := .agg #[.string nm, .string v, .bool gv]) ?_ rfl ?_
    exact results_cell_row rfl _ _ w.heap.size 50 #[.string nm, .string v, .bool gv] (0, 0) _ rfl (qr (qr (qr HP6.out.hr 0 _ rfl) 1 _ rfl) 2 _ rfl) Tryz.underlying50 rfl (by kernel_rfl)
    exact ⟨rfl, HP6.out.end _ _ _⟩
  ·have hq := HH.out
   rw [if_pos rfl] at hq
   simp only [Option.some.injEq, Prod.mk.injEq] at hq
   obtain ⟨rfl, rfl, rfl⟩ := hq
   clear HH HTX HRUN HIS
   go_wp2_with fail
   go_cut [] (fun wd => qa (PC w0 w bx g w2.heap.size s4 true nm v gv wd))
   case first =>
    go_region_with fail
    all_goals go_wp2_with fail
    all_goals go_meet
    all_goals exact ⟨hcut.out.drew.bad true⟩
   case rest =>
    have HP6 := hcut
    clear hp0 hp1 hp2 hp3 hp4 hp5 hp6 hp7 hp8
    obtain ⟨hp0, hp1, hp2, hp3, hp4, hp5, hp6, hp7, hp8⟩ := HP6.out.look
    have hz0 := qf HP6.out.hr 0
    have hz1 := qf HP6.out.hr 1
    have hz2 := qf HP6.out.hr 2
    have hz3 : _ = some (Value.string ⟨#[]⟩) := qh HP6.out.hr 0
    have hz4 : _ = some (Value.string ⟨#[]⟩) := qh HP6.out.hr 1
    have hz5 : _ = some (Value.bool false) := qh HP6.out.hr 2
    go_wp2_with fail
    (try simp only [Exit.inBlock, Exit.then])
    refine bodyPost_ret (v := .agg #[.string nm, .string v, .bool gv]) ?_ rfl ?_
    exact results_cell_row rfl _ _ w.heap.size 50 #[.string nm, .string v, .bool gv] (0, 0) _ rfl (qr (qr (qr HP6.out.hr 0 _ rfl) 1 _ rfl) 2 _ rfl) Tryz.underlying50 rfl (by kernel_rfl)
    exact ⟨rfl, HP6.out.end _ _ _⟩
structure PP (w0 w : World) (g : Nat) (s : ByteArray) (b : Bool) (p1 : Bool) (p2 p3 : ByteArray) (vs : Value) (cs : List S50) (W : World) : Prop where
 hx : W.heap[w.heap.size]? = some (.cells #[.pointer (some ⟨g, 0, none⟩)] 72 (0, 0))
 hr : W.heap[w.heap.size + 1]? = some (.cells #[.bool false, .bool false, .string ⟨#[]⟩, .string ⟨#[]⟩, .slice none 0 0] 48 (0, 0))
 hp : W.heap[w.heap.size + 1 + 1]? = some (.cells #[.bool false, .bool p1, .string p2, .string p3, vs] 48 (0, 0))
 ho : Kd.R k50 50 W w.heap.size (fun _ => True) vs cs
 hl : w0.heap.size ≤ w.heap.size
 hi : IsS74 w0 W g s b
 hb : Below w0.heap.size w0 W
 hk : KeepBut w W g none
section
variable {w0 w W W1 : World} {g : Nat} {s s1 : ByteArray} {b b1 : Bool} {p1 : Bool} {p2 p3 : ByteArray} {vs : Value} {cs : List S50}
theorem PP.ne (h : PP w0 w g s b p1 p2 p3 vs cs W) : w.heap.size ≠ g ∧ w.heap.size + 1 ≠ g ∧ w.heap.size + 1 + 1 ≠ g := ⟨blk_ne h.hx h.hi.1 (by decide), blk_ne h.hr h.hi.1 (by decide), blk_ne h.hp h.hi.1 (by decide)⟩
theorem PP.call (h : PP w0 w g s b p1 p2 p3 vs cs W) (hi : IsS74 w0 W1 g s1 b1) (hb : Below w0.heap.size w0 W1) (hk : KeepBut W W1 g none) : PP w0 w g s1 b1 p1 p2 p3 vs cs W1 :=
 ⟨hk.blk h.hx h.ne.1 (by simp), hk.blk h.hr h.ne.2.1 (by simp), hk.blk h.hp h.ne.2.2 (by simp), Kd.R_mono (Kd.R_keep (Kd.R_types h.ho h.hi.1 (by decide)) hk (fun _ hh => hh.2)) (fun _ _ => trivial), h.hl, hi, hb, h.hk.trans hk (.inl rfl)⟩
theorem PP.drew (h : PP w0 w g s b p1 p2 p3 vs cs W) : PP w0 w g s b p1 p2 p3 vs cs W.drew := ⟨h.hx, h.hr, h.hp, Kd.R_drew h.ho, h.hl, h.hi.drew, h.hb.drew, keep_drew h.hk⟩
theorem PP.bad (h : PP w0 w g s b p1 p2 p3 vs cs W) (x : Bool) : PP w0 w g s x p1 p2 p3 vs cs (W.setCell ⟨g, 1, none⟩ (.bool x)) :=
 ⟨qqb h.hx h.ne.1 _, qqb h.hr h.ne.2.1 _, qqb h.hp h.ne.2.2 _, Kd.R_set h.ho h.hi.1 (by decide) _ _, h.hl, h.hi.set_1 x, qm h.hb h.hi.2, h.hk.set_ 1 _⟩
theorem PP.set1 (h : PP w0 w g s b p1 p2 p3 vs cs W) (x : Bool) : PP w0 w g s b x p2 p3 vs cs (W.setCell ⟨w.heap.size + 1 + 1, 1, none⟩ (.bool x)) :=
 ⟨qqb h.hx zz1 _, qqb h.hr zz1 _, qr h.hp 1 _ rfl, Kd.R_set h.ho h.hp (by decide) _ _, h.hl, h.hi.far (Ne.symm h.ne.2.2) _, qm h.hb (by have := h.hl; omega), keep_new h.hk (by omega) _⟩
theorem PP.set2 (h : PP w0 w g s b p1 p2 p3 vs cs W) (x : ByteArray) : PP w0 w g s b p1 x p3 vs cs (W.setCell ⟨w.heap.size + 1 + 1, 2, none⟩ (.string x)) :=
 ⟨qqb h.hx zz1 _, qqb h.hr zz1 _, qr h.hp 2 _ rfl, Kd.R_set h.ho h.hp (by decide) _ _, h.hl, h.hi.far (Ne.symm h.ne.2.2) _, qm h.hb (by have := h.hl; omega), keep_new h.hk (by omega) _⟩
theorem PP.set3 (h : PP w0 w g s b p1 p2 p3 vs cs W) (x : ByteArray) : PP w0 w g s b p1 p2 x vs cs (W.setCell ⟨w.heap.size + 1 + 1, 3, none⟩ (.string x)) :=
 ⟨qqb h.hx zz1 _, qqb h.hr zz1 _, qr h.hp 3 _ rfl, Kd.R_set h.ho h.hp (by decide) _ _, h.hl, h.hi.far (Ne.symm h.ne.2.2) _, qm h.hb (by have := h.hl; omega), keep_new h.hk (by omega) _⟩
theorem PP.grow (h : PP w0 w g s b p1 p2 p3 vs cs W) {v1 : Value} {cs1 : List S50} (ho : Kd.R k50 50 W1 w.heap.size (fun _ => True) v1 cs1) (hb : Below w.heap.size W W1) (hg : W.grownBy W1 vs.ownBlock) : PP w0 w g s b p1 p2 p3 v1 cs1 (W1.setCell ⟨w.heap.size + 1 + 1, 4, none⟩ v1) := by
 have e1 := blk_grown h.hx hg (Kd.R_ne h.ho h.hx (by decide))
 have e2 := blk_grown h.hr hg (Kd.R_ne h.ho h.hr (by decide))
 have e3 := blk_grown h.hp hg (Kd.R_ne h.ho h.hp (by decide))
 exact ⟨qqb e1 zz1 _, qqb e2 zz1 _, qr e3 4 _ rfl, Kd.R_set ho e3 (by decide) _ _, h.hl, (h.hi.grown hg (Kd.R_ne h.ho h.hi.1 (by decide))).far (Ne.symm h.ne.2.2) _, qm (h.hb.trans (hb.mono h.hl)) (by have := h.hl; omega), keep_new ⟨Nat.le_trans h.hk.1 hg.size, fun i hi hgi hn => (hb.block i hi).trans (h.hk.2 i hi hgi hn)⟩ (by omega) _⟩
theorem PP.look (h : PP w0 w g s b p1 p2 p3 vs cs W) : W.cell? ⟨w.heap.size, 0, none⟩ = some (.pointer (some ⟨g, 0, none⟩)) ∧ W.cell? ⟨g, 1, none⟩ = some (.bool b) ∧ W.cell? ⟨w.heap.size + 1 + 1, 0, none⟩ = some (.bool false) ∧ W.cell? ⟨w.heap.size + 1 + 1, 1, none⟩ = some (.bool p1) ∧ W.cell? ⟨w.heap.size + 1 + 1, 2, none⟩ = some (.string p2) ∧ W.cell? ⟨w.heap.size + 1 + 1, 3, none⟩ = some (.string p3) ∧ W.cell? ⟨w.heap.size + 1 + 1, 4, none⟩ = some vs :=
 ⟨(qh h.hx 0).trans rfl, (qh h.hi.1 1).trans rfl, (qh h.hp 0).trans rfl, (qh h.hp 1).trans rfl, (qh h.hp 2).trans rfl, (qh h.hp 3).trans rfl, (qh h.hp 4).trans rfl⟩
theorem PP.free (h : PP w0 w g s b p1 p2 p3 vs cs W) : W.frozen? ⟨g, 1, none⟩ = false ∧ W.frozen? ⟨w.heap.size + 1 + 1, 1, none⟩ = false ∧ W.frozen? ⟨w.heap.size + 1 + 1, 2, none⟩ = false ∧ W.frozen? ⟨w.heap.size + 1 + 1, 3, none⟩ = false ∧ W.frozen? ⟨w.heap.size + 1 + 1, 4, none⟩ = false :=
 ⟨qf h.hi.1 1, qf h.hp 1, qf h.hp 2, qf h.hp 3, qf h.hp 4⟩
end
structure PE (w0 w : World) (g : Nat) (s : ByteArray) (b : Bool) (vs : Value) (cs : List S50) (r : Array Value) (W : World) : Prop where
 hr : W.heap[w.heap.size + 1]? = some (.cells r 48 (0, 0))
 ho : Kd.R k50 50 W w.heap.size (fun _ => True) vs cs
 hl : w0.heap.size ≤ w.heap.size
 hi : IsS74 w0 W g s b
 hb : Below w0.heap.size w0 W
 hk : KeepBut w W g none
theorem PE.put {w0 w W : World} {g : Nat} {s : ByteArray} {b : Bool} {vs : Value} {cs : List S50} {r : Array Value} (h : PE w0 w g s b vs cs r W) (j : Nat) (u : Value) : PE w0 w g s b vs cs (r.setIfInBounds j u) (W.setCell ⟨w.heap.size + 1, j, none⟩ u) :=
 ⟨qr h.hr j u rfl, Kd.R_set h.ho h.hr (by decide) _ _, h.hl, h.hi.far (Ne.symm (blk_ne h.hr h.hi.1 (by decide))) _, qm h.hb (by have := h.hl; omega), keep_new h.hk (by omega) _⟩
theorem PP.last {w0 w W : World} {g : Nat} {s : ByteArray} {b : Bool} {p1 : Bool} {p2 p3 : ByteArray} {vs : Value} {cs : List S50} (h : PP w0 w g s b p1 p2 p3 vs cs W) :
  PE w0 w g s b vs cs #[.bool false, .bool p1, .string p2, .string p3, vs] (((((W.setCell ⟨w.heap.size + 1, 0, none⟩ (.bool false)).setCell ⟨w.heap.size + 1, 1, none⟩ (.bool p1)).setCell ⟨w.heap.size + 1, 2, none⟩ (.string p2)).setCell ⟨w.heap.size + 1, 3, none⟩ (.string p3)).setCell ⟨w.heap.size + 1, 4, none⟩ vs) :=
 ((((PE.put ⟨h.hr, h.ho, h.hl, h.hi, h.hb, h.hk⟩ 0 _).put 1 _).put 2 _).put 3 _).put 4 _
theorem PP.back {w0 w W : World} {g : Nat} {s : ByteArray} {b : Bool} {p1 : Bool} {p2 p3 : ByteArray} {vs : Value} {cs : List S50} (h : PP w0 w g s b p1 p2 p3 vs cs W) :
  W.frozen? ⟨w.heap.size + 1, 0, none⟩ = false ∧ W.frozen? ⟨w.heap.size + 1, 1, none⟩ = false ∧ W.frozen? ⟨w.heap.size + 1, 2, none⟩ = false ∧ W.frozen? ⟨w.heap.size + 1, 3, none⟩ = false ∧ W.frozen? ⟨w.heap.size + 1, 4, none⟩ = false ∧ W.cell? ⟨w.heap.size + 1, 0, none⟩ = some (.bool false) ∧ W.cell? ⟨w.heap.size + 1, 1, none⟩ = some (.bool false) ∧ W.cell? ⟨w.heap.size + 1, 2, none⟩ = some (.string ⟨#[]⟩) ∧ W.cell? ⟨w.heap.size + 1, 3, none⟩ = some (.string ⟨#[]⟩) ∧ W.cell? ⟨w.heap.size + 1, 4, none⟩ = some (.slice none 0 0) :=
 ⟨qf h.hr 0, qf h.hr 1, qf h.hr 2, qf h.hr 3, qf h.hr 4, qh h.hr 0, qh h.hr 1, qh h.hr 2, qh h.hr 3, qh h.hr 4⟩
set_option maxHeartbeats 8000000 in
set_option maxRecDepth 100000 in
theorem qac.calls (g : Nat) (s0_0 : ByteArray) (s0_1 : Bool) (r1 r2 : Bool) (r3 r4 : ByteArray) (r5 : List S50) (r6 : ByteArray) (r7 : Bool) (w0 w : World) (hG : Glob w0) (hI : IsS74 w0 w g s0_0 s0_1) (hB : Below w0.heap.size w0 w) (h : qac.f s0_0 s0_1 = some (r1, r2, r3, r4, r5, r6, r7)) :
  Calls Tryz.prog 27 #[.pointer (some ⟨g, 0, none⟩)] w fun e w' => ∃ v : Value, e = .returned (.agg #[.bool r1, .bool r2, .string r3, .string r4, v]) ∧ Kd.R k50 50 w' w.heap.size (fun _ => True) v r5 ∧ IsS74 w0 w' g r6 r7 ∧ Below w0.heap.size w0 w' ∧ KeepBut w w' g none := by
 obtain ⟨⟨st, s2, b2⟩, his, h2⟩ := Option.bind_eq_some_iff.1 h
 obtain ⟨⟨tg, s3, b3⟩, htg, h3⟩ := Option.bind_eq_some_iff.1 h2
 obtain ⟨⟨kd, s4, b4⟩, his2, h4⟩ := Option.bind_eq_some_iff.1 h3
 obtain ⟨⟨ky, s5, b5⟩, hky, h5⟩ := Option.bind_eq_some_iff.1 h4
 obtain ⟨⟨cs, s6, b6⟩, hcs, h6⟩ := Option.bind_eq_some_iff.1 h5
 clear h h2 h3 h4 h5
 dsimp only at his htg his2 hky hcs h6
 simp only [Option.some.injEq, Prod.mk.injEq] at h6
 obtain ⟨rfl, rfl, rfl, rfl, rfl, rfl, rfl⟩ := h6
 have HIS := qa.mk his
 have HTG := qa.mk htg
 have HIS2 := qa.mk his2
 have HKY := qa.mk hky
 have HCS := qa.mk hcs
 have HG := qa.mk hG
 have HI := qa.mk hI
 have HB := qa.mk hB
 have hs := hB.size
 have hu1 := Tryz.underlying48
 have hu2 := Tryz.underlying50
 clear his htg his2 hky hcs hG hI hB
 go_enter Tryz.func27, Tryz.ntmps27
 go_upto_region 2 with fail
 have HP0 := qa.mk (show PP w0 w g s0_0 s0_1 false ⟨#[]⟩ ⟨#[]⟩ (.slice none 0 0) [] (((w.alloc (.cells #[.pointer (some ⟨g, 0, none⟩)] 72)).alloc (.cells #[.bool false, .bool false, .string ⟨#[]⟩, .string ⟨#[]⟩, .slice none 0 0] 48)).alloc (.cells #[.bool false, .bool false, .string ⟨#[]⟩, .string ⟨#[]⟩, .slice none 0 0] 48)) from
  ⟨qj (qj (blk_new _ _) _) _, by simpa using qj (blk_new (w.alloc (.cells #[.pointer (some ⟨g, 0, none⟩)] 72)) (.cells #[.bool false, .bool false, .string ⟨#[]⟩, .string ⟨#[]⟩, .slice none 0 0] 48)) (.cells #[.bool false, .bool false, .string ⟨#[]⟩, .string ⟨#[]⟩, .slice none 0 0] 48), by simpa using blk_new ((w.alloc (.cells #[.pointer (some ⟨g, 0, none⟩)] 72)).alloc (.cells #[.bool false, .bool false, .string ⟨#[]⟩, .string ⟨#[]⟩, .slice none 0 0] 48)) (.cells #[.bool false, .bool false, .string ⟨#[]⟩, .string ⟨#[]⟩, .slice none 0 0] 48), Kd.R_nil _ _ _ _ _, hs, ((HI.out.alloc _).alloc _).alloc _, qc (qc (qc HB.out _) _) _, keep_alloc (keep_alloc (keep_alloc (KeepBut.refl _ _ _) _) _) _⟩)
 generalize ((w.alloc (.cells #[.pointer (some ⟨g, 0, none⟩)] 72)).alloc (.cells #[.bool false, .bool false, .string ⟨#[]⟩, .string ⟨#[]⟩, .slice none 0 0] 48)).alloc (.cells #[.bool false, .bool false, .string ⟨#[]⟩, .string ⟨#[]⟩, .slice none 0 0] 48) = W0 at *
 obtain ⟨ha0, ha1, ha2, ha3, ha4, ha5, ha6⟩ := HP0.out.look
 go_upto_if 7 with (first
  | (go_at_call 28; refine (qjb.calls g _ _ _ _ _ _ w0 _ HP0.out.hi HP0.out.hb HIS.out).mono ?_; rintro e w1 ⟨rfl, hi1, hb1, hk1⟩; have HP1 := qa.mk (HP0.out.call hi1 hb1 hk1); clear hi1 hb1 hk1))
 clear ha0 ha1 ha2 ha3 ha4 ha5 ha6
 obtain ⟨ha0, ha1, ha2, ha3, ha4, ha5, ha6⟩ := HP1.out.look
 go_cut [] (fun wc => qa (PP w0 w g s3 b3 false tg ⟨#[]⟩ (.slice none 0 0) [] wc))
 case first =>
  have hq := HTG.out
  clear HTG HIS
  cases st
  ·rw [Bool.not_false]
   rw [if_neg Bool.false_ne_true] at hq
   obtain ⟨⟨z1, z2, z3⟩, hz, hq2⟩ := Option.bind_eq_some_iff.1 hq
   simp only [Option.some.injEq, Prod.mk.injEq] at hq2
   obtain ⟨rfl, rfl, hq3⟩ := hq2
   have HZ := qa.mk hz
   have HQ := qa.mk hq3
   clear hz hq hq3
   go_upto_if 13 with (first
    | (go_at_call 44; refine (qpc.calls g _ _ _ _ _ _ w0 _ HP1.out.hi HP1.out.hb HZ.out).mono ?_; rintro e w2 ⟨rfl, hi2, hb2, hk2⟩; have HP2 := qa.mk (HP1.out.call hi2 hb2 hk2); have HP3 := qa.mk (HP2.out.set2 z1); obtain ⟨hb0, hb1, hb2, hb3, hb4, hb5, hb6⟩ := HP2.out.look; obtain ⟨hf0, hf1, hf2, hf3, hf4⟩ := HP2.out.free; clear hi2 hk2))
   have HQ2 := qa.mk (show (z3 || z1.toList.isEmpty) = b3 from by rw [Lib.toList_data]; exact HQ.out)
   clear hb0 hb1 hb2 hb3 hb4 hb5 hb6 hf0 hf1 hf2 hf3 hf4 ha0 ha1 ha2 ha3 ha4 ha5 ha6
   obtain ⟨ha0, ha1, ha2, ha3, ha4, ha5, ha6⟩ := HP3.out.look
   obtain ⟨hf0, hf1, hf2, hf3, hf4⟩ := HP3.out.free
   generalize w2.setCell ⟨w.heap.size + 1 + 1, 2, none⟩ (.string z1) = w3 at *
   generalize z1.toList.isEmpty = em at *
   cases em
   ·have e3 : z3 = b3 := by simpa using HQ2.out
    subst e3
    go_wp2_with fail
    go_meet
    exact HP3
   ·have e3 : true = b3 := by simpa using HQ2.out
    subst e3
    go_wp2_with fail
    go_meet
    exact ⟨HP3.out.bad true⟩
  ·rw [Bool.not_true]
   rw [if_pos rfl] at hq
   simp only [Option.some.injEq, Prod.mk.injEq] at hq
   obtain ⟨rfl, rfl, rfl⟩ := hq
   go_wp2_with fail
   go_meet
   exact HP1
 case rest =>
  clear ha0 ha1 ha2 ha3 ha4 ha5 ha6 HTG HIS HP0 HP1
  obtain ⟨ha0, ha1, ha2, ha3, ha4, ha5, ha6⟩ := hcut.out.look
  go_upto_if 18 with (first
   | (go_at_call 28; refine (qjb.calls g _ _ _ _ _ _ w0 _ hcut.out.hi hcut.out.hb HIS2.out).mono ?_; rintro e w1 ⟨rfl, hi1, hb1, hk1⟩; have HP1 := qa.mk (hcut.out.call hi1 hb1 hk1); clear hi1 hb1 hk1))
  clear ha0 ha1 ha2 ha3 ha4 ha5 ha6 hcut HIS2
  obtain ⟨ha0, ha1, ha2, ha3, ha4, ha5, ha6⟩ := HP1.out.look
  go_cut [] (fun wc => qa (PP w0 w g s5 b5 kd tg ky (.slice none 0 0) [] wc))
  case first =>
   have hq := HKY.out
   clear HKY HCS
   cases kd
   ·rw [if_neg Bool.false_ne_true] at hq
    simp only [Option.some.injEq, Prod.mk.injEq] at hq
    obtain ⟨rfl, rfl, rfl⟩ := hq
    go_wp2_with fail
    go_meet
    exact HP1
   ·rw [if_pos rfl] at hq
    have HZ := qa.mk hq
    clear hq
    go_wp2_with (first
     | (go_at_call 45; refine (query_reader_text.calls g _ _ _ _ _ w0 _ HG.out HP1.out.hi HP1.out.hb HZ.out).mono ?_; rintro e w4 ⟨rfl, hi4, hb4, hk4⟩; have HP4 := qa.mk (HP1.out.call hi4 hb4 hk4); obtain ⟨hb0, hb1, hb2, hb3, hb4, hb5, hb6⟩ := HP4.out.look; obtain ⟨hf0, hf1, hf2, hf3, hf4⟩ := HP4.out.free; clear hi4 hk4))
    go_meet
    exact ⟨(HP4.out.set1 true).set3 _⟩
  case rest =>
   clear ha0 ha1 ha2 ha3 ha4 ha5 ha6 HP1 HKY
   go_wp2_with fail
   go_loopg [] 10 (fun kq w' => ∃ (s : ByteArray) (b : Bool) (vs : Value) (acc : List S50), qa (part_conds.f kq acc s b = some (cs, s6, b6)) ∧ qa (PP w0 w g s b kd tg ky vs acc w'))
   case atStart => exact ⟨_, _, _, _, HCS, hcut⟩
   case round =>
    clear HCS
    obtain ⟨s, b, vs, acc, HC, HP⟩ := hrel
    obtain ⟨A, cp, rfl⟩ := Kd.R_slice HP.out.ho
    cases gk with
    | zero => exact absurd HC.out (by simp [part_conds.f])
    | succ k =>
     have hc := HC.out
     unfold part_conds.f at hc
     clear HC
     cases b
     ·rw [if_neg Bool.false_ne_true] at hc
      by_cases h8 : acc.length ≤ 8
      ·rw [if_pos h8] at hc
       obtain ⟨⟨y1, y2, y3⟩, hy, hc⟩ := Option.bind_eq_some_iff.1 hc
       have HY := qa.mk hy
       dsimp only at hc
       have HC := qa.mk hc
       clear hy hc
       have h8a : decide ((acc.length : Int) ≤ 8) = true := by simp; omega
       obtain ⟨ha0, ha1, ha2, ha3, ha4, ha5, ha6⟩ := HP.out.look
       go_upto_if 38 with (first
        | (go_at_call 28; refine (qjb.calls g _ _ _ _ _ _ w0 _ HP.out.hi HP.out.hb HY.out).mono ?_; rintro e w1 ⟨rfl, hi1, hb1, hk1⟩; have HP1 := qa.mk (HP.out.call hi1 hb1 hk1); clear hi1 hb1 hk1))
       clear ha0 ha1 ha2 ha3 ha4 ha5 ha6 HY
       obtain ⟨ha0, ha1, ha2, ha3, ha4, ha5, ha6⟩ := HP1.out.look
       have hc := HC.out
       clear HC
       cases y1
       ·rw [if_neg Bool.false_ne_true] at hc
        simp only [Option.some.injEq, Prod.mk.injEq] at hc
        obtain ⟨rfl, rfl, rfl⟩ := hc
        obtain ⟨hk0, hk1, hk2, hk3, hk4, hk5, hk6, hk7, hk8, hk9⟩ := HP1.out.back
        go_wp2_with fail
        refine bodyPost_ret (v := .agg #[.bool false, .bool kd, .string tg, .string ky, .slice A acc.length cp]) ?_ rfl ?_
        exact results_cell_row rfl _ _ (w.heap.size + 1) 48 #[.bool false, .bool kd, .string tg, .string ky, .slice A acc.length cp] (0, 0) _ rfl HP1.out.last.hr Tryz.underlying48 rfl (by kernel_rfl)
        exact ⟨_, rfl, HP1.out.last.ho, HP1.out.last.hi, HP1.out.last.hb, HP1.out.last.hk⟩
       ·rw [if_pos rfl] at hc
        obtain ⟨⟨c, z2, z3⟩, hz, hc⟩ := Option.bind_eq_some_iff.1 hc
        have HZ := qa.mk hz
        have HC := qa.mk hc
        clear hz hc
        have HIN := qa.mk (show (Tryz.prog.info? 50).map (fun i => (i.zero, i.size, i.bytes)) = some (some (.agg #[.string ⟨#[]⟩, .string ⟨#[]⟩, .bool false]), Kd.sz k50, 40) from by kernel_rfl)
        have HA8 := qa.mk (show (acc.length + 1) * 40 ≤ 140737488355328 from by omega)
        go_wp2_with fail
        go_region_law (first
         | (refine Kd.R_append_step k50 (w0 := w5) w.heap.size rfl (.tmp 40) (.tmp 43) 46 50 (.agg #[.string ⟨#[]⟩, .string ⟨#[]⟩, .bool false]) 40 rfl Tryz.underlying46 HIN.out rfl (by decide) (by decide) (.slice A acc.length cp) acc c [.string c.f0, .string c.f1, .bool c.f2] (fun _ => True) (fun _ => False) rfl rfl (k50_mkM _ _ _ _) (fun _ h => h.elim) (fun _ _ => trivial) HP5.out.ho (Below.refl _ _) (Nat.le_of_lt (Nat.lt_of_le_of_lt (Nat.le_add_right _ _) (qbc HP5.out.hr))) HA8.out ?_; intro v1 w6 ho6 hb6 hg6 _; obtain ⟨A6, c6, e6⟩ := Kd.R_slice ho6; subst e6; have HP6 := qa.mk (HP5.out.grow ho6 hb6 hg6); rw [show (acc ++ [c]).length = acc.length + 1 from by simp] at HP6; have hp6 := blk_grown HP5.out.hp hg6 (Kd.R_ne HP5.out.ho HP5.out.hp (by decide)); have hc6 : _ = some (Value.slice A acc.length cp) := qh hp6 4; have hf6 := qf hp6 4; clear ho6 hb6 hg6 hp6)
         | (go_simp; go_at_call 46; refine (qac.cond _ g _ _ c z2 z3 w0 _ HG.out HP1.out.drew.hi HP1.out.drew.hb HP1.out.drew.hx HZ.out).mono ?_; rintro e w5 ⟨rfl, hi5, hb5, hk5⟩; have HP5 := qa.mk (HP1.out.drew.call hi5 hb5 hk5); obtain ⟨hb0, hb1, hb2, hb3, hb4, hb5, hb6⟩ := HP5.out.look; obtain ⟨hf0, hf1, hf2, hf3, hf4⟩ := HP5.out.free; have hb7 : _ = some (Value.slice A acc.length cp) := qh (qj HP5.out.hp (.cells #[.string c.f0, .string c.f1, .bool c.f2] 50)) 4; clear hi5 hk5))
        all_goals go_wp2_with fail
        all_goals go_roundg k
        all_goals first | exact ⟨_, _, _, _, HC, HP6⟩ | omega
      ·rw [if_neg h8] at hc
       simp only [Option.some.injEq, Prod.mk.injEq] at hc
       obtain ⟨rfl, rfl, rfl⟩ := hc
       have h8a : decide ((acc.length : Int) ≤ 8) = false := by simp; omega
       obtain ⟨ha0, ha1, ha2, ha3, ha4, ha5, ha6⟩ := HP.out.look
       obtain ⟨hk0, hk1, hk2, hk3, hk4, hk5, hk6, hk7, hk8, hk9⟩ := HP.out.back
       go_wp2_with fail
       refine bodyPost_ret (v := .agg #[.bool false, .bool kd, .string tg, .string ky, .slice A acc.length cp]) ?_ rfl ?_
       exact results_cell_row rfl _ _ (w.heap.size + 1) 48 #[.bool false, .bool kd, .string tg, .string ky, .slice A acc.length cp] (0, 0) _ rfl HP.out.last.hr Tryz.underlying48 rfl (by kernel_rfl)
       exact ⟨_, rfl, HP.out.last.ho, HP.out.last.hi, HP.out.last.hb, HP.out.last.hk⟩
     ·rw [if_pos rfl] at hc
      simp only [Option.some.injEq, Prod.mk.injEq] at hc
      obtain ⟨rfl, rfl, rfl⟩ := hc
      obtain ⟨ha0, ha1, ha2, ha3, ha4, ha5, ha6⟩ := HP.out.look
      obtain ⟨hk0, hk1, hk2, hk3, hk4, hk5, hk6, hk7, hk8, hk9⟩ := HP.out.back
      go_wp2_with fail
      refine bodyPost_ret (v := .agg #[.bool false, .bool kd, .string tg, .string ky, .slice A acc.length cp]) ?_ rfl ?_
      exact results_cell_row rfl _ _ (w.heap.size + 1) 48 #[.bool false, .bool kd, .string tg, .string ky, .slice A acc.length cp] (0, 0) _ rfl HP.out.last.hr Tryz.underlying48 rfl (by kernel_rfl)
      exact ⟨_, rfl, HP.out.last.ho, HP.out.last.hi, HP.out.last.hb, HP.out.last.hk⟩
mutual
def qbb.l0 : Nat → List (S48) → ByteArray → Bool → Option ((List (S48)) × Int)
 | 0, _, _, _ => none
 | k + 1, x5, x138000, x138001 => if x138001 = true then (qbb.j1 k x5 false x138000 x138001) else (qbb.j1 k x5 (decide ((x5.length : Int) ≤ 8)) x138000 x138001)
def qbb.j1 : Nat → List (S48) → Bool → ByteArray → Bool → Option ((List (S48)) × Int)
 | 0, _, _, _, _ => none
 | k + 1, x5, x23, x138000, x138001 => if x23 = true then ((qjb.f x138000 x138001 (⟨#[62]⟩ : ByteArray)).bind fun bt151 => (if bt151.1 = true then ((qac.f bt151.2.1 bt151.2.2).bind fun bt154 => (if x5.length < 2199023255552 then (qbb.l0 k (x5 ++ [(⟨bt151.1, bt154.2.1, bt154.2.2.1, bt154.2.2.2.1, bt154.2.2.2.2.1⟩ : S48)]) bt154.2.2.2.2.2.1 bt154.2.2.2.2.2.2) else (none))) else ((qjb.f bt151.2.1 bt151.2.2 (⟨#[32]⟩ : ByteArray)).bind fun bt167 => (if bt167.1 = true then ((qac.f bt167.2.1 bt167.2.2).bind fun bt170 => (if x5.length < 2199023255552 then (qbb.l0 k (x5 ++ [(⟨bt151.1, bt170.2.1, bt170.2.2.1, bt170.2.2.2.1, bt170.2.2.2.2.1⟩ : S48)]) bt170.2.2.2.2.2.1 bt170.2.2.2.2.2.2) else (none))) else (if bt167.2.2 = true then (some (([] : List (S48)), 2)) else (if bt167.2.1.toList = ([] : List UInt8) then ((qx.f k x5).bind fun t183 => (if t183 = 0 then (some (x5, 0)) else (some (([] : List (S48)), 2)))) else (some (([] : List (S48)), 2)))))))) else (if x138001 = true then (some (([] : List (S48)), 2)) else (if x138000.toList = ([] : List UInt8) then ((qx.f k x5).bind fun t150 => (if t150 = 0 then (some (x5, 0)) else (some (([] : List (S48)), 2)))) else (some (([] : List (S48)), 2))))
end
def qbb.f (k : Nat) (a0 : ByteArray) : Option ((List (S48)) × Int) := (qac.f a0 false).bind fun bt138 => (qbb.l0 k (([(⟨bt138.1, bt138.2.1, bt138.2.2.1, bt138.2.2.2.1, bt138.2.2.2.2.1⟩ : S48)] : List (S48))) bt138.2.2.2.2.2.1 bt138.2.2.2.2.2.2)
theorem qbb.mono_l : ∀ k, (∀ y0 y1 y2, LeO (qbb.l0 k y0 y1 y2) (qbb.l0 (k + 1) y0 y1 y2)) ∧ (∀ y0 y1 y2 y3, LeO (qbb.j1 k y0 y1 y2 y3) (qbb.j1 (k + 1) y0 y1 y2 y3))
 | 0 => ⟨fun _ _ _ r h => by simp [qbb.l0] at h, fun _ _ _ _ r h => by simp [qbb.j1] at h⟩
 | k + 1 => by
  obtain ⟨ih0, ih1⟩ := qbb.mono_l k
  refine ⟨?_, ?_⟩
  ·intro y0 y1 y2
   unfold qbb.l0
   repeat' first
   | (with_reducible exact ih0 _ _ _)
   | (with_reducible exact ih1 _ _ _ _)
   | (with_reducible exact qx.mono _ _)
   | (with_reducible exact LeO.refl _)
   | (with_reducible exact LeO.none _)
   | (with_reducible refine LeO.ite ?_ ?_)
   | (with_reducible refine LeO.bind ?_ (fun _ => ?_))
   | exact ih0 _ _ _
   | exact ih1 _ _ _ _
   | exact qx.mono _ _
   | exact LeO.none _
   | refine LeO.ite ?_ ?_
   | refine LeO.bind ?_ (fun _ => ?_)
  ·intro y0 y1 y2 y3
   unfold qbb.j1
   repeat' first
   | (with_reducible exact ih0 _ _ _)
   | (with_reducible exact ih1 _ _ _ _)
   | (with_reducible exact qx.mono _ _)
   | (with_reducible exact LeO.refl _)
   | (with_reducible exact LeO.none _)
   | (with_reducible refine LeO.ite ?_ ?_)
   | (with_reducible refine LeO.bind ?_ (fun _ => ?_))
   | exact ih0 _ _ _
   | exact ih1 _ _ _ _
   | exact qx.mono _ _
   | exact LeO.none _
   | refine LeO.ite ?_ ?_
   | refine LeO.bind ?_ (fun _ => ?_)
theorem qbb.mono : ∀ a0 k, LeO (qbb.f k a0) (qbb.f (k + 1) a0) := by
 intro a0 k
 obtain ⟨ih0, ih1⟩ := qbb.mono_l k
 unfold qbb.f
 repeat' first
   | (with_reducible exact ih0 _ _ _)
   | (with_reducible exact ih1 _ _ _ _)
   | (with_reducible exact qx.mono _ _)
   | (with_reducible exact LeO.refl _)
   | (with_reducible exact LeO.none _)
   | (with_reducible refine LeO.ite ?_ ?_)
   | (with_reducible refine LeO.bind ?_ (fun _ => ?_))
   | exact ih0 _ _ _
   | exact ih1 _ _ _ _
   | exact qx.mono _ _
   | exact LeO.none _
   | refine LeO.ite ?_ ?_
   | refine LeO.bind ?_ (fun _ => ?_)
set_option maxHeartbeats 8000000 in
set_option maxRecDepth 100000 in
theorem qbb.calls (k : Nat) (a0 : ByteArray) (r1 : List (S48)) (r2 : Int) (w : World) (hG : Glob w) (h : qbb.f k a0 = some (r1, r2)) :
  Calls Tryz.prog 11 #[.string a0] w fun e w' => ∃ v0_ : Value, e = .returned (.tuple #[v0_, .int .i64 r2]) ∧ Kd.N k48 48 w' w.heap.size (fun k_ => (w.heap.size ≤ k_)) v0_ r1 ∧ Below w.heap.size w w' := by
 have hu74 := Tryz.underlying74
 have hu48 := Tryz.underlying48
 have HG := qa.mk hG
 clear hG
 have HB := qa.mk (Below.refl w.heap.size w)
 have H : ((qac.f a0 false).bind fun bt138 => (qbb.l0 k (([(⟨bt138.1, bt138.2.1, bt138.2.2.1, bt138.2.2.2.1, bt138.2.2.2.2.1⟩ : S48)] : List (S48))) bt138.2.2.2.2.2.1 bt138.2.2.2.2.2.2)) = some (r1, r2) := h
 clear h
 replace H := Option.bind_eq_some_iff.mp H
 obtain ⟨⟨t138, t139, t140, t141, t142, t145, t146⟩, A20, H⟩ := H
 replace H : (qbb.l0 k (([(⟨t138, t139, t140, t141, t142⟩ : S48)] : List (S48))) t145 t146) = some (r1, r2) := H
 have A2 := qa.mk A20
 clear A20
 obtain ⟨y147, hy147⟩ : ∃ y_ : List (S48), y_ = (([(⟨t138, t139, t140, t141, t142⟩ : S48)] : List (S48))) := ⟨_, rfl⟩
 replace H : (qbb.l0 k y147 t145 t146) = some (r1, r2) := by first | (rw [hy147]; with_reducible exact H) | (have H2_ := (Option.bind_some _ _).symm.trans H; rw [hy147]; with_reducible exact H2_) | (have H2_ := (Option.bind_some _ _).symm.trans H; with_reducible exact H2_) | with_reducible exact H | (rw [hy147]; exact H) | exact H
 have Ny147 := qa.mk hy147
 clear hy147
 have H' := qa.mk H
 clear H
 go_enter Tryz.func11, Tryz.ntmps11
 go_wp2_with (first | ((with_reducible refine qfb (N := 10) rfl ?_); (try (refine qkc (by rfl) ?_; dsimp only)); refine qlb ?hg (N := 10) ?hd (cs := #[.string a0, .bool false]) (t := 74) ?hr ?_; (case hd => rfl); (case hg => rfl); (case hr => exact zz6); intro gb137 hg w3 hbox hb; have n0_ := qa.mk (qp zz52 hb); have n1_ := qa.mk ((show IsS74 w w3 gb137 a0 false from ⟨hbox, (by rw [hg]; exact (qo zz52))⟩)); clear HB; have HB := n0_; have HI137 := n1_; clear n0_ n1_; clear hb hbox hg) | ((with_reducible refine qy (f := 27) rfl ?_); refine qrb (some 12) rfl rfl Tryz.func27 (by kernel_rfl) rfl #[.pointer (some ⟨gb137, 0, none⟩)] rfl zz93 ?_; (with_reducible refine (qac.calls gb137 a0 false t138 t139 t140 t141 t142 t145 t146 w _ ?side1 ?side2 ?side3 A2.out).mono ?_); (case side1 => exact HG.out); (case side2 => exact zz128); (case side3 => exact zz92); rintro e w4 ⟨v143, rfl, ho0, hi, hb, hk⟩; refine ⟨_, rfl, ?_⟩; have n0_ := qa.mk (Kd.R_lower (Kd.R_newM (M := fun k_ => (w.heap.size ≤ k_)) ho0 (qo zz92) (fun k_ h_ => h_)) (qo zz92)); have n1_ := qa.mk (hb); have n2_ := qa.mk (hi); clear HB; clear HI137; have HO144 := n0_; have HB := n1_; have HI137 := n2_; clear n0_ n1_ n2_; (try clear hb); (try clear hb2); (try clear hk); (try clear hi); (try clear ho0); obtain ⟨Ao5, co5, eo5⟩ := Kd.R_slice HO144.out; subst eo5) | ((with_reducible refine qfb (N := 13) rfl ?_); (try (refine qkc (by rfl) ?_; dsimp only)); refine Kd.N_lit k48 _ 48 ?hg (N' := 13) ?hd (xs := ([(⟨t138, t139, t140, t141, t142⟩ : S48)] : List (S48))) (inner := [.bool t138, .bool t139, .string t140, .string t141, .slice Ao5 t142.length co5]) (ok := (fun k_ => (w.heap.size ≤ k_) ∧ k_ ≠ gb137)) (okp := (fun k_ => (w.heap.size ≤ k_) ∧ k_ ≠ gb137)) ?hr ?hp (fun _ hk => hk) ((show ∀ k_, w4.heap.size ≤ k_ → (fun k_ => (w.heap.size ≤ k_) ∧ k_ ≠ gb137) k_ from fun k_ hk => ⟨(Nat.le_trans (qo zz92) hk), IsS74.fresh zz128 k_ hk⟩) _ (Nat.le_refl _)) (Below.refl _ _) (Nat.le_refl _) (by simp) ?_; (case hd => rfl); (case hg => rfl); (case hr => exact zz6); (case hp => exact (Reps.c5 (show Kd.FK k48 _ _ (⟨t138, t139, t140, t141, t142⟩ : S48) [.bool t138, .bool t139, .string t140, .string t141, .slice Ao5 t142.length co5] from (k48_mkF _ _ (⟨t138, t139, t140, t141, t142⟩ : S48) (Kd.R_reads' (Kd.R_mono (ok' := (fun k_ => (w.heap.size ≤ k_) ∧ k_ ≠ gb137)) (IsS74.apart HI137.out (HO144.out) (by decide)) (fun k_ hk => ⟨hk.1.1, hk.2⟩))).2.1 (Kd.R_F (Kd.R_mono (ok' := (fun k_ => (w.heap.size ≤ k_) ∧ k_ ≠ gb137)) (IsS74.apart HI137.out (HO144.out) (by decide)) (fun k_ hk => ⟨hk.1.1, hk.2⟩))))) (Reps.none _ _))); intro v148 w6 ho7 hb hg_ hnew_; clear hg_ hnew_; (first | rw [← Ny147.out] at ho7 | (simp only [Int.reduceToNat] at ho7; rw [← Ny147.out] at ho7)); have n0_ := qa.mk (Kd.N_lower ho7 (qo zz92)); have n1_ := qa.mk (IsS74.below zz128 hb); have n2_ := qa.mk (qp zz92 hb); clear HI137; clear HB; clear HO144; have HO149 := n0_; have HI137 := n1_; have HB := n2_; clear n0_ n1_ n2_; clear hb ho7))
 go_loopg [5] k (fun kq v5 w' => ∃ (x5_1 : List (S48)) (x138000_1 : ByteArray) (x138001_1 : Bool), qa (qbb.l0 kq x5_1 x138000_1 x138001_1 = some (r1, r2)) ∧ qa (kq ≤ k) ∧ qa (Kd.N k48 48 w' w.heap.size (fun k_ => (w.heap.size ≤ k_) ∧ k_ ≠ gb137) v5 x5_1) ∧ qa (IsS74 w w' gb137 x138000_1 x138001_1) ∧ qa (Below w.heap.size w w'))
 case atStart => exact ⟨(y147), (t145), (t146), H', ⟨Nat.le_refl _⟩, ⟨by (with_reducible repeat (first | apply Kd.N_alloc | apply Kd.N_drewN | apply Kd.N_drew)); exact HO149.out⟩, ⟨zz128⟩, ⟨zz92⟩⟩
 case round =>
  clear H'
  try clear c1
  try clear c2
  try clear p2
  try clear c5
  obtain ⟨x5_1, x138000_1, x138001_1, HA, HK1, HO_5, HI137, HB⟩ := hrel
  cases gk with
  | zero => exact absurd HA.out (by simp [qbb.l0])
  | succ k1 =>
   have H := HA.out
   clear HA
   simp only [qbb.l0] at H
   have HC8 := qa.mk H
   clear H
   go_upto_region 3 with (fail)
   go_cut [23] (fun v23 wc => ∃ (kq : Nat) (x23_7 : Bool), v23 = .bool x23_7 ∧ qa (qbb.j1 kq x5_1 x23_7 x138000_1 x138001_1 = some (r1, r2)) ∧ qa (kq ≤ k1) ∧ qa (Kd.N k48 48 wc w.heap.size (fun k_ => (w.heap.size ≤ k_) ∧ k_ ≠ gb137) u5 x5_1) ∧ qa (IsS74 w wc gb137 x138000_1 x138001_1) ∧ qa (Below w.heap.size w wc))
   case first =>
    have H := HC8.out
    clear HC8
    by_cases c9 : x138001_1 = true
    ·subst c9
     have H1 : (qbb.j1 k1 x5_1 false x138000_1 true) = some (r1, r2) := by rw [if_pos rfl] at H; exact H
     clear H
     have H := H1
     clear H1
     have H' := qa.mk H
     clear H
     obtain ⟨HGz10, hgz10⟩ := HI137.out
     have hcz10_0 := cellS74_0 HGz10
     have hcz10_1 := cellS74_1 HGz10
     have hfz10_0 := qf HGz10 0
     have hfz10_1 := qf HGz10 1
     clear HGz10 hgz10
     go_wp2
     go_meet
     case rel => exact ⟨_, (false), zz7, H', ⟨zz13⟩, ⟨zz54⟩, ⟨zz128⟩, ⟨zz92⟩⟩
    ·replace c9 := Bool.eq_false_iff.mpr c9
     subst c9
     have H1 : (qbb.j1 k1 x5_1 (decide ((x5_1.length : Int) ≤ 8)) x138000_1 false) = some (r1, r2) := by rw [if_neg (show ¬ (false = true) by decide)] at H; exact H
     clear H
     have H := H1
     clear H1
     have H' := qa.mk H
     clear H
     obtain ⟨HGz11, hgz11⟩ := HI137.out
     have hcz11_0 := cellS74_0 HGz11
     have hcz11_1 := cellS74_1 HGz11
     have hfz11_0 := qf HGz11 0
     have hfz11_1 := qf HGz11 1
     clear HGz11 hgz11
     obtain ⟨Ao12, co12, eo12⟩ := Kd.N_slice HO_5.out
     subst eo12
     go_wp2
     go_meet
     case rel => exact ⟨_, (decide ((x5_1.length : Int) ≤ 8)), zz7, H', ⟨zz13⟩, ⟨zz54⟩, ⟨zz128⟩, ⟨zz92⟩⟩
   case rest =>
    clear HC8
    try clear c1
    try clear c2
    try clear p2
    try clear c5
    try clear c9
    try clear c11
    try clear hcz10_0
    try clear hcz10_1
    try clear hcz11_0
    try clear hcz11_1
    try clear hfz10_0
    try clear hfz10_1
    try clear hfz11_0
    try clear hfz11_1
    try clear p2
    obtain ⟨kq, x23_7, rfl, HA, HJ7, HO_5, HI137, HB⟩ := hcut
    cases kq with
    | zero => exact absurd HA.out (by simp [qbb.j1])
    | succ kj7 =>
     have H := HA.out
     clear HA
     simp only [qbb.j1] at H
     by_cases c13 : x23_7 = true
     ·subst c13
      have H1 : ((qjb.f x138000_1 x138001_1 (⟨#[62]⟩ : ByteArray)).bind fun bt151 => (if bt151.1 = true then ((qac.f bt151.2.1 bt151.2.2).bind fun bt154 => (if x5_1.length < 2199023255552 then (qbb.l0 kj7 (x5_1 ++ [(⟨bt151.1, bt154.2.1, bt154.2.2.1, bt154.2.2.2.1, bt154.2.2.2.2.1⟩ : S48)]) bt154.2.2.2.2.2.1 bt154.2.2.2.2.2.2) else (none))) else ((qjb.f bt151.2.1 bt151.2.2 (⟨#[32]⟩ : ByteArray)).bind fun bt167 => (if bt167.1 = true then ((qac.f bt167.2.1 bt167.2.2).bind fun bt170 => (if x5_1.length < 2199023255552 then (qbb.l0 kj7 (x5_1 ++ [(⟨bt151.1, bt170.2.1, bt170.2.2.1, bt170.2.2.2.1, bt170.2.2.2.2.1⟩ : S48)]) bt170.2.2.2.2.2.1 bt170.2.2.2.2.2.2) else (none))) else (if bt167.2.2 = true then (some (([] : List (S48)), 2)) else (if bt167.2.1.toList = ([] : List UInt8) then ((qx.f kj7 x5_1).bind fun t183 => (if t183 = 0 then (some (x5_1, 0)) else (some (([] : List (S48)), 2)))) else (some (([] : List (S48)), 2)))))))) = some (r1, r2) := by rw [if_pos rfl] at H; exact H
      clear H
      have H := H1
      clear H1
      replace H := Option.bind_eq_some_iff.mp H
      obtain ⟨⟨t151, t152, t153⟩, A140, H⟩ := H
      replace H : (if t151 = true then ((qac.f t152 t153).bind fun bt154 => (if x5_1.length < 2199023255552 then (qbb.l0 kj7 (x5_1 ++ [(⟨t151, bt154.2.1, bt154.2.2.1, bt154.2.2.2.1, bt154.2.2.2.2.1⟩ : S48)]) bt154.2.2.2.2.2.1 bt154.2.2.2.2.2.2) else (none))) else ((qjb.f t152 t153 (⟨#[32]⟩ : ByteArray)).bind fun bt167 => (if bt167.1 = true then ((qac.f bt167.2.1 bt167.2.2).bind fun bt170 => (if x5_1.length < 2199023255552 then (qbb.l0 kj7 (x5_1 ++ [(⟨t151, bt170.2.1, bt170.2.2.1, bt170.2.2.2.1, bt170.2.2.2.2.1⟩ : S48)]) bt170.2.2.2.2.2.1 bt170.2.2.2.2.2.2) else (none))) else (if bt167.2.2 = true then (some (([] : List (S48)), 2)) else (if bt167.2.1.toList = ([] : List UInt8) then ((qx.f kj7 x5_1).bind fun t183 => (if t183 = 0 then (some (x5_1, 0)) else (some (([] : List (S48)), 2)))) else (some (([] : List (S48)), 2))))))) = some (r1, r2) := H
      have A14 := qa.mk A140
      clear A140
      by_cases c15 : t151 = true
      ·subst c15
       have H1 : ((qac.f t152 t153).bind fun bt154 => (if x5_1.length < 2199023255552 then (qbb.l0 kj7 (x5_1 ++ [(⟨true, bt154.2.1, bt154.2.2.1, bt154.2.2.2.1, bt154.2.2.2.2.1⟩ : S48)]) bt154.2.2.2.2.2.1 bt154.2.2.2.2.2.2) else (none))) = some (r1, r2) := by rw [if_pos rfl] at H; exact H
       clear H
       have H := H1
       clear H1
       replace H := Option.bind_eq_some_iff.mp H
       obtain ⟨⟨t154, t155, t156, t157, t158, t161, t162⟩, A160, H⟩ := H
       replace H : (if x5_1.length < 2199023255552 then (qbb.l0 kj7 (x5_1 ++ [(⟨true, t155, t156, t157, t158⟩ : S48)]) t161 t162) else (none)) = some (r1, r2) := H
       have A16 := qa.mk A160
       clear A160
       by_cases c17 : x5_1.length < 2199023255552
       ·rw [if_pos c17] at H
        have LMc17 := qa.mk c17
        clear c17
        obtain ⟨y164, hy164⟩ : ∃ y_ : List (S48), y_ = (x5_1 ++ [(⟨true, t155, t156, t157, t158⟩ : S48)]) := ⟨_, rfl⟩
        replace H : (qbb.l0 kj7 y164 t161 t162) = some (r1, r2) := by first | (rw [hy164]; with_reducible exact H) | (have H2_ := (Option.bind_some _ _).symm.trans H; rw [hy164]; with_reducible exact H2_) | (have H2_ := (Option.bind_some _ _).symm.trans H; with_reducible exact H2_) | with_reducible exact H | (rw [hy164]; exact H) | exact H
        have Ny164 := qa.mk hy164
        clear hy164
        have H' := qa.mk H
        clear H
        go_wp2_with (first | ((with_reducible refine qy (f := 28) rfl ?_); refine qrb (some 25) rfl rfl Tryz.func28 (by kernel_rfl) rfl #[.pointer (some ⟨gb137, 0, none⟩), .string (⟨#[62]⟩ : ByteArray)] rfl zz93 ?_; (with_reducible refine (qjb.calls gb137 x138000_1 x138001_1 (⟨#[62]⟩ : ByteArray) true t152 t153 w _ ?side1 ?side2 A14.out).mono ?_); (case side1 => exact zz128); (case side2 => exact zz92); rintro e w18 ⟨rfl, hi, hb, hk⟩; refine ⟨_, rfl, ?_⟩; have n0_ := qa.mk (Kd.N_mono (Kd.N_keep (Kd.N_mono (ok := fun k_ => (((w.heap.size ≤ k_)) ∧ k_ ≠ gb137)) zz54 (fun k_ hk_ => (⟨hk_, hk_.2⟩ : _ ∧ k_ ≠ gb137))) hk (fun _ h => h.2)) (fun _ h => h.1)); have n1_ := qa.mk (hb); have n2_ := qa.mk (hi); clear HO_5; clear HB; clear HI137; have HO_5 := n0_; have HB := n1_; have HI137 := n2_; clear n0_ n1_ n2_; (try clear hb); (try clear hb2); (try clear hk); (try clear hi)) | ((with_reducible refine qy (f := 27) rfl ?_); refine qrb (some 34) rfl rfl Tryz.func27 (by kernel_rfl) rfl #[.pointer (some ⟨gb137, 0, none⟩)] rfl zz93 ?_; (with_reducible refine (qac.calls gb137 t152 t153 t154 t155 t156 t157 t158 t161 t162 w _ ?side1 ?side2 ?side3 A16.out).mono ?_); (case side1 => exact HG.out); (case side2 => exact zz128); (case side3 => exact zz92); rintro e w19 ⟨v159, rfl, ho0, hi, hb, hk⟩; refine ⟨_, rfl, ?_⟩; have n0_ := qa.mk (Kd.N_mono (Kd.N_told (Kd.N_oldK (Kd.N_mono (ok := fun k_ => (((w.heap.size ≤ k_)) ∧ k_ ≠ gb137)) zz54 (fun k_ hk_ => (⟨hk_, hk_.2⟩ : _ ∧ k_ ≠ gb137))) hk) (Kd.R_base ho0)) (fun _ h_ => h_.1)); have n1_ := qa.mk (Kd.R_lower (Kd.R_newM (M := fun k_ => (w.heap.size ≤ k_)) ho0 (qo zz92) (fun k_ h_ => h_)) (qo zz92)); have n2_ := qa.mk (hb); have n3_ := qa.mk (hi); clear HO_5; clear HB; clear HI137; have HO_5 := n0_; have HO160 := n1_; have HB := n2_; have HI137 := n3_; clear n0_ n1_ n2_ n3_; (try clear hb); (try clear hb2); (try clear hk); (try clear hi); (try clear ho0)) | ((with_reducible refine qfb (N := 7) rfl ?_); (try (refine qkc (by rfl) ?_; dsimp only)); refine qlb ?hg (N := 7) ?hd (cs := #[.bool false, .bool false, .string (⟨#[]⟩ : ByteArray), .string (⟨#[]⟩ : ByteArray), .slice none 0 0]) (t := 48) ?hr ?_; (case hd => rfl); (case hg => rfl); (case hr => exact zz6); intro gb163 hg w20 hbox hb; have n0_ := qa.mk (Kd.N_below (Kd.N_elderB zz54 gb163 (Nat.le_of_eq hg.symm)) hb); have n1_ := qa.mk (Kd.R_below (by (with_reducible repeat (first | apply Kd.R_alloc | apply Kd.R_drewN | apply Kd.R_drew)); exact HO160.out) hb); have n2_ := qa.mk (IsS74.below zz128 hb); have n3_ := qa.mk (qp zz92 hb); have n4_ := qa.mk (hbox); have n5_ := qa.mk ((by rw [hg]; exact (qo zz92) : w.heap.size ≤ gb163)); have n6_ := qa.mk ((by rw [hg]; exact (qo zz92) : w.heap.size ≤ gb163)); have n7_ := qa.mk ((by rw [hg]; exact qyc (IsS74.lt (show IsS74 w _ gb137 t161 t162 from by repeat (first | (with_reducible first | exact HI137.out | apply IsS74.alloc | apply IsS74.drewN | apply IsS74.drew | apply IsS74.set_0 | apply IsS74.set_1) | exact HI137.out))) : gb137 ≠ gb163)); have n8_ := qa.mk ((by rw [hg]; exact Nat.ne_of_gt (IsS74.lt (show IsS74 w _ gb137 t161 t162 from by repeat (first | (with_reducible first | exact HI137.out | apply IsS74.alloc | apply IsS74.drewN | apply IsS74.drew | apply IsS74.set_0 | apply IsS74.set_1) | exact HI137.out))) : gb163 ≠ gb137)); clear HO_5; clear HO160; clear HI137; clear HB; have HO_5 := n0_; have HO160 := n1_; have HI137 := n2_; have HB := n3_; have BK163 := n4_; have GW163 := n5_; have GE163 := n6_; have NB137_163 := n7_; have NB163_137 := n8_; clear n0_ n1_ n2_ n3_ n4_ n5_ n6_ n7_ n8_; clear hb hbox hg; have hnb21 := NB163_137.out; have hnc21 := NB137_163.out; have hcz22_0 : w20.cell? ⟨gb163, 0, none⟩ = some (.bool false) := (qh BK163.out 0).trans rfl; have hcz22_1 : w20.cell? ⟨gb163, 1, none⟩ = some (.bool false) := (qh BK163.out 1).trans rfl; have hcz22_2 : w20.cell? ⟨gb163, 2, none⟩ = some (.string (⟨#[]⟩ : ByteArray)) := (qh BK163.out 2).trans rfl; have hcz22_3 : w20.cell? ⟨gb163, 3, none⟩ = some (.string (⟨#[]⟩ : ByteArray)) := (qh BK163.out 3).trans rfl; have hcz22_4 : w20.cell? ⟨gb163, 4, none⟩ = some (.slice none 0 0) := (qh BK163.out 4).trans rfl; have hfz22_0 := qf BK163.out 0; have hfz22_1 := qf BK163.out 1; have hfz22_2 := qf BK163.out 2; have hfz22_3 := qf BK163.out 3; have hfz22_4 := qf BK163.out 4; obtain ⟨Ao23, co23, eo23⟩ := Kd.R_slice HO160.out; subst eo23) | ((with_reducible refine gate_store (t := 48) (p := 7) rfl ?_); refine store_event (t := 48) (p := 7) (v := ?vo_w24) (w1 := (((((w20.setCell ⟨gb163, 0, none⟩ (.bool t154)).setCell ⟨gb163, 1, none⟩ (.bool t155)).setCell ⟨gb163, 2, none⟩ (.string t156)).setCell ⟨gb163, 3, none⟩ (.string t157)).setCell ⟨gb163, 4, none⟩ (.slice Ao23 t158.length co23))) ?hg ?ho ?hn ?hr ?_; (case ho => rfl); (case hg => rfl); (case hn => rfl); (case hr => exact zz6); intro w24 hw; have n0_ : qa (Kd.N k48 48 w24 w.heap.size (fun k_ => (w.heap.size ≤ k_) ∧ some k_ ≠ (.slice Ao23 t158.length co23 : Value).ownBlock ∧ k_ ≠ gb137 ∧ k_ ≠ gb163) u5 x5_1) := ⟨(by rw [hw]; exact (by (with_reducible repeat (first | apply Kd.N_alloc | apply Kd.N_drewN | apply Kd.N_drew)); exact Kd.N_mono (Kd.N_far (p := ⟨gb163, 4, none⟩) (Kd.N_far (p := ⟨gb163, 3, none⟩) (Kd.N_far (p := ⟨gb163, 2, none⟩) (Kd.N_far (p := ⟨gb163, 1, none⟩) (Kd.N_far (p := ⟨gb163, 0, none⟩) (Kd.N_mono HO_5.out (fun k_ hk => (⟨hk, hk.2⟩ : _ ∧ k_ ≠ gb163))) (fun _ hk => hk.2) (.bool t154)) (fun _ hk => hk.2) (.bool t155)) (fun _ hk => hk.2) (.string t156)) (fun _ hk => hk.2) (.string t157)) (fun _ hk => hk.2) (.slice Ao23 t158.length co23)) (fun _ hk => ⟨hk.1.1.1.1, ⟨hk.1.1.2, ⟨hk.1.1.1.2, hk.1.2⟩⟩⟩)))⟩; have n1_ : qa (Kd.R k50 50 w24 w.heap.size (fun k_ => (w.heap.size ≤ k_)) (.slice Ao23 t158.length co23) t158) := ⟨(by rw [hw]; exact (by (with_reducible repeat (first | apply Kd.R_alloc | apply Kd.R_drewN | apply Kd.R_drew)); exact Kd.R_mono (Kd.R_far (p := ⟨gb163, 4, none⟩) (Kd.R_far (p := ⟨gb163, 3, none⟩) (Kd.R_far (p := ⟨gb163, 2, none⟩) (Kd.R_far (p := ⟨gb163, 1, none⟩) (Kd.R_far (p := ⟨gb163, 0, none⟩) (Kd.R_types HO160.out BK163.out (by decide)) (fun _ hk => hk.2) (.bool t154)) (fun _ hk => hk.2) (.bool t155)) (fun _ hk => hk.2) (.string t156)) (fun _ hk => hk.2) (.string t157)) (fun _ hk => hk.2) (.slice Ao23 t158.length co23)) (fun _ hk => hk.1.1)))⟩; have n2_ : qa (w24.heap[gb163]? = some (.cells #[.bool t154, .bool t155, .string t156, .string t157, .slice Ao23 t158.length co23] 48 (0, 0))) := ⟨(by rw [hw]; exact (by (with_reducible repeat (first | refine qk ?_ _ | refine ql ?_ | refine qj ?_ _)); refine qr (cs := #[.bool t154, .bool t155, .string t156, .string t157, .slice none 0 0]) ?_ 4 _ rfl; (with_reducible repeat (first | refine qk ?_ _ | refine ql ?_ | refine qj ?_ _)); refine qr (cs := #[.bool t154, .bool t155, .string t156, .string (⟨#[]⟩ : ByteArray), .slice none 0 0]) ?_ 3 _ rfl; (with_reducible repeat (first | refine qk ?_ _ | refine ql ?_ | refine qj ?_ _)); refine qr (cs := #[.bool t154, .bool t155, .string (⟨#[]⟩ : ByteArray), .string (⟨#[]⟩ : ByteArray), .slice none 0 0]) ?_ 2 _ rfl; (with_reducible repeat (first | refine qk ?_ _ | refine ql ?_ | refine qj ?_ _)); refine qr (cs := #[.bool t154, .bool false, .string (⟨#[]⟩ : ByteArray), .string (⟨#[]⟩ : ByteArray), .slice none 0 0]) ?_ 1 _ rfl; (with_reducible repeat (first | refine qk ?_ _ | refine ql ?_ | refine qj ?_ _)); refine qr (cs := #[.bool false, .bool false, .string (⟨#[]⟩ : ByteArray), .string (⟨#[]⟩ : ByteArray), .slice none 0 0]) ?_ 0 _ rfl; (with_reducible repeat (first | refine qk ?_ _ | refine ql ?_ | refine qj ?_ _)); exact BK163.out))⟩; have n3_ : qa (IsS74 w w24 gb137 t161 t162) := ⟨(by rw [hw]; exact zz140)⟩; have n4_ : qa (Below w.heap.size w w24) := ⟨(by rw [hw]; exact zz114)⟩; clear hw; clear HO_5; clear HO160; clear BK163; clear HI137; clear HB; have HO_5 := n0_; have HO160 := n1_; have BK163 := n2_; have HI137 := n3_; have HB := n4_; clear n0_ n1_ n2_ n3_ n4_; have hcz25_0 : w24.cell? ⟨gb163, 0, none⟩ = some (.bool t154) := (qh BK163.out 0).trans rfl; have hcz25_1 : w24.cell? ⟨gb163, 1, none⟩ = some (.bool t155) := (qh BK163.out 1).trans rfl; have hcz25_2 : w24.cell? ⟨gb163, 2, none⟩ = some (.string t156) := (qh BK163.out 2).trans rfl; have hcz25_3 : w24.cell? ⟨gb163, 3, none⟩ = some (.string t157) := (qh BK163.out 3).trans rfl; have hcz25_4 : w24.cell? ⟨gb163, 4, none⟩ = some (.slice Ao23 t158.length co23) := (qh BK163.out 4).trans rfl; have hfz25_0 := qf BK163.out 0; have hfz25_1 := qf BK163.out 1; have hfz25_2 := qf BK163.out 2; have hfz25_3 := qf BK163.out 3; have hfz25_4 := qf BK163.out 4) | ((with_reducible refine gate_store (t := 4) (p := 36) rfl ?_); refine store_event (t := 4) (p := 36) (v := ?vo_w26) (w1 := (w24.setCell ⟨gb163, 0, none⟩ (.bool true))) ?hg ?ho ?hn ?hr ?_; (case ho => rfl); (case hg => rfl); (case hn => rfl); (case hr => exact zz6); intro w26 hw; have n0_ : qa (Kd.N k48 48 w26 w.heap.size (fun k_ => (w.heap.size ≤ k_) ∧ some k_ ≠ (.slice Ao23 t158.length co23 : Value).ownBlock ∧ k_ ≠ gb137 ∧ k_ ≠ gb163) u5 x5_1) := ⟨(by rw [hw]; exact (by (with_reducible repeat (first | apply Kd.N_alloc | apply Kd.N_drewN | apply Kd.N_drew)); exact Kd.N_mono (Kd.N_far (p := ⟨gb163, 0, none⟩) (Kd.N_mono HO_5.out (fun k_ hk => (⟨hk, hk.2.2.2⟩ : _ ∧ k_ ≠ gb163))) (fun _ hk => hk.2) (.bool true)) (fun _ hk => ⟨hk.1.1, ⟨hk.1.2.1, ⟨hk.1.2.2.1, hk.1.2.2.2⟩⟩⟩)))⟩; have n1_ : qa (Kd.R k50 50 w26 w.heap.size (fun k_ => (w.heap.size ≤ k_)) (.slice Ao23 t158.length co23) t158) := ⟨(by rw [hw]; exact (by (with_reducible repeat (first | apply Kd.R_alloc | apply Kd.R_drewN | apply Kd.R_drew)); exact Kd.R_mono (Kd.R_far (p := ⟨gb163, 0, none⟩) (Kd.R_types HO160.out BK163.out (by decide)) (fun _ hk => hk.2) (.bool true)) (fun _ hk => hk.1)))⟩; have n2_ : qa (w26.heap[gb163]? = some (.cells #[.bool true, .bool t155, .string t156, .string t157, .slice Ao23 t158.length co23] 48 (0, 0))) := ⟨(by rw [hw]; exact (by (with_reducible repeat (first | refine qk ?_ _ | refine ql ?_ | refine qj ?_ _)); refine qr (cs := #[.bool t154, .bool t155, .string t156, .string t157, .slice Ao23 t158.length co23]) ?_ 0 _ rfl; (with_reducible repeat (first | refine qk ?_ _ | refine ql ?_ | refine qj ?_ _)); exact BK163.out))⟩; have n3_ : qa (IsS74 w w26 gb137 t161 t162) := ⟨(by rw [hw]; exact zz140)⟩; have n4_ : qa (Below w.heap.size w w26) := ⟨(by rw [hw]; exact zz114)⟩; clear hw; clear HO_5; clear HO160; clear BK163; clear HI137; clear HB; have HO_5 := n0_; have HO160 := n1_; have BK163 := n2_; have HI137 := n3_; have HB := n4_; clear n0_ n1_ n2_ n3_ n4_; have hcz27_0 : w26.cell? ⟨gb163, 0, none⟩ = some (.bool true) := (qh BK163.out 0).trans rfl; have hcz27_1 : w26.cell? ⟨gb163, 1, none⟩ = some (.bool t155) := (qh BK163.out 1).trans rfl; have hcz27_2 : w26.cell? ⟨gb163, 2, none⟩ = some (.string t156) := (qh BK163.out 2).trans rfl; have hcz27_3 : w26.cell? ⟨gb163, 3, none⟩ = some (.string t157) := (qh BK163.out 3).trans rfl; have hcz27_4 : w26.cell? ⟨gb163, 4, none⟩ = some (.slice Ao23 t158.length co23) := (qh BK163.out 4).trans rfl; have hfz27_0 := qf BK163.out 0; have hfz27_1 := qf BK163.out 1; have hfz27_2 := qf BK163.out 2; have hfz27_3 := qf BK163.out 3; have hfz27_4 := qf BK163.out 4) | ((with_reducible refine gate_builtin (b := .append) (xs := #[.tmp 37, .tmp 39]) rfl ?_); (try (refine qkc (by rfl) ?_; dsimp only)); at_builtin; refine Kd.N_append k48 (w0 := w) w.heap.size rfl (.tmp 37) (.tmp 39) 22 48 (.agg #[(.bool false), (.bool false), (.string ⟨#[]⟩), (.string ⟨#[]⟩), (.slice none 0 0)]) 64 rfl Tryz.underlying22 info48 rfl (by decide) (by omega) u5 x5_1 (⟨true, t155, t156, t157, t158⟩ : S48) [.bool true, .bool t155, .string t156, .string t157, .slice Ao23 t158.length co23] (fun k_ => (w.heap.size ≤ k_) ∧ k_ ≠ gb163 ∧ k_ ≠ gb137) (fun k_ => ((fun k_ => (w.heap.size ≤ k_) ∧ k_ ≠ gb163 ∧ k_ ≠ gb137)) k_ ∧ some k_ ≠ (u5 : Value).ownBlock) rfl rfl ?aP (fun _ hk => hk) ?aF ?aO ?aB ?aS ?aL ?_; (case aP => exact (k48_mkF _ _ (⟨true, t155, t156, t157, t158⟩ : S48) (Kd.R_reads' (Kd.R_mono (ok' := (fun k_ => ((fun k_ => (w.heap.size ≤ k_) ∧ k_ ≠ gb163 ∧ k_ ≠ gb137)) k_ ∧ some k_ ≠ (u5 : Value).ownBlock)) (IsS74.apart HI137.out (Kd.R_types (Kd.R_apart' (HO160.out) (Kd.N_typed HO_5.out) (by decide)) BK163.out (by decide)) (by decide)) (fun k_ hk => ⟨⟨hk.1.1.1, ⟨hk.1.2, hk.2⟩⟩, hk.1.1.2⟩))).2.1 (Kd.R_F (Kd.R_mono (ok' := (fun k_ => ((fun k_ => (w.heap.size ≤ k_) ∧ k_ ≠ gb163 ∧ k_ ≠ gb137)) k_ ∧ some k_ ≠ (u5 : Value).ownBlock)) (IsS74.apart HI137.out (Kd.R_types (Kd.R_apart' (HO160.out) (Kd.N_typed HO_5.out) (by decide)) BK163.out (by decide)) (by decide)) (fun k_ hk => ⟨⟨hk.1.1.1, ⟨hk.1.2, hk.2⟩⟩, hk.1.1.2⟩))))); (case aB => exact zz114); (case aF => exact (fun k_ hk => ⟨(Nat.le_trans (qo zz114) hk), Kd.freshB (g := gb163) (o := .cells #[.bool true, .bool t155, .string t156, .string t157, .slice Ao23 t158.length co23] 48 (0, 0)) (by (with_reducible repeat (first | refine qk ?_ _ | refine ql ?_ | refine qj ?_ _)); exact BK163.out) k_ hk, IsS74.fresh zz140 k_ hk⟩)); (case aO => exact zz112); (case aS => exact (qo zz114)); (case aL => have := LMc17.out; omega); intro v165 w28 ho hb hg hat; rw [← Ny164.out] at ho; have n0_ := qa.mk (IsS74.grown zz140 hg (IsS74.own_neN HI137.out HO_5.out (by decide))); have n1_ := qa.mk (blk_grown (g := gb163) (o := .cells #[.bool true, .bool t155, .string t156, .string t157, .slice Ao23 t158.length co23] 48 (0, 0)) (by (with_reducible repeat (first | refine qk ?_ _ | refine ql ?_ | refine qj ?_ _)); exact BK163.out) hg (Kd.N_away HO_5.out (fun _ hk => hk.2.2.2))); have n2_ := qa.mk (hb); have n3_ := qa.mk (ho); clear HI137; clear BK163; clear HB; clear HO_5; clear HO160; have HI137 := n0_; have BK163 := n1_; have HB := n2_; have HO166 := n3_; clear n0_ n1_ n2_ n3_; clear ho hb hg hat))
        go_roundg kj7
        case measure => have := HK1.out; have := HJ7.out; omega
        case rel => exact ⟨(y164), (t161), (t162), H', ⟨by have := HK1.out; have := HJ7.out; omega⟩, ⟨by (with_reducible repeat (first | apply Kd.N_alloc | apply Kd.N_drewN | apply Kd.N_drew)); exact Kd.N_mono HO166.out (fun _ hk => ⟨hk.1, hk.2.2⟩)⟩, ⟨zz140⟩, ⟨zz114⟩⟩
       ·rw [if_neg c17] at H
        exact absurd H (by simp)
      ·replace c15 := Bool.eq_false_iff.mpr c15
       subst c15
       have H1 : ((qjb.f t152 t153 (⟨#[32]⟩ : ByteArray)).bind fun bt167 => (if bt167.1 = true then ((qac.f bt167.2.1 bt167.2.2).bind fun bt170 => (if x5_1.length < 2199023255552 then (qbb.l0 kj7 (x5_1 ++ [(⟨false, bt170.2.1, bt170.2.2.1, bt170.2.2.2.1, bt170.2.2.2.2.1⟩ : S48)]) bt170.2.2.2.2.2.1 bt170.2.2.2.2.2.2) else (none))) else (if bt167.2.2 = true then (some (([] : List (S48)), 2)) else (if bt167.2.1.toList = ([] : List UInt8) then ((qx.f kj7 x5_1).bind fun t183 => (if t183 = 0 then (some (x5_1, 0)) else (some (([] : List (S48)), 2)))) else (some (([] : List (S48)), 2)))))) = some (r1, r2) := by rw [if_neg (show ¬ (false = true) by decide)] at H; exact H
       clear H
       have H := H1
       clear H1
       replace H := Option.bind_eq_some_iff.mp H
       obtain ⟨⟨t167, t168, t169⟩, A290, H⟩ := H
       replace H : (if t167 = true then ((qac.f t168 t169).bind fun bt170 => (if x5_1.length < 2199023255552 then (qbb.l0 kj7 (x5_1 ++ [(⟨false, bt170.2.1, bt170.2.2.1, bt170.2.2.2.1, bt170.2.2.2.2.1⟩ : S48)]) bt170.2.2.2.2.2.1 bt170.2.2.2.2.2.2) else (none))) else (if t169 = true then (some (([] : List (S48)), 2)) else (if t168.toList = ([] : List UInt8) then ((qx.f kj7 x5_1).bind fun t183 => (if t183 = 0 then (some (x5_1, 0)) else (some (([] : List (S48)), 2)))) else (some (([] : List (S48)), 2))))) = some (r1, r2) := H
       have A29 := qa.mk A290
       clear A290
       by_cases c30 : t167 = true
       ·subst c30
        have H1 : ((qac.f t168 t169).bind fun bt170 => (if x5_1.length < 2199023255552 then (qbb.l0 kj7 (x5_1 ++ [(⟨false, bt170.2.1, bt170.2.2.1, bt170.2.2.2.1, bt170.2.2.2.2.1⟩ : S48)]) bt170.2.2.2.2.2.1 bt170.2.2.2.2.2.2) else (none))) = some (r1, r2) := by rw [if_pos rfl] at H; exact H
        clear H
        have H := H1
        clear H1
        replace H := Option.bind_eq_some_iff.mp H
        obtain ⟨⟨t170, t171, t172, t173, t174, t177, t178⟩, A310, H⟩ := H
        replace H : (if x5_1.length < 2199023255552 then (qbb.l0 kj7 (x5_1 ++ [(⟨false, t171, t172, t173, t174⟩ : S48)]) t177 t178) else (none)) = some (r1, r2) := H
        have A31 := qa.mk A310
        clear A310
        by_cases c32 : x5_1.length < 2199023255552
        ·rw [if_pos c32] at H
         have LMc32 := qa.mk c32
         clear c32
         obtain ⟨y180, hy180⟩ : ∃ y_ : List (S48), y_ = (x5_1 ++ [(⟨false, t171, t172, t173, t174⟩ : S48)]) := ⟨_, rfl⟩
         replace H : (qbb.l0 kj7 y180 t177 t178) = some (r1, r2) := by first | (rw [hy180]; with_reducible exact H) | (have H2_ := (Option.bind_some _ _).symm.trans H; rw [hy180]; with_reducible exact H2_) | (have H2_ := (Option.bind_some _ _).symm.trans H; with_reducible exact H2_) | with_reducible exact H | (rw [hy180]; exact H) | exact H
         have Ny180 := qa.mk hy180
         clear hy180
         have H' := qa.mk H
         clear H
         go_wp2_with (first | ((with_reducible refine qy (f := 28) rfl ?_); refine qrb (some 25) rfl rfl Tryz.func28 (by kernel_rfl) rfl #[.pointer (some ⟨gb137, 0, none⟩), .string (⟨#[62]⟩ : ByteArray)] rfl zz93 ?_; (with_reducible refine (qjb.calls gb137 x138000_1 x138001_1 (⟨#[62]⟩ : ByteArray) false t152 t153 w _ ?side1 ?side2 A14.out).mono ?_); (case side1 => exact zz128); (case side2 => exact zz92); rintro e w33 ⟨rfl, hi, hb, hk⟩; refine ⟨_, rfl, ?_⟩; have n0_ := qa.mk (Kd.N_mono (Kd.N_keep (Kd.N_mono (ok := fun k_ => (((w.heap.size ≤ k_)) ∧ k_ ≠ gb137)) zz54 (fun k_ hk_ => (⟨hk_, hk_.2⟩ : _ ∧ k_ ≠ gb137))) hk (fun _ h => h.2)) (fun _ h => h.1)); have n1_ := qa.mk (hb); have n2_ := qa.mk (hi); clear HO_5; clear HB; clear HI137; have HO_5 := n0_; have HB := n1_; have HI137 := n2_; clear n0_ n1_ n2_; (try clear hb); (try clear hb2); (try clear hk); (try clear hi)) | (go_at_call 28; (with_reducible refine (qjb.calls gb137 t152 t153 (⟨#[32]⟩ : ByteArray) true t168 t169 w _ ?side1 ?side2 A29.out).mono ?_); (case side1 => exact zz128); (case side2 => exact zz92); rintro e w34 ⟨rfl, hi, hb, hk⟩; have n0_ := qa.mk (Kd.N_mono (Kd.N_keep (Kd.N_mono (ok := fun k_ => (((w.heap.size ≤ k_)) ∧ k_ ≠ gb137)) zz54 (fun k_ hk_ => (⟨hk_, hk_.2⟩ : _ ∧ k_ ≠ gb137))) hk (fun _ h => h.2)) (fun _ h => h.1)); have n1_ := qa.mk (hb); have n2_ := qa.mk (hi); clear HO_5; clear HB; clear HI137; have HO_5 := n0_; have HB := n1_; have HI137 := n2_; clear n0_ n1_ n2_; (try clear hb); (try clear hb2); (try clear hk); (try clear hi)) | ((with_reducible refine qy (f := 27) rfl ?_); refine qrb (some 34) rfl rfl Tryz.func27 (by kernel_rfl) rfl #[.pointer (some ⟨gb137, 0, none⟩)] rfl zz93 ?_; (with_reducible refine (qac.calls gb137 t168 t169 t170 t171 t172 t173 t174 t177 t178 w _ ?side1 ?side2 ?side3 A31.out).mono ?_); (case side1 => exact HG.out); (case side2 => exact zz128); (case side3 => exact zz92); rintro e w35 ⟨v175, rfl, ho0, hi, hb, hk⟩; refine ⟨_, rfl, ?_⟩; have n0_ := qa.mk (Kd.N_mono (Kd.N_told (Kd.N_oldK (Kd.N_mono (ok := fun k_ => (((w.heap.size ≤ k_)) ∧ k_ ≠ gb137)) zz54 (fun k_ hk_ => (⟨hk_, hk_.2⟩ : _ ∧ k_ ≠ gb137))) hk) (Kd.R_base ho0)) (fun _ h_ => h_.1)); have n1_ := qa.mk (Kd.R_lower (Kd.R_newM (M := fun k_ => (w.heap.size ≤ k_)) ho0 (qo zz92) (fun k_ h_ => h_)) (qo zz92)); have n2_ := qa.mk (hb); have n3_ := qa.mk (hi); clear HO_5; clear HB; clear HI137; have HO_5 := n0_; have HO176 := n1_; have HB := n2_; have HI137 := n3_; clear n0_ n1_ n2_ n3_; (try clear hb); (try clear hb2); (try clear hk); (try clear hi); (try clear ho0)) | ((with_reducible refine qfb (N := 7) rfl ?_); (try (refine qkc (by rfl) ?_; dsimp only)); refine qlb ?hg (N := 7) ?hd (cs := #[.bool false, .bool false, .string (⟨#[]⟩ : ByteArray), .string (⟨#[]⟩ : ByteArray), .slice none 0 0]) (t := 48) ?hr ?_; (case hd => rfl); (case hg => rfl); (case hr => exact zz6); intro gb179 hg w36 hbox hb; have n0_ := qa.mk (Kd.N_below (Kd.N_elderB zz54 gb179 (Nat.le_of_eq hg.symm)) hb); have n1_ := qa.mk (Kd.R_below (by (with_reducible repeat (first | apply Kd.R_alloc | apply Kd.R_drewN | apply Kd.R_drew)); exact HO176.out) hb); have n2_ := qa.mk (IsS74.below zz128 hb); have n3_ := qa.mk (qp zz92 hb); have n4_ := qa.mk (hbox); have n5_ := qa.mk ((by rw [hg]; exact (qo zz92) : w.heap.size ≤ gb179)); have n6_ := qa.mk ((by rw [hg]; exact (qo zz92) : w.heap.size ≤ gb179)); have n7_ := qa.mk ((by rw [hg]; exact qyc (IsS74.lt (show IsS74 w _ gb137 t177 t178 from by repeat (first | (with_reducible first | exact HI137.out | apply IsS74.alloc | apply IsS74.drewN | apply IsS74.drew | apply IsS74.set_0 | apply IsS74.set_1) | exact HI137.out))) : gb137 ≠ gb179)); have n8_ := qa.mk ((by rw [hg]; exact Nat.ne_of_gt (IsS74.lt (show IsS74 w _ gb137 t177 t178 from by repeat (first | (with_reducible first | exact HI137.out | apply IsS74.alloc | apply IsS74.drewN | apply IsS74.drew | apply IsS74.set_0 | apply IsS74.set_1) | exact HI137.out))) : gb179 ≠ gb137)); clear HO_5; clear HO176; clear HI137; clear HB; have HO_5 := n0_; have HO176 := n1_; have HI137 := n2_; have HB := n3_; have BK179 := n4_; have GW179 := n5_; have GE179 := n6_; have NB137_179 := n7_; have NB179_137 := n8_; clear n0_ n1_ n2_ n3_ n4_ n5_ n6_ n7_ n8_; clear hb hbox hg; have hnb37 := NB179_137.out; have hnc37 := NB137_179.out; have hcz38_0 : w36.cell? ⟨gb179, 0, none⟩ = some (.bool false) := (qh BK179.out 0).trans rfl; have hcz38_1 : w36.cell? ⟨gb179, 1, none⟩ = some (.bool false) := (qh BK179.out 1).trans rfl; have hcz38_2 : w36.cell? ⟨gb179, 2, none⟩ = some (.string (⟨#[]⟩ : ByteArray)) := (qh BK179.out 2).trans rfl; have hcz38_3 : w36.cell? ⟨gb179, 3, none⟩ = some (.string (⟨#[]⟩ : ByteArray)) := (qh BK179.out 3).trans rfl; have hcz38_4 : w36.cell? ⟨gb179, 4, none⟩ = some (.slice none 0 0) := (qh BK179.out 4).trans rfl; have hfz38_0 := qf BK179.out 0; have hfz38_1 := qf BK179.out 1; have hfz38_2 := qf BK179.out 2; have hfz38_3 := qf BK179.out 3; have hfz38_4 := qf BK179.out 4; obtain ⟨Ao39, co39, eo39⟩ := Kd.R_slice HO176.out; subst eo39) | ((with_reducible refine gate_store (t := 48) (p := 7) rfl ?_); refine store_event (t := 48) (p := 7) (v := ?vo_w40) (w1 := (((((w36.setCell ⟨gb179, 0, none⟩ (.bool t170)).setCell ⟨gb179, 1, none⟩ (.bool t171)).setCell ⟨gb179, 2, none⟩ (.string t172)).setCell ⟨gb179, 3, none⟩ (.string t173)).setCell ⟨gb179, 4, none⟩ (.slice Ao39 t174.length co39))) ?hg ?ho ?hn ?hr ?_; (case ho => rfl); (case hg => rfl); (case hn => rfl); (case hr => exact zz6); intro w40 hw; have n0_ : qa (Kd.N k48 48 w40 w.heap.size (fun k_ => (w.heap.size ≤ k_) ∧ some k_ ≠ (.slice Ao39 t174.length co39 : Value).ownBlock ∧ k_ ≠ gb137 ∧ k_ ≠ gb179) u5 x5_1) := ⟨(by rw [hw]; exact (by (with_reducible repeat (first | apply Kd.N_alloc | apply Kd.N_drewN | apply Kd.N_drew)); exact Kd.N_mono (Kd.N_far (p := ⟨gb179, 4, none⟩) (Kd.N_far (p := ⟨gb179, 3, none⟩) (Kd.N_far (p := ⟨gb179, 2, none⟩) (Kd.N_far (p := ⟨gb179, 1, none⟩) (Kd.N_far (p := ⟨gb179, 0, none⟩) (Kd.N_mono HO_5.out (fun k_ hk => (⟨hk, hk.2⟩ : _ ∧ k_ ≠ gb179))) (fun _ hk => hk.2) (.bool t170)) (fun _ hk => hk.2) (.bool t171)) (fun _ hk => hk.2) (.string t172)) (fun _ hk => hk.2) (.string t173)) (fun _ hk => hk.2) (.slice Ao39 t174.length co39)) (fun _ hk => ⟨hk.1.1.1.1, ⟨hk.1.1.2, ⟨hk.1.1.1.2, hk.1.2⟩⟩⟩)))⟩; have n1_ : qa (Kd.R k50 50 w40 w.heap.size (fun k_ => (w.heap.size ≤ k_)) (.slice Ao39 t174.length co39) t174) := ⟨(by rw [hw]; exact (by (with_reducible repeat (first | apply Kd.R_alloc | apply Kd.R_drewN | apply Kd.R_drew)); exact Kd.R_mono (Kd.R_far (p := ⟨gb179, 4, none⟩) (Kd.R_far (p := ⟨gb179, 3, none⟩) (Kd.R_far (p := ⟨gb179, 2, none⟩) (Kd.R_far (p := ⟨gb179, 1, none⟩) (Kd.R_far (p := ⟨gb179, 0, none⟩) (Kd.R_types HO176.out BK179.out (by decide)) (fun _ hk => hk.2) (.bool t170)) (fun _ hk => hk.2) (.bool t171)) (fun _ hk => hk.2) (.string t172)) (fun _ hk => hk.2) (.string t173)) (fun _ hk => hk.2) (.slice Ao39 t174.length co39)) (fun _ hk => hk.1.1)))⟩; have n2_ : qa (w40.heap[gb179]? = some (.cells #[.bool t170, .bool t171, .string t172, .string t173, .slice Ao39 t174.length co39] 48 (0, 0))) := ⟨(by rw [hw]; exact (by (with_reducible repeat (first | refine qk ?_ _ | refine ql ?_ | refine qj ?_ _)); refine qr (cs := #[.bool t170, .bool t171, .string t172, .string t173, .slice none 0 0]) ?_ 4 _ rfl; (with_reducible repeat (first | refine qk ?_ _ | refine ql ?_ | refine qj ?_ _)); refine qr (cs := #[.bool t170, .bool t171, .string t172, .string (⟨#[]⟩ : ByteArray), .slice none 0 0]) ?_ 3 _ rfl; (with_reducible repeat (first | refine qk ?_ _ | refine ql ?_ | refine qj ?_ _)); refine qr (cs := #[.bool t170, .bool t171, .string (⟨#[]⟩ : ByteArray), .string (⟨#[]⟩ : ByteArray), .slice none 0 0]) ?_ 2 _ rfl; (with_reducible repeat (first | refine qk ?_ _ | refine ql ?_ | refine qj ?_ _)); refine qr (cs := #[.bool t170, .bool false, .string (⟨#[]⟩ : ByteArray), .string (⟨#[]⟩ : ByteArray), .slice none 0 0]) ?_ 1 _ rfl; (with_reducible repeat (first | refine qk ?_ _ | refine ql ?_ | refine qj ?_ _)); refine qr (cs := #[.bool false, .bool false, .string (⟨#[]⟩ : ByteArray), .string (⟨#[]⟩ : ByteArray), .slice none 0 0]) ?_ 0 _ rfl; (with_reducible repeat (first | refine qk ?_ _ | refine ql ?_ | refine qj ?_ _)); exact BK179.out))⟩; have n3_ : qa (IsS74 w w40 gb137 t177 t178) := ⟨(by rw [hw]; exact zz141)⟩; have n4_ : qa (Below w.heap.size w w40) := ⟨(by rw [hw]; exact zz115)⟩; clear hw; clear HO_5; clear HO176; clear BK179; clear HI137; clear HB; have HO_5 := n0_; have HO176 := n1_; have BK179 := n2_; have HI137 := n3_; have HB := n4_; clear n0_ n1_ n2_ n3_ n4_; have hcz41_0 : w40.cell? ⟨gb179, 0, none⟩ = some (.bool t170) := (qh BK179.out 0).trans rfl; have hcz41_1 : w40.cell? ⟨gb179, 1, none⟩ = some (.bool t171) := (qh BK179.out 1).trans rfl; have hcz41_2 : w40.cell? ⟨gb179, 2, none⟩ = some (.string t172) := (qh BK179.out 2).trans rfl; have hcz41_3 : w40.cell? ⟨gb179, 3, none⟩ = some (.string t173) := (qh BK179.out 3).trans rfl; have hcz41_4 : w40.cell? ⟨gb179, 4, none⟩ = some (.slice Ao39 t174.length co39) := (qh BK179.out 4).trans rfl; have hfz41_0 := qf BK179.out 0; have hfz41_1 := qf BK179.out 1; have hfz41_2 := qf BK179.out 2; have hfz41_3 := qf BK179.out 3; have hfz41_4 := qf BK179.out 4) | ((with_reducible refine gate_store (t := 4) (p := 36) rfl ?_); refine store_event (t := 4) (p := 36) (v := ?vo_w42) (w1 := (w40.setCell ⟨gb179, 0, none⟩ (.bool false))) ?hg ?ho ?hn ?hr ?_; (case ho => rfl); (case hg => rfl); (case hn => rfl); (case hr => exact zz6); intro w42 hw; have n0_ : qa (Kd.N k48 48 w42 w.heap.size (fun k_ => (w.heap.size ≤ k_) ∧ some k_ ≠ (.slice Ao39 t174.length co39 : Value).ownBlock ∧ k_ ≠ gb137 ∧ k_ ≠ gb179) u5 x5_1) := ⟨(by rw [hw]; exact (by (with_reducible repeat (first | apply Kd.N_alloc | apply Kd.N_drewN | apply Kd.N_drew)); exact Kd.N_mono (Kd.N_far (p := ⟨gb179, 0, none⟩) (Kd.N_mono HO_5.out (fun k_ hk => (⟨hk, hk.2.2.2⟩ : _ ∧ k_ ≠ gb179))) (fun _ hk => hk.2) (.bool false)) (fun _ hk => ⟨hk.1.1, ⟨hk.1.2.1, ⟨hk.1.2.2.1, hk.1.2.2.2⟩⟩⟩)))⟩; have n1_ : qa (Kd.R k50 50 w42 w.heap.size (fun k_ => (w.heap.size ≤ k_)) (.slice Ao39 t174.length co39) t174) := ⟨(by rw [hw]; exact (by (with_reducible repeat (first | apply Kd.R_alloc | apply Kd.R_drewN | apply Kd.R_drew)); exact Kd.R_mono (Kd.R_far (p := ⟨gb179, 0, none⟩) (Kd.R_types HO176.out BK179.out (by decide)) (fun _ hk => hk.2) (.bool false)) (fun _ hk => hk.1)))⟩; have n2_ : qa (w42.heap[gb179]? = some (.cells #[.bool false, .bool t171, .string t172, .string t173, .slice Ao39 t174.length co39] 48 (0, 0))) := ⟨(by rw [hw]; exact (by (with_reducible repeat (first | refine qk ?_ _ | refine ql ?_ | refine qj ?_ _)); refine qr (cs := #[.bool t170, .bool t171, .string t172, .string t173, .slice Ao39 t174.length co39]) ?_ 0 _ rfl; (with_reducible repeat (first | refine qk ?_ _ | refine ql ?_ | refine qj ?_ _)); exact BK179.out))⟩; have n3_ : qa (IsS74 w w42 gb137 t177 t178) := ⟨(by rw [hw]; exact zz141)⟩; have n4_ : qa (Below w.heap.size w w42) := ⟨(by rw [hw]; exact zz115)⟩; clear hw; clear HO_5; clear HO176; clear BK179; clear HI137; clear HB; have HO_5 := n0_; have HO176 := n1_; have BK179 := n2_; have HI137 := n3_; have HB := n4_; clear n0_ n1_ n2_ n3_ n4_; have hcz43_0 : w42.cell? ⟨gb179, 0, none⟩ = some (.bool false) := (qh BK179.out 0).trans rfl; have hcz43_1 : w42.cell? ⟨gb179, 1, none⟩ = some (.bool t171) := (qh BK179.out 1).trans rfl; have hcz43_2 : w42.cell? ⟨gb179, 2, none⟩ = some (.string t172) := (qh BK179.out 2).trans rfl; have hcz43_3 : w42.cell? ⟨gb179, 3, none⟩ = some (.string t173) := (qh BK179.out 3).trans rfl; have hcz43_4 : w42.cell? ⟨gb179, 4, none⟩ = some (.slice Ao39 t174.length co39) := (qh BK179.out 4).trans rfl; have hfz43_0 := qf BK179.out 0; have hfz43_1 := qf BK179.out 1; have hfz43_2 := qf BK179.out 2; have hfz43_3 := qf BK179.out 3; have hfz43_4 := qf BK179.out 4) | ((with_reducible refine gate_builtin (b := .append) (xs := #[.tmp 37, .tmp 39]) rfl ?_); (try (refine qkc (by rfl) ?_; dsimp only)); at_builtin; refine Kd.N_append k48 (w0 := w) w.heap.size rfl (.tmp 37) (.tmp 39) 22 48 (.agg #[(.bool false), (.bool false), (.string ⟨#[]⟩), (.string ⟨#[]⟩), (.slice none 0 0)]) 64 rfl Tryz.underlying22 info48 rfl (by decide) (by omega) u5 x5_1 (⟨false, t171, t172, t173, t174⟩ : S48) [.bool false, .bool t171, .string t172, .string t173, .slice Ao39 t174.length co39] (fun k_ => (w.heap.size ≤ k_) ∧ k_ ≠ gb179 ∧ k_ ≠ gb137) (fun k_ => ((fun k_ => (w.heap.size ≤ k_) ∧ k_ ≠ gb179 ∧ k_ ≠ gb137)) k_ ∧ some k_ ≠ (u5 : Value).ownBlock) rfl rfl ?aP (fun _ hk => hk) ?aF ?aO ?aB ?aS ?aL ?_; (case aP => exact (k48_mkF _ _ (⟨false, t171, t172, t173, t174⟩ : S48) (Kd.R_reads' (Kd.R_mono (ok' := (fun k_ => ((fun k_ => (w.heap.size ≤ k_) ∧ k_ ≠ gb179 ∧ k_ ≠ gb137)) k_ ∧ some k_ ≠ (u5 : Value).ownBlock)) (IsS74.apart HI137.out (Kd.R_types (Kd.R_apart' (HO176.out) (Kd.N_typed HO_5.out) (by decide)) BK179.out (by decide)) (by decide)) (fun k_ hk => ⟨⟨hk.1.1.1, ⟨hk.1.2, hk.2⟩⟩, hk.1.1.2⟩))).2.1 (Kd.R_F (Kd.R_mono (ok' := (fun k_ => ((fun k_ => (w.heap.size ≤ k_) ∧ k_ ≠ gb179 ∧ k_ ≠ gb137)) k_ ∧ some k_ ≠ (u5 : Value).ownBlock)) (IsS74.apart HI137.out (Kd.R_types (Kd.R_apart' (HO176.out) (Kd.N_typed HO_5.out) (by decide)) BK179.out (by decide)) (by decide)) (fun k_ hk => ⟨⟨hk.1.1.1, ⟨hk.1.2, hk.2⟩⟩, hk.1.1.2⟩))))); (case aB => exact zz115); (case aF => exact (fun k_ hk => ⟨(Nat.le_trans (qo zz115) hk), Kd.freshB (g := gb179) (o := .cells #[.bool false, .bool t171, .string t172, .string t173, .slice Ao39 t174.length co39] 48 (0, 0)) (by (with_reducible repeat (first | refine qk ?_ _ | refine ql ?_ | refine qj ?_ _)); exact BK179.out) k_ hk, IsS74.fresh zz141 k_ hk⟩)); (case aO => exact zz112); (case aS => exact (qo zz115)); (case aL => have := LMc32.out; omega); intro v181 w44 ho hb hg hat; rw [← Ny180.out] at ho; have n0_ := qa.mk (IsS74.grown zz141 hg (IsS74.own_neN HI137.out HO_5.out (by decide))); have n1_ := qa.mk (blk_grown (g := gb179) (o := .cells #[.bool false, .bool t171, .string t172, .string t173, .slice Ao39 t174.length co39] 48 (0, 0)) (by (with_reducible repeat (first | refine qk ?_ _ | refine ql ?_ | refine qj ?_ _)); exact BK179.out) hg (Kd.N_away HO_5.out (fun _ hk => hk.2.2.2))); have n2_ := qa.mk (hb); have n3_ := qa.mk (ho); clear HI137; clear BK179; clear HB; clear HO_5; clear HO176; have HI137 := n0_; have BK179 := n1_; have HB := n2_; have HO182 := n3_; clear n0_ n1_ n2_ n3_; clear ho hb hg hat))
         go_roundg kj7
         case measure => have := HK1.out; have := HJ7.out; omega
         case rel => exact ⟨(y180), (t177), (t178), H', ⟨by have := HK1.out; have := HJ7.out; omega⟩, ⟨by (with_reducible repeat (first | apply Kd.N_alloc | apply Kd.N_drewN | apply Kd.N_drew)); exact Kd.N_mono HO182.out (fun _ hk => ⟨hk.1, hk.2.2⟩)⟩, ⟨zz141⟩, ⟨zz115⟩⟩
        ·rw [if_neg c32] at H
         exact absurd H (by simp)
       ·replace c30 := Bool.eq_false_iff.mpr c30
        subst c30
        have H1 : (if t169 = true then (some (([] : List (S48)), 2)) else (if t168.toList = ([] : List UInt8) then ((qx.f kj7 x5_1).bind fun t183 => (if t183 = 0 then (some (x5_1, 0)) else (some (([] : List (S48)), 2)))) else (some (([] : List (S48)), 2)))) = some (r1, r2) := by rw [if_neg (show ¬ (false = true) by decide)] at H; exact H
        clear H
        have H := H1
        clear H1
        by_cases c45 : t169 = true
        ·subst c45
         have H1 : (some (([] : List (S48)), 2)) = some (r1, r2) := by rw [if_pos rfl] at H; exact H
         clear H
         have H := H1
         clear H1
         simp only [Option.some.injEq, Prod.mk.injEq] at H
         obtain ⟨rfl, rfl⟩ := H
         go_wp2_with (first | ((with_reducible refine qy (f := 28) rfl ?_); refine qrb (some 25) rfl rfl Tryz.func28 (by kernel_rfl) rfl #[.pointer (some ⟨gb137, 0, none⟩), .string (⟨#[62]⟩ : ByteArray)] rfl zz93 ?_; (with_reducible refine (qjb.calls gb137 x138000_1 x138001_1 (⟨#[62]⟩ : ByteArray) false t152 t153 w _ ?side1 ?side2 A14.out).mono ?_); (case side1 => exact zz128); (case side2 => exact zz92); rintro e w46 ⟨rfl, hi, hb, hk⟩; refine ⟨_, rfl, ?_⟩; have n0_ := qa.mk (Kd.N_mono (Kd.N_keep (Kd.N_mono (ok := fun k_ => (((w.heap.size ≤ k_)) ∧ k_ ≠ gb137)) zz54 (fun k_ hk_ => (⟨hk_, hk_.2⟩ : _ ∧ k_ ≠ gb137))) hk (fun _ h => h.2)) (fun _ h => h.1)); have n1_ := qa.mk (hb); have n2_ := qa.mk (hi); clear HO_5; clear HB; clear HI137; have HO_5 := n0_; have HB := n1_; have HI137 := n2_; clear n0_ n1_ n2_; (try clear hb); (try clear hb2); (try clear hk); (try clear hi)) | (go_at_call 28; (with_reducible refine (qjb.calls gb137 t152 t153 (⟨#[32]⟩ : ByteArray) false t168 true w _ ?side1 ?side2 A29.out).mono ?_); (case side1 => exact zz128); (case side2 => exact zz92); rintro e w47 ⟨rfl, hi, hb, hk⟩; have n0_ := qa.mk (Kd.N_mono (Kd.N_keep (Kd.N_mono (ok := fun k_ => (((w.heap.size ≤ k_)) ∧ k_ ≠ gb137)) zz54 (fun k_ hk_ => (⟨hk_, hk_.2⟩ : _ ∧ k_ ≠ gb137))) hk (fun _ h => h.2)) (fun _ h => h.1)); have n1_ := qa.mk (hb); have n2_ := qa.mk (hi); clear HO_5; clear HB; clear HI137; have HO_5 := n0_; have HB := n1_; have HI137 := n2_; clear n0_ n1_ n2_; (try clear hb); (try clear hb2); (try clear hk); (try clear hi); obtain ⟨HGz48, hgz48⟩ := HI137.out; have hcz48_0 := cellS74_0 HGz48; have hcz48_1 := cellS74_1 HGz48; have hfz48_0 := qf HGz48 0; have hfz48_1 := qf HGz48 1; clear HGz48 hgz48))
         go_ret2
         exact ⟨_, zz102, zz94, zz92⟩
        ·replace c45 := Bool.eq_false_iff.mpr c45
         subst c45
         have H1 : (if t168.toList = ([] : List UInt8) then ((qx.f kj7 x5_1).bind fun t183 => (if t183 = 0 then (some (x5_1, 0)) else (some (([] : List (S48)), 2)))) else (some (([] : List (S48)), 2))) = some (r1, r2) := by rw [if_neg (show ¬ (false = true) by decide)] at H; exact H
         clear H
         have H := H1
         clear H1
         by_cases c49 : t168.toList = ([] : List UInt8)
         ·rw [if_pos c49] at H
          have c49b0 : (t168.toList == ([] : List UInt8)) = true := beq_iff_eq.mpr c49
          have c49b1 : (t168.toList != ([] : List UInt8)) = false := bne_eq_false_iff_eq.mpr c49
          (try (have c49b2 : List.isEmpty (t168.toList) = true := by simpa using c49))
          clear c49
          replace H := Option.bind_eq_some_iff.mp H
          obtain ⟨t183, A500, H⟩ := H
          replace H : (if t183 = 0 then (some (x5_1, 0)) else (some (([] : List (S48)), 2))) = some (r1, r2) := H
          have A50 := qa.mk A500
          clear A500
          by_cases c51 : t183 = 0
          ·rw [if_pos c51] at H
           have c51b0 : (t183 == 0) = true := beq_iff_eq.mpr c51
           have c51b1 : (t183 != 0) = false := bne_eq_false_iff_eq.mpr c51
           clear c51
           simp only [Option.some.injEq, Prod.mk.injEq] at H
           obtain ⟨rfl, rfl⟩ := H
           go_wp2_with (first | ((with_reducible refine qy (f := 28) rfl ?_); refine qrb (some 25) rfl rfl Tryz.func28 (by kernel_rfl) rfl #[.pointer (some ⟨gb137, 0, none⟩), .string (⟨#[62]⟩ : ByteArray)] rfl zz93 ?_; (with_reducible refine (qjb.calls gb137 x138000_1 x138001_1 (⟨#[62]⟩ : ByteArray) false t152 t153 w _ ?side1 ?side2 A14.out).mono ?_); (case side1 => exact zz128); (case side2 => exact zz92); rintro e w52 ⟨rfl, hi, hb, hk⟩; refine ⟨_, rfl, ?_⟩; have n0_ := qa.mk (Kd.N_mono (Kd.N_keep (Kd.N_mono (ok := fun k_ => (((w.heap.size ≤ k_)) ∧ k_ ≠ gb137)) zz54 (fun k_ hk_ => (⟨hk_, hk_.2⟩ : _ ∧ k_ ≠ gb137))) hk (fun _ h => h.2)) (fun _ h => h.1)); have n1_ := qa.mk (hb); have n2_ := qa.mk (hi); clear HO_5; clear HB; clear HI137; have HO_5 := n0_; have HB := n1_; have HI137 := n2_; clear n0_ n1_ n2_; (try clear hb); (try clear hb2); (try clear hk); (try clear hi)) | (go_at_call 28; (with_reducible refine (qjb.calls gb137 t152 t153 (⟨#[32]⟩ : ByteArray) false t168 false w _ ?side1 ?side2 A29.out).mono ?_); (case side1 => exact zz128); (case side2 => exact zz92); rintro e w53 ⟨rfl, hi, hb, hk⟩; have n0_ := qa.mk (Kd.N_mono (Kd.N_keep (Kd.N_mono (ok := fun k_ => (((w.heap.size ≤ k_)) ∧ k_ ≠ gb137)) zz54 (fun k_ hk_ => (⟨hk_, hk_.2⟩ : _ ∧ k_ ≠ gb137))) hk (fun _ h => h.2)) (fun _ h => h.1)); have n1_ := qa.mk (hb); have n2_ := qa.mk (hi); clear HO_5; clear HB; clear HI137; have HO_5 := n0_; have HB := n1_; have HI137 := n2_; clear n0_ n1_ n2_; (try clear hb); (try clear hb2); (try clear hk); (try clear hi); obtain ⟨HGz54, hgz54⟩ := HI137.out; have hcz54_0 := cellS74_0 HGz54; have hcz54_1 := cellS74_1 HGz54; have hfz54_0 := qf HGz54 0; have hfz54_1 := qf HGz54 1; clear HGz54 hgz54; obtain ⟨Ao55, co55, eo55⟩ := Kd.N_slice HO_5.out; subst eo55) | (go_at_call 10; (with_reducible refine (qx.calls kj7 _ _ x5_1 t183 _ ?side1 ?side2 A50.out).mono ?_); (case side1 => exact zz120); (case side2 => exact (Kd.N_reads' HO_5.out).2.1); rintro e w56 ⟨rfl, hb⟩; have n0_ := qa.mk (Kd.N_below zz54 hb); have n1_ := qa.mk (IsS74.below zz128 hb); have n2_ := qa.mk (qp zz92 hb); clear HO_5; clear HI137; clear HB; have HO_5 := n0_; have HI137 := n1_; have HB := n2_; clear n0_ n1_ n2_; (try clear hb); (try clear hb2); (try clear hk); (try clear hi)))
           go_ret2
           exact ⟨_, zz102, zz90, zz92⟩
          ·rw [if_neg c51] at H
           have c51b0 : (t183 == 0) = false := beq_eq_false_iff_ne.mpr c51
           have c51b1 : (t183 != 0) = true := bne_iff_ne.mpr c51
           simp only [Option.some.injEq, Prod.mk.injEq] at H
           obtain ⟨rfl, rfl⟩ := H
           go_wp2_with (first | ((with_reducible refine qy (f := 28) rfl ?_); refine qrb (some 25) rfl rfl Tryz.func28 (by kernel_rfl) rfl #[.pointer (some ⟨gb137, 0, none⟩), .string (⟨#[62]⟩ : ByteArray)] rfl zz93 ?_; (with_reducible refine (qjb.calls gb137 x138000_1 x138001_1 (⟨#[62]⟩ : ByteArray) false t152 t153 w _ ?side1 ?side2 A14.out).mono ?_); (case side1 => exact zz128); (case side2 => exact zz92); rintro e w57 ⟨rfl, hi, hb, hk⟩; refine ⟨_, rfl, ?_⟩; have n0_ := qa.mk (Kd.N_mono (Kd.N_keep (Kd.N_mono (ok := fun k_ => (((w.heap.size ≤ k_)) ∧ k_ ≠ gb137)) zz54 (fun k_ hk_ => (⟨hk_, hk_.2⟩ : _ ∧ k_ ≠ gb137))) hk (fun _ h => h.2)) (fun _ h => h.1)); have n1_ := qa.mk (hb); have n2_ := qa.mk (hi); clear HO_5; clear HB; clear HI137; have HO_5 := n0_; have HB := n1_; have HI137 := n2_; clear n0_ n1_ n2_; (try clear hb); (try clear hb2); (try clear hk); (try clear hi)) | (go_at_call 28; (with_reducible refine (qjb.calls gb137 t152 t153 (⟨#[32]⟩ : ByteArray) false t168 false w _ ?side1 ?side2 A29.out).mono ?_); (case side1 => exact zz128); (case side2 => exact zz92); rintro e w58 ⟨rfl, hi, hb, hk⟩; have n0_ := qa.mk (Kd.N_mono (Kd.N_keep (Kd.N_mono (ok := fun k_ => (((w.heap.size ≤ k_)) ∧ k_ ≠ gb137)) zz54 (fun k_ hk_ => (⟨hk_, hk_.2⟩ : _ ∧ k_ ≠ gb137))) hk (fun _ h => h.2)) (fun _ h => h.1)); have n1_ := qa.mk (hb); have n2_ := qa.mk (hi); clear HO_5; clear HB; clear HI137; have HO_5 := n0_; have HB := n1_; have HI137 := n2_; clear n0_ n1_ n2_; (try clear hb); (try clear hb2); (try clear hk); (try clear hi); obtain ⟨HGz59, hgz59⟩ := HI137.out; have hcz59_0 := cellS74_0 HGz59; have hcz59_1 := cellS74_1 HGz59; have hfz59_0 := qf HGz59 0; have hfz59_1 := qf HGz59 1; clear HGz59 hgz59; obtain ⟨Ao60, co60, eo60⟩ := Kd.N_slice HO_5.out; subst eo60) | (go_at_call 10; (with_reducible refine (qx.calls kj7 _ _ x5_1 t183 _ ?side1 ?side2 A50.out).mono ?_); (case side1 => exact zz120); (case side2 => exact (Kd.N_reads' HO_5.out).2.1); rintro e w61 ⟨rfl, hb⟩; have n0_ := qa.mk (Kd.N_below zz54 hb); have n1_ := qa.mk (IsS74.below zz128 hb); have n2_ := qa.mk (qp zz92 hb); clear HO_5; clear HI137; clear HB; have HO_5 := n0_; have HI137 := n1_; have HB := n2_; clear n0_ n1_ n2_; (try clear hb); (try clear hb2); (try clear hk); (try clear hi)))
           go_ret2
           exact ⟨_, zz102, zz94, zz92⟩
         ·rw [if_neg c49] at H
          have c49b0 : (t168.toList == ([] : List UInt8)) = false := beq_eq_false_iff_ne.mpr c49
          have c49b1 : (t168.toList != ([] : List UInt8)) = true := bne_iff_ne.mpr c49
          (try (have c49b2 : List.isEmpty (t168.toList) = false := by simpa using c49))
          simp only [Option.some.injEq, Prod.mk.injEq] at H
          obtain ⟨rfl, rfl⟩ := H
          go_wp2_with (first | ((with_reducible refine qy (f := 28) rfl ?_); refine qrb (some 25) rfl rfl Tryz.func28 (by kernel_rfl) rfl #[.pointer (some ⟨gb137, 0, none⟩), .string (⟨#[62]⟩ : ByteArray)] rfl zz93 ?_; (with_reducible refine (qjb.calls gb137 x138000_1 x138001_1 (⟨#[62]⟩ : ByteArray) false t152 t153 w _ ?side1 ?side2 A14.out).mono ?_); (case side1 => exact zz128); (case side2 => exact zz92); rintro e w62 ⟨rfl, hi, hb, hk⟩; refine ⟨_, rfl, ?_⟩; have n0_ := qa.mk (Kd.N_mono (Kd.N_keep (Kd.N_mono (ok := fun k_ => (((w.heap.size ≤ k_)) ∧ k_ ≠ gb137)) zz54 (fun k_ hk_ => (⟨hk_, hk_.2⟩ : _ ∧ k_ ≠ gb137))) hk (fun _ h => h.2)) (fun _ h => h.1)); have n1_ := qa.mk (hb); have n2_ := qa.mk (hi); clear HO_5; clear HB; clear HI137; have HO_5 := n0_; have HB := n1_; have HI137 := n2_; clear n0_ n1_ n2_; (try clear hb); (try clear hb2); (try clear hk); (try clear hi)) | (go_at_call 28; (with_reducible refine (qjb.calls gb137 t152 t153 (⟨#[32]⟩ : ByteArray) false t168 false w _ ?side1 ?side2 A29.out).mono ?_); (case side1 => exact zz128); (case side2 => exact zz92); rintro e w63 ⟨rfl, hi, hb, hk⟩; have n0_ := qa.mk (Kd.N_mono (Kd.N_keep (Kd.N_mono (ok := fun k_ => (((w.heap.size ≤ k_)) ∧ k_ ≠ gb137)) zz54 (fun k_ hk_ => (⟨hk_, hk_.2⟩ : _ ∧ k_ ≠ gb137))) hk (fun _ h => h.2)) (fun _ h => h.1)); have n1_ := qa.mk (hb); have n2_ := qa.mk (hi); clear HO_5; clear HB; clear HI137; have HO_5 := n0_; have HB := n1_; have HI137 := n2_; clear n0_ n1_ n2_; (try clear hb); (try clear hb2); (try clear hk); (try clear hi); obtain ⟨HGz64, hgz64⟩ := HI137.out; have hcz64_0 := cellS74_0 HGz64; have hcz64_1 := cellS74_1 HGz64; have hfz64_0 := qf HGz64 0; have hfz64_1 := qf HGz64 1; clear HGz64 hgz64))
          go_ret2
          exact ⟨_, zz102, zz94, zz92⟩
     ·replace c13 := Bool.eq_false_iff.mpr c13
      subst c13
      have H1 : (if x138001_1 = true then (some (([] : List (S48)), 2)) else (if x138000_1.toList = ([] : List UInt8) then ((qx.f kj7 x5_1).bind fun t150 => (if t150 = 0 then (some (x5_1, 0)) else (some (([] : List (S48)), 2)))) else (some (([] : List (S48)), 2)))) = some (r1, r2) := by rw [if_neg (show ¬ (false = true) by decide)] at H; exact H
      clear H
      have H := H1
      clear H1
      by_cases c65 : x138001_1 = true
      ·subst c65
       have H1 : (some (([] : List (S48)), 2)) = some (r1, r2) := by rw [if_pos rfl] at H; exact H
       clear H
       have H := H1
       clear H1
       simp only [Option.some.injEq, Prod.mk.injEq] at H
       obtain ⟨rfl, rfl⟩ := H
       obtain ⟨HGz66, hgz66⟩ := HI137.out
       have hcz66_0 := cellS74_0 HGz66
       have hcz66_1 := cellS74_1 HGz66
       have hfz66_0 := qf HGz66 0
       have hfz66_1 := qf HGz66 1
       clear HGz66 hgz66
       go_wp2
       go_ret2
       exact ⟨_, zz102, zz94, zz92⟩
      ·replace c65 := Bool.eq_false_iff.mpr c65
       subst c65
       have H1 : (if x138000_1.toList = ([] : List UInt8) then ((qx.f kj7 x5_1).bind fun t150 => (if t150 = 0 then (some (x5_1, 0)) else (some (([] : List (S48)), 2)))) else (some (([] : List (S48)), 2))) = some (r1, r2) := by rw [if_neg (show ¬ (false = true) by decide)] at H; exact H
       clear H
       have H := H1
       clear H1
       by_cases c67 : x138000_1.toList = ([] : List UInt8)
       ·rw [if_pos c67] at H
        have c67b0 : (x138000_1.toList == ([] : List UInt8)) = true := beq_iff_eq.mpr c67
        have c67b1 : (x138000_1.toList != ([] : List UInt8)) = false := bne_eq_false_iff_eq.mpr c67
        (try (have c67b2 : List.isEmpty (x138000_1.toList) = true := by simpa using c67))
        clear c67
        replace H := Option.bind_eq_some_iff.mp H
        obtain ⟨t150, A680, H⟩ := H
        replace H : (if t150 = 0 then (some (x5_1, 0)) else (some (([] : List (S48)), 2))) = some (r1, r2) := H
        have A68 := qa.mk A680
        clear A680
        by_cases c69 : t150 = 0
        ·rw [if_pos c69] at H
         have c69b0 : (t150 == 0) = true := beq_iff_eq.mpr c69
         have c69b1 : (t150 != 0) = false := bne_eq_false_iff_eq.mpr c69
         clear c69
         simp only [Option.some.injEq, Prod.mk.injEq] at H
         obtain ⟨rfl, rfl⟩ := H
         obtain ⟨HGz70, hgz70⟩ := HI137.out
         have hcz70_0 := cellS74_0 HGz70
         have hcz70_1 := cellS74_1 HGz70
         have hfz70_0 := qf HGz70 0
         have hfz70_1 := qf HGz70 1
         clear HGz70 hgz70
         obtain ⟨Ao71, co71, eo71⟩ := Kd.N_slice HO_5.out
         subst eo71
         go_wp2_with (first | (go_at_call 10; (with_reducible refine (qx.calls kj7 _ _ x5_1 t150 _ ?side1 ?side2 A68.out).mono ?_); (case side1 => exact zz120); (case side2 => exact (Kd.N_reads' HO_5.out).2.1); rintro e w72 ⟨rfl, hb⟩; have n0_ := qa.mk (Kd.N_below zz54 hb); have n1_ := qa.mk (IsS74.below zz128 hb); have n2_ := qa.mk (qp zz92 hb); clear HO_5; clear HI137; clear HB; have HO_5 := n0_; have HI137 := n1_; have HB := n2_; clear n0_ n1_ n2_; (try clear hb); (try clear hb2); (try clear hk); (try clear hi)))
         go_ret2
         exact ⟨_, zz102, zz90, zz92⟩
        ·rw [if_neg c69] at H
         have c69b0 : (t150 == 0) = false := beq_eq_false_iff_ne.mpr c69
         have c69b1 : (t150 != 0) = true := bne_iff_ne.mpr c69
         simp only [Option.some.injEq, Prod.mk.injEq] at H
         obtain ⟨rfl, rfl⟩ := H
         obtain ⟨HGz73, hgz73⟩ := HI137.out
         have hcz73_0 := cellS74_0 HGz73
         have hcz73_1 := cellS74_1 HGz73
         have hfz73_0 := qf HGz73 0
         have hfz73_1 := qf HGz73 1
         clear HGz73 hgz73
         obtain ⟨Ao74, co74, eo74⟩ := Kd.N_slice HO_5.out
         subst eo74
         go_wp2_with (first | (go_at_call 10; (with_reducible refine (qx.calls kj7 _ _ x5_1 t150 _ ?side1 ?side2 A68.out).mono ?_); (case side1 => exact zz120); (case side2 => exact (Kd.N_reads' HO_5.out).2.1); rintro e w75 ⟨rfl, hb⟩; have n0_ := qa.mk (Kd.N_below zz54 hb); have n1_ := qa.mk (IsS74.below zz128 hb); have n2_ := qa.mk (qp zz92 hb); clear HO_5; clear HI137; clear HB; have HO_5 := n0_; have HI137 := n1_; have HB := n2_; clear n0_ n1_ n2_; (try clear hb); (try clear hb2); (try clear hk); (try clear hi)))
         go_ret2
         exact ⟨_, zz102, zz94, zz92⟩
       ·rw [if_neg c67] at H
        have c67b0 : (x138000_1.toList == ([] : List UInt8)) = false := beq_eq_false_iff_ne.mpr c67
        have c67b1 : (x138000_1.toList != ([] : List UInt8)) = true := bne_iff_ne.mpr c67
        (try (have c67b2 : List.isEmpty (x138000_1.toList) = false := by simpa using c67))
        simp only [Option.some.injEq, Prod.mk.injEq] at H
        obtain ⟨rfl, rfl⟩ := H
        obtain ⟨HGz76, hgz76⟩ := HI137.out
        have hcz76_0 := cellS74_0 HGz76
        have hcz76_1 := cellS74_1 HGz76
        have hfz76_0 := qf HGz76 0
        have hfz76_1 := qf HGz76 1
        clear HGz76 hgz76
        go_wp2
        go_ret2
        exact ⟨_, zz102, zz94, zz92⟩
end Go.Proofs.YtjbobecnlpiejaaGreatDoor.Q
namespace Go.Proofs.YtjbobecnlpiejaaGreatDoor.Q.P
open Go.Proofs.YtjbobecnlpiejaaGreatDoorZ
open Go.RowKit Go.Proofs.YtjbobecnlpiejaaGreatDoorW.PrintWords Go.Proofs.YtjbobecnlpiejaaGreatDoorW.PrintLast Go.Proofs.YtjbobecnlpiejaaGreatDoorW.PrintMore
def mk (l : List UInt8) : ByteArray := ⟨l.toArray⟩
theorem mk_list (l : List UInt8) : (mk l).data.toList = l := rfl
theorem mk_toList (l : List UInt8) : (mk l).toList = l := by rw [Lib.toList_data]; rfl
theorem mk_size (l : List UInt8) : (mk l).size = l.length := ba_size l
theorem mk_of (s : ByteArray) : mk s.data.toList = s := ba_self s
theorem mk_eq {s : ByteArray} {l : List UInt8} (h : s.data.toList = l) : s = mk l := by rw [← h, mk_of]
theorem extract_list (s : ByteArray) (a b : Nat) : (s.extract a b).data.toList = (s.data.toList.take b).drop a := by
 rw [ByteArray.data_extract, Array.toList_extract, List.extract_eq_drop_take', ]
theorem is_spec (s t : List UInt8) (b : Bool) : qjb.f (mk s) b (mk t) = some (if t.isPrefixOf s = true then (true, mk (s.drop t.length), b) else (false, mk s, b)) := by
 unfold qjb.f strings_CutPrefix.f stringslite_CutPrefix.f qnc.f
 rw [mk_size, mk_size]
 by_cases hl : t.length ≤ s.length
 ·rw [if_pos (by omega), if_pos (by omega), if_pos (by omega)]
  simp only [Option.bind_some]
  have e1 : ((mk s).extract 0 ((t.length : Int)).toNat).toList = s.take t.length := by
   rw [Lib.toList_data, extract_list, mk_list, Int.toNat_natCast, List.drop_zero]
  have e2 : (t.isPrefixOf s) = (s.take t.length == t) := by
   rw [Bool.eq_iff_iff, List.isPrefixOf_iff_prefix, beq_iff_eq, List.prefix_iff_eq_take]
   exact eq_comm
  rw [e1, mk_toList, ← e2]
  cases hp : t.isPrefixOf s
  ·simp
  ·simp only [if_true]
   rw [if_pos (by omega), if_pos (by omega)]
   simp only [Option.bind_some]
   have e3 : (mk s).extract ((t.length : Int)).toNat s.length = mk (s.drop t.length) := by
    apply mk_eq
    rw [extract_list, mk_list, Int.toNat_natCast, List.take_length]
   rw [e3]
 ·rw [if_neg (by omega)]
  simp only [Option.bind_some]
  have : t.isPrefixOf s = false := by
   rw [Bool.eq_false_iff]
   intro h
   rw [List.isPrefixOf_iff_prefix] at h
   exact hl h.length_le
  rw [this]
  simp
def toS (st s : List UInt8) : List UInt8 := s.takeWhile fun c => !st.contains c
def fromS (st s : List UInt8) : List UInt8 := s.dropWhile fun c => !st.contains c
theorem to_from (st s : List UInt8) : toS st s ++ fromS st s = s := List.takeWhile_append_dropWhile
theorem indexAny_spec (st : List UInt8) : ∀ s : List UInt8, Lib.indexAny s st = if fromS st s = [] then -1 else ((toS st s).length : Int)
 | [] => rfl
 | b :: l => by
  have ih := indexAny_spec st l
  unfold Lib.indexAny
  unfold fromS toS at *
  cases hb : st.contains b
  ·simp only [Bool.false_eq_true, if_false, List.takeWhile_cons, List.dropWhile_cons, hb, Bool.not_false, if_true]
   by_cases h : l.dropWhile (fun c => !st.contains c) = []
   ·rw [if_pos h] at ih
    rw [if_pos h, ih]
    rfl
   ·rw [if_neg h] at ih
    rw [if_neg h, if_neg (by rw [beq_iff_eq, ih]; omega), ih, List.length_cons]
    omega
  ·simp only [if_true, List.takeWhile_cons, List.dropWhile_cons, hb, Bool.not_true, Bool.false_eq_true, if_false]
   rw [if_neg (by simp)]
   rfl
theorem run_spec (s st : List UInt8) (b : Bool) (h : st.all (fun b => decide (b.toNat < 128)) = true) : qpc.f (mk s) b (mk st) = some (mk (toS st s), mk (fromS st s), b) := by
 unfold qpc.f query_anyAt.f
 rw [mk_list, mk_list, if_pos h]
 simp only [Option.bind_some]
 rw [indexAny_spec]
 have ht := to_from st s
 by_cases hf : fromS st s = []
 ·rw [if_pos hf, if_pos (by decide)]
  rw [hf, List.append_nil] at ht
  rw [ht, hf]
  rfl
 ·rw [if_neg hf, if_neg (by omega)]
  have hlen : (toS st s).length ≤ s.length := by
   have := congrArg List.length ht
   rw [List.length_append] at this
   omega
  rw [if_pos (by rw [mk_size]; omega)]
  have e1 : (mk s).extract 0 (((toS st s).length : Int)).toNat = mk (toS st s) := by
   apply mk_eq
   rw [extract_list, mk_list, Int.toNat_natCast, List.drop_zero]
   have e := List.take_left (l₁ := toS st s) (l₂ := fromS st s)
   rw [ht] at e
   exact e
  have e2 : (mk s).extract (((toS st s).length : Int)).toNat (mk s).size = mk (fromS st s) := by
   apply mk_eq
   rw [extract_list, mk_list, Int.toNat_natCast, mk_size, List.take_length]
   have e := List.drop_left (l₁ := toS st s) (l₂ := fromS st s)
   rw [ht] at e
   exact e
  rw [e1, e2]
theorem stop_at (st a r : List UInt8) (c : UInt8) (ha : a.all (fun c => !st.contains c) = true) (hc : st.contains c = true) : toS st (a ++ c :: r) = a ∧ fromS st (a ++ c :: r) = c :: r := by
 unfold toS fromS
 have h1 : ∀ x ∈ a, (fun c => !st.contains c) x = true := List.all_eq_true.1 ha
 rw [List.takeWhile_append_of_pos h1, List.dropWhile_append_of_pos h1, List.takeWhile_cons, List.dropWhile_cons]
 simp only [hc, Bool.not_true, Bool.false_eq_true, if_false, List.append_nil]
 exact ⟨trivial, trivial⟩
theorem stop_end (st a : List UInt8) (ha : a.all (fun c => !st.contains c) = true) : toS st a = a ∧ fromS st a = [] := by
 unfold toS fromS
 have h1 : ∀ x ∈ a, (fun c => !st.contains c) x = true := List.all_eq_true.1 ha
 have h2 := List.takeWhile_append_of_pos (l₂ := []) h1
 have h3 := List.dropWhile_append_of_pos (l₂ := []) h1
 simp only [List.append_nil, List.takeWhile_nil, List.dropWhile_nil] at h2 h3
 exact ⟨h2, h3⟩
def RefOK (n : Nat) (r : List UInt8) : Prop := refC (formL (n : Int) ++ r) = ((n : Int), ((formL (n : Int)).length : Int))
theorem ref_0 (r : List UInt8) : refC (formL ((0 : Nat) : Int) ++ r) = (((0 : Nat) : Int), ((formL ((0 : Nat) : Int)).length : Int)) := by kernel_rfl
theorem ref_1 (r : List UInt8) : refC (formL ((1 : Nat) : Int) ++ r) = (((1 : Nat) : Int), ((formL ((1 : Nat) : Int)).length : Int)) := by kernel_rfl
theorem ref_2 (r : List UInt8) : refC (formL ((2 : Nat) : Int) ++ r) = (((2 : Nat) : Int), ((formL ((2 : Nat) : Int)).length : Int)) := by kernel_rfl
theorem ref_3 (r : List UInt8) : refC (formL ((3 : Nat) : Int) ++ r) = (((3 : Nat) : Int), ((formL ((3 : Nat) : Int)).length : Int)) := by kernel_rfl
theorem ref_4 (r : List UInt8) : refC (formL ((4 : Nat) : Int) ++ r) = (((4 : Nat) : Int), ((formL ((4 : Nat) : Int)).length : Int)) := by kernel_rfl
theorem ref_5 (r : List UInt8) : refC (formL ((5 : Nat) : Int) ++ r) = (((5 : Nat) : Int), ((formL ((5 : Nat) : Int)).length : Int)) := by kernel_rfl
theorem ref_6 (r : List UInt8) : refC (formL ((6 : Nat) : Int) ++ r) = (((6 : Nat) : Int), ((formL ((6 : Nat) : Int)).length : Int)) := by kernel_rfl
theorem ref_7 (r : List UInt8) : refC (formL ((7 : Nat) : Int) ++ r) = (((7 : Nat) : Int), ((formL ((7 : Nat) : Int)).length : Int)) := by kernel_rfl
theorem ref_8 (r : List UInt8) : refC (formL ((8 : Nat) : Int) ++ r) = (((8 : Nat) : Int), ((formL ((8 : Nat) : Int)).length : Int)) := by kernel_rfl
theorem ref_9 (r : List UInt8) : refC (formL ((9 : Nat) : Int) ++ r) = (((9 : Nat) : Int), ((formL ((9 : Nat) : Int)).length : Int)) := by kernel_rfl
theorem ref_10 (r : List UInt8) : refC (formL ((10 : Nat) : Int) ++ r) = (((10 : Nat) : Int), ((formL ((10 : Nat) : Int)).length : Int)) := by kernel_rfl
theorem ref_11 (r : List UInt8) : refC (formL ((11 : Nat) : Int) ++ r) = (((11 : Nat) : Int), ((formL ((11 : Nat) : Int)).length : Int)) := by kernel_rfl
theorem ref_12 (r : List UInt8) : refC (formL ((12 : Nat) : Int) ++ r) = (((12 : Nat) : Int), ((formL ((12 : Nat) : Int)).length : Int)) := by kernel_rfl
theorem ref_13 (r : List UInt8) : refC (formL ((13 : Nat) : Int) ++ r) = (((13 : Nat) : Int), ((formL ((13 : Nat) : Int)).length : Int)) := by kernel_rfl
theorem ref_14 (r : List UInt8) : refC (formL ((14 : Nat) : Int) ++ r) = (((14 : Nat) : Int), ((formL ((14 : Nat) : Int)).length : Int)) := by kernel_rfl
theorem ref_15 (r : List UInt8) : refC (formL ((15 : Nat) : Int) ++ r) = (((15 : Nat) : Int), ((formL ((15 : Nat) : Int)).length : Int)) := by kernel_rfl
theorem ref_16 (r : List UInt8) : refC (formL ((16 : Nat) : Int) ++ r) = (((16 : Nat) : Int), ((formL ((16 : Nat) : Int)).length : Int)) := by kernel_rfl
theorem ref_17 (r : List UInt8) : refC (formL ((17 : Nat) : Int) ++ r) = (((17 : Nat) : Int), ((formL ((17 : Nat) : Int)).length : Int)) := by kernel_rfl
theorem ref_18 (r : List UInt8) : refC (formL ((18 : Nat) : Int) ++ r) = (((18 : Nat) : Int), ((formL ((18 : Nat) : Int)).length : Int)) := by kernel_rfl
theorem ref_19 (r : List UInt8) : refC (formL ((19 : Nat) : Int) ++ r) = (((19 : Nat) : Int), ((formL ((19 : Nat) : Int)).length : Int)) := by kernel_rfl
theorem ref_20 (r : List UInt8) : refC (formL ((20 : Nat) : Int) ++ r) = (((20 : Nat) : Int), ((formL ((20 : Nat) : Int)).length : Int)) := by kernel_rfl
theorem ref_21 (r : List UInt8) : refC (formL ((21 : Nat) : Int) ++ r) = (((21 : Nat) : Int), ((formL ((21 : Nat) : Int)).length : Int)) := by kernel_rfl
theorem ref_22 (r : List UInt8) : refC (formL ((22 : Nat) : Int) ++ r) = (((22 : Nat) : Int), ((formL ((22 : Nat) : Int)).length : Int)) := by kernel_rfl
theorem ref_23 (r : List UInt8) : refC (formL ((23 : Nat) : Int) ++ r) = (((23 : Nat) : Int), ((formL ((23 : Nat) : Int)).length : Int)) := by kernel_rfl
theorem ref_24 (r : List UInt8) : refC (formL ((24 : Nat) : Int) ++ r) = (((24 : Nat) : Int), ((formL ((24 : Nat) : Int)).length : Int)) := by kernel_rfl
theorem ref_25 (r : List UInt8) : refC (formL ((25 : Nat) : Int) ++ r) = (((25 : Nat) : Int), ((formL ((25 : Nat) : Int)).length : Int)) := by kernel_rfl
theorem ref_26 (r : List UInt8) : refC (formL ((26 : Nat) : Int) ++ r) = (((26 : Nat) : Int), ((formL ((26 : Nat) : Int)).length : Int)) := by kernel_rfl
theorem ref_27 (r : List UInt8) : refC (formL ((27 : Nat) : Int) ++ r) = (((27 : Nat) : Int), ((formL ((27 : Nat) : Int)).length : Int)) := by kernel_rfl
theorem ref_28 (r : List UInt8) : refC (formL ((28 : Nat) : Int) ++ r) = (((28 : Nat) : Int), ((formL ((28 : Nat) : Int)).length : Int)) := by kernel_rfl
theorem ref_29 (r : List UInt8) : refC (formL ((29 : Nat) : Int) ++ r) = (((29 : Nat) : Int), ((formL ((29 : Nat) : Int)).length : Int)) := by kernel_rfl
theorem ref_30 (r : List UInt8) : refC (formL ((30 : Nat) : Int) ++ r) = (((30 : Nat) : Int), ((formL ((30 : Nat) : Int)).length : Int)) := by kernel_rfl
theorem ref_31 (r : List UInt8) : refC (formL ((31 : Nat) : Int) ++ r) = (((31 : Nat) : Int), ((formL ((31 : Nat) : Int)).length : Int)) := by kernel_rfl
theorem ref_127 (r : List UInt8) : refC (formL ((127 : Nat) : Int) ++ r) = (((127 : Nat) : Int), ((formL ((127 : Nat) : Int)).length : Int)) := by kernel_rfl
theorem ref_38 (r : List UInt8) : refC (formL ((38 : Nat) : Int) ++ r) = (((38 : Nat) : Int), ((formL ((38 : Nat) : Int)).length : Int)) := by kernel_rfl
theorem ref_60 (r : List UInt8) : refC (formL ((60 : Nat) : Int) ++ r) = (((60 : Nat) : Int), ((formL ((60 : Nat) : Int)).length : Int)) := by kernel_rfl
theorem ref_62 (r : List UInt8) : refC (formL ((62 : Nat) : Int) ++ r) = (((62 : Nat) : Int), ((formL ((62 : Nat) : Int)).length : Int)) := by kernel_rfl
theorem ref_34 (r : List UInt8) : refC (formL ((34 : Nat) : Int) ++ r) = (((34 : Nat) : Int), ((formL ((34 : Nat) : Int)).length : Int)) := by kernel_rfl
theorem ref_small (r : List UInt8) : ∀ n : Nat, n < 32 → RefOK n r
 | 0, _ => ref_0 r
 | 1, _ => ref_1 r
 | 2, _ => ref_2 r
 | 3, _ => ref_3 r
 | 4, _ => ref_4 r
 | 5, _ => ref_5 r
 | 6, _ => ref_6 r
 | 7, _ => ref_7 r
 | 8, _ => ref_8 r
 | 9, _ => ref_9 r
 | 10, _ => ref_10 r
 | 11, _ => ref_11 r
 | 12, _ => ref_12 r
 | 13, _ => ref_13 r
 | 14, _ => ref_14 r
 | 15, _ => ref_15 r
 | 16, _ => ref_16 r
 | 17, _ => ref_17 r
 | 18, _ => ref_18 r
 | 19, _ => ref_19 r
 | 20, _ => ref_20 r
 | 21, _ => ref_21 r
 | 22, _ => ref_22 r
 | 23, _ => ref_23 r
 | 24, _ => ref_24 r
 | 25, _ => ref_25 r
 | 26, _ => ref_26 r
 | 27, _ => ref_27 r
 | 28, _ => ref_28 r
 | 29, _ => ref_29 r
 | 30, _ => ref_30 r
 | 31, _ => ref_31 r
 | n + 32, h => absurd h (by omega)
theorem refC_form (c : UInt8) (h : formL (c.toNat : Int) ≠ []) (r : List UInt8) : refC (formL (c.toNat : Int) ++ r) = ((c.toNat : Int), ((formL (c.toNat : Int)).length : Int)) := by
 have hc : c.toNat < 32 ∨ c.toNat = 127 ∨ c.toNat = 38 ∨ c.toNat = 60 ∨ c.toNat = 62 ∨ c.toNat = 34 := by
  have hf : ∀ c : Fin 256, formL (c.val : Int) ≠ [] → c.val < 32 ∨ c.val = 127 ∨ c.val = 38 ∨ c.val = 60 ∨ c.val = 62 ∨ c.val = 34 := by decide +kernel
  exact hf ⟨c.toNat, c.toNat_lt⟩ h
 show RefOK c.toNat r
 rcases hc with hc | hc | hc | hc | hc | hc
 ·exact ref_small r _ hc
 ·rw [hc]; exact ref_127 r
 ·rw [hc]; exact ref_38 r
 ·rw [hc]; exact ref_60 r
 ·rw [hc]; exact ref_62 r
 ·rw [hc]; exact ref_34 r
theorem form_head (c : UInt8) (h : formL (c.toNat : Int) ≠ []) : ∃ t, formL (c.toNat : Int) = 38 :: t := by
 have hf : ∀ c : Fin 256, formL (c.val : Int) ≠ [] → (formL (c.val : Int)).head? = some 38 := by decide +kernel
 have := hf ⟨c.toNat, c.toNat_lt⟩ h
 cases hh : formL (c.toNat : Int) with
 | nil => exact absurd hh h
 | cons a t =>
  simp only [hh, List.head?_cons, Option.some.injEq] at this
  exact ⟨t, by rw [this]⟩
theorem form_38 : formL 38 ≠ [] := by decide +kernel
theorem unesc_esc : ∀ (l : List UInt8) (k : Nat) (acc : List UInt8) (i : Nat), (escL l).length ≤ k → unescL (escL l) k acc i = .ok (acc ++ l)
 | [], k, acc, i, _ => by
  cases k <;> simp [escL, unescL]
 | c :: l, k, acc, i, hk => by
  rw [escL_cons] at hk ⊢
  have hp := (put_len c).1
  rw [List.length_append] at hk
  obtain ⟨k, rfl⟩ : ∃ m, k = m + 1 := ⟨k - 1, by omega⟩
  by_cases hf : formL (c.toNat : Int) = []
  ·have hput : putL c = [c] := by unfold putL; rw [if_pos hf]
   have hn : c.toNat ≠ 38 := by intro h; rw [h] at hf; exact form_38 hf
   rw [hput] at hk ⊢
   rw [List.cons_append, List.nil_append, unescL]
   simp only [hn, if_false, hf, ne_eq, not_true_eq_false]
   rw [unesc_esc l k (acc ++ [c]) (i + 1) (by simp only [List.length_cons, List.length_nil] at hk; omega), List.append_assoc]
   rfl
  ·have hput : putL c = formL (c.toNat : Int) := by unfold putL; rw [if_neg hf]
   obtain ⟨t, ht⟩ := form_head c hf
   have hr := refC_form c hf (escL l)
   rw [hput, ht] at hk ⊢
   rw [ht] at hr
   rw [List.cons_append, unescL]
   simp only [show (38 : UInt8).toNat = 38 from rfl, if_true]
   rw [← List.cons_append, hr]
   have hz : ¬ (((38 :: t).length : Int) = 0) := by simp only [List.length_cons]; omega
   simp only [hz, if_false, Int.toNat_natCast, List.drop_left]
   rw [unesc_esc l k _ _ (by rw [List.length_cons] at hk; omega)]
   simp
theorem unescape_spec (l : List UInt8) (h : l.length ≤ 100000000) : escape_Unescape.f (mk (escL l)) = some (mk l, 0, 0) := by
 have hl := escL_len l
 unfold escape_Unescape.f
 rw [mk_size, if_pos (by omega), mk_list, unesc_esc l _ [] 0 (Nat.le_refl _)]
 rfl
theorem text_back (l r : List UInt8) (h : l.length ≤ 100000000) : query_reader_text.f (mk (escL l ++ 34 :: r)) false = some (mk l, mk r, false) := by
 have hq := escL_quote l
 have hs := stop_at [34] (escL l) r 34 (by
  rw [List.all_eq_true]
  intro x hx
  have : x ≠ 34 := by
   intro e
   subst e
   simp only [List.contains_eq_mem, decide_eq_false_iff_not] at hq
   exact hq hx
  simpa using this) rfl
 unfold query_reader_text.f
 rw [show (⟨#[34]⟩ : ByteArray) = mk [34] from rfl, run_spec _ _ _ rfl, hs.1, hs.2]
 simp only [Option.bind_some, unescape_spec l h, if_true]
 rw [is_spec]
 simp [List.isPrefixOf]
theorem name_stop : ∀ c : Fin 256, nmC nameO (UInt8.ofNat c.val) = true → ([61, 93] : List UInt8).contains (UInt8.ofNat c.val) = false := by decide +kernel
theorem tag_stop : ∀ c : Fin 256, nmC tagO (UInt8.ofNat c.val) = true → ([35, 91, 62, 32] : List UInt8).contains (UInt8.ofNat c.val) = false ∧ UInt8.ofNat c.val ≠ 42 := by decide +kernel
theorem nm_all {o s : List UInt8} (h : nm o s = true) : s.all (nmC o) = true ∧ s ≠ [] := by
 unfold nm at h
 simp only [Bool.and_eq_true, Bool.not_eq_true', List.isEmpty_eq_false_iff] at h
 exact ⟨h.2, h.1.1.1⟩
theorem name_stops {s : List UInt8} (h : nm nameO s = true) : s.all (fun c => !([61, 93] : List UInt8).contains c) = true := by
 rw [List.all_eq_true]
 intro c hc
 have h1 := List.all_eq_true.1 (nm_all h).1 c hc
 have h2 := name_stop ⟨c.toNat, c.toNat_lt⟩
 simp only [UInt8.ofNat_toNat] at h2
 rw [h2 h1]
 rfl
theorem tag_stops {s : List UInt8} (h : nm tagO s = true) : s.all (fun c => !([35, 91, 62, 32] : List UInt8).contains c) = true ∧ ∀ c ∈ s, c ≠ 42 := by
 refine ⟨List.all_eq_true.2 fun c hc => ?_, fun c hc => ?_⟩ <;> (
  have h1 := List.all_eq_true.1 (nm_all h).1 c hc
  have h2 := tag_stop ⟨c.toNat, c.toNat_lt⟩
  simp only [UInt8.ofNat_toNat] at h2)
 ·rw [(h2 h1).1]; rfl
 ·exact (h2 h1).2
theorem is_yes (t r : List UInt8) (b : Bool) : qjb.f (mk (t ++ r)) b (mk t) = some (true, mk r, b) := by
 rw [is_spec]
 have : t.isPrefixOf (t ++ r) = true := by rw [List.isPrefixOf_iff_prefix]; exact List.prefix_append t r
 rw [this, if_pos rfl, List.drop_left]
theorem is_no (c : UInt8) (t s : List UInt8) (b : Bool) (h : ∀ r, s ≠ c :: r) : qjb.f (mk s) b (mk (c :: t)) = some (false, mk s, b) := by
 rw [is_spec]
 have : (c :: t).isPrefixOf s = false := by
  rw [Bool.eq_false_iff]
  intro hp
  rw [List.isPrefixOf_iff_prefix] at hp
  obtain ⟨q, hq⟩ := hp
  exact h _ hq.symm
 rw [this]
 rfl
def condT (c : S50) : List UInt8 := c.f0.data.toList ++ ((if c.f2 = true then [61, 34] ++ escL c.f1.data.toList ++ [34] else []) ++ [93])
theorem condL_eq (c : S50) : condL c = 91 :: condT c := by unfold condL condT; simp
theorem cond_back (c : S50) (hc : condOK c = true) (r : List UInt8) : part_cond.f (mk (condT c ++ r)) false = some (c, mk r, false) := by
 have hl := condOK_len hc
 unfold condOK at hc
 simp only [Bool.and_eq_true, Bool.or_eq_true, decide_eq_true_eq] at hc
 obtain ⟨⟨hn, _⟩, hv⟩ := hc
 have hns := name_stops hn
 obtain ⟨c0, c1, c2⟩ := c
 dsimp only at *
 unfold part_cond.f condT
 rw [show (⟨#[61, 93]⟩ : ByteArray) = mk [61, 93] from rfl, show (⟨#[61, 34]⟩ : ByteArray) = mk [61, 34] from rfl, show (⟨#[93]⟩ : ByteArray) = mk [93] from rfl, run_spec _ _ _ rfl]
 cases c2
 ·have h1 : c1.data.toList = [] := by
   rcases hv with h | h
   ·cases h
   ·rwa [List.isEmpty_iff] at h
  have hs := stop_at [61, 93] c0.data.toList r 93 hns rfl
  simp only [Bool.false_eq_true, if_false, List.nil_append, List.append_assoc, List.cons_append]
  rw [hs.1, hs.2]
  simp only [Option.bind_some]
  rw [is_no 61 [34] (93 :: r) false (by intro q h; cases h)]
  simp only [Option.bind_some, Bool.false_eq_true, if_false]
  rw [show (93 :: r) = [93] ++ r from rfl, is_yes [93] r false, mk_of]
  simp only [Option.bind_some, Bool.not_true]
  rw [show c1 = ⟨#[]⟩ from ba_ext h1]
 ·have hs := stop_at [61, 93] c0.data.toList (34 :: (escL c1.data.toList ++ (34 :: 93 :: r))) 61 hns rfl
  simp only [if_true, List.append_assoc, List.cons_append, List.nil_append]
  rw [hs.1, hs.2]
  simp only [Option.bind_some]
  rw [show (61 :: 34 :: (escL c1.data.toList ++ (34 :: 93 :: r))) = [61, 34] ++ (escL c1.data.toList ++ (34 :: 93 :: r)) from rfl, is_yes [61, 34] _ false]
  simp only [Option.bind_some, if_true]
  rw [text_back c1.data.toList (93 :: r) zz0]
  simp only [Option.bind_some, Bool.false_eq_true, if_false]
  rw [show (93 :: r) = [93] ++ r from rfl, is_yes [93] r false, mk_of, mk_of]
  simp only [Option.bind_some, Bool.not_true]
theorem conds_back (r : List UInt8) (hr : ∀ q, r ≠ 91 :: q) : ∀ (cs : List S50) (k : Nat) (acc : List S50), cs.all condOK = true → acc.length + cs.length ≤ 8 → cs.length < k → part_conds.f k acc (mk (cs.flatMap condL ++ r)) false = some (acc ++ cs, mk r, false)
 | [], k, acc, _, hl, hk => by
  obtain ⟨k, rfl⟩ : ∃ m, k = m + 1 := ⟨k - 1, by omega⟩
  rw [part_conds.f]
  simp only [Bool.false_eq_true, if_false, List.flatMap_nil, List.nil_append, List.append_nil]
  simp only [List.length_nil] at hl
  rw [if_pos (by omega), show (⟨#[91]⟩ : ByteArray) = mk [91] from rfl, is_no 91 [] r false hr]
  simp only [Option.bind_some, Bool.false_eq_true, if_false]
 | c :: cs, k, acc, hc, hl, hk => by
  obtain ⟨k, rfl⟩ : ∃ m, k = m + 1 := ⟨k - 1, by omega⟩
  rw [List.all_cons, Bool.and_eq_true] at hc
  rw [List.length_cons] at hl hk
  rw [part_conds.f]
  simp only [Bool.false_eq_true, if_false]
  rw [if_pos (by omega), show (⟨#[91]⟩ : ByteArray) = mk [91] from rfl, List.flatMap_cons, condL_eq, List.append_assoc, show 91 :: condT c ++ (cs.flatMap condL ++ r) = [91] ++ (condT c ++ (cs.flatMap condL ++ r)) from rfl, is_yes [91] _ false]
  simp only [Option.bind_some, if_true]
  rw [cond_back c hc.1]
  simp only [Option.bind_some]
  rw [conds_back r hr cs k (acc ++ [c]) hc.2 (by rw [List.length_append]; simp only [List.length_cons, List.length_nil]; omega) (by omega), List.append_assoc]
  rfl
def Behind (r : List UInt8) : Prop := r = [] ∨ (∃ q, r = 62 :: q) ∨ ∃ q, r = 32 :: q
theorem behind_stop {r : List UInt8} (h : Behind r) : r = [] ∨ ∃ c q, r = c :: q ∧ ([35, 91, 62, 32] : List UInt8).contains c = true ∧ c ≠ 35 ∧ c ≠ 91 := by
 rcases h with h | ⟨q, h⟩ | ⟨q, h⟩
 ·exact .inl h
 ·exact .inr ⟨62, q, h, rfl, by decide, by decide⟩
 ·exact .inr ⟨32, q, h, rfl, by decide, by decide⟩
theorem conds_head (cs : List S50) {r : List UInt8} (h : Behind r) : cs.flatMap condL ++ r = [] ∨ ∃ c q, cs.flatMap condL ++ r = c :: q ∧ ([35, 91, 62, 32] : List UInt8).contains c = true ∧ c ≠ 35 := by
 cases cs with
 | nil =>
  rcases behind_stop h with h | ⟨c, q, h, h1, h2, _⟩
  ·exact .inl (by rw [h]; rfl)
  ·exact .inr ⟨c, q, by rw [h]; rfl, h1, h2⟩
 | cons a cs => exact .inr ⟨91, condT a ++ (cs.flatMap condL ++ r), by rw [List.flatMap_cons, condL_eq]; simp, rfl, by decide⟩
def bodyL (p : S48) : List UInt8 := tagL p ++ keyL p ++ p.f4.flatMap condL
theorem key_back (p : S48) (hk : (p.f1 == !p.f3.data.toList.isEmpty) = true) (hs : p.f3.size ≤ 65536) (r : List UInt8) (hr : ∀ q, r ≠ 35 :: q) :
  ((qjb.f (mk (keyL p ++ r)) false (mk [35, 34])).bind fun y => (if y.1 = true then query_reader_text.f y.2.1 y.2.2 else some (⟨#[]⟩, y.2.1, y.2.2)).bind fun z => some (y.1, z)) = some (p.f1, p.f3, mk r, false) := by
 unfold keyL
 cases h1 : p.f1
 ·rw [h1] at hk
  have h3 : p.f3.data.toList = [] := by
   cases h : p.f3.data.toList with
   | nil => rfl
   | cons a b => rw [h] at hk; cases hk
  simp only [Bool.false_eq_true, if_false, List.nil_append]
  rw [is_no 35 [34] r false hr]
  simp only [Option.bind_some, Bool.false_eq_true, if_false]
  rw [show p.f3 = ⟨#[]⟩ from ba_ext h3]
 ·simp only [if_true, List.append_assoc]
  rw [is_yes [35, 34] _ false]
  simp only [Option.bind_some, if_true]
  rw [show ([34] : List UInt8) ++ r = 34 :: r from rfl, text_back p.f3.data.toList r zz0, mk_of]
  rfl
theorem part_back (p : S48) (hp : partOK p = true) (r : List UInt8) (hr : Behind r) : qac.f (mk (bodyL p ++ r)) false = some (false, p.f1, p.f2, p.f3, p.f4, mk r, false) := by
 rw [partOK_head, Bool.and_eq_true] at hp
 obtain ⟨hh, hcs⟩ := hp
 obtain ⟨h2, h3, h4⟩ := headOK_len hh
 unfold headOK at hh
 simp only [Bool.and_eq_true, Bool.or_eq_true, decide_eq_true_eq] at hh
 obtain ⟨⟨⟨htag, hkey⟩, _⟩, _⟩ := hh
 have hr91 : ∀ q, r ≠ 91 :: q := by
  intro q h
  rcases behind_stop hr with h1 | ⟨c, q1, h1, _, _, h5⟩
  ·rw [h1] at h; cases h
  ·rw [h1] at h; injection h with h _; exact h5 h
 have hc35 : ∀ q, p.f4.flatMap condL ++ r ≠ 35 :: q := by
  intro q h
  rcases conds_head p.f4 hr with h1 | ⟨c, q1, h1, _, h5⟩
  ·rw [h1] at h; cases h
  ·rw [h1] at h; injection h with h _; exact h5 h
 have hkb := key_back p hkey h3 (p.f4.flatMap condL ++ r) hc35
 have hcb := conds_back r hr91 p.f4 10 [] hcs (by simp only [List.length_nil]; omega) (by omega)
 have hbody : bodyL p ++ r = tagL p ++ (keyL p ++ (p.f4.flatMap condL ++ r)) := by unfold bodyL; simp only [List.append_assoc]
 have htb : ((qjb.f (mk (bodyL p ++ r)) false (mk [42])).bind fun x => (if x.1 = true then some ((⟨#[]⟩ : ByteArray), x.2.1, x.2.2) else (qpc.f x.2.1 x.2.2 (mk [35, 91, 62, 32])).bind fun t => some (t.1, t.2.1, t.2.2 || t.1.data.toList.isEmpty))) = some (p.f2, mk (keyL p ++ (p.f4.flatMap condL ++ r)), false) := by
  rw [hbody]
  unfold tagL
  by_cases ht : p.f2.data.toList = []
  ·rw [if_pos (by rw [Lib.toList_data]; exact ht), ht, List.append_nil, is_yes [42] _ false]
   simp only [Option.bind_some, if_true]
   rw [show p.f2 = ⟨#[]⟩ from ba_ext ht]
  ·have htn : nm tagO p.f2.data.toList = true := by
    rcases htag with h | h
    ·rw [List.isEmpty_iff] at h; exact absurd h ht
    ·exact h
   obtain ⟨hs1, hs2⟩ := tag_stops htn
   have he : p.f2.data.toList.isEmpty = false := by rw [List.isEmpty_eq_false_iff]; exact ht
   rw [if_neg (by rw [Lib.toList_data]; exact ht), List.nil_append, is_no 42 [] _ false (by
    intro q h
    cases hf : p.f2.data.toList with
    | nil => exact ht hf
    | cons a b =>
     rw [hf] at h
     injection h with h _
     exact hs2 a (by rw [hf]; exact List.mem_cons_self ..) h)]
   simp only [Option.bind_some, Bool.false_eq_true, if_false]
   rw [run_spec _ _ _ rfl]
   have hst : toS [35, 91, 62, 32] (p.f2.data.toList ++ (keyL p ++ (p.f4.flatMap condL ++ r))) = p.f2.data.toList ∧ fromS [35, 91, 62, 32] (p.f2.data.toList ++ (keyL p ++ (p.f4.flatMap condL ++ r))) = keyL p ++ (p.f4.flatMap condL ++ r) := by
    unfold keyL
    cases p.f1
    ·simp only [Bool.false_eq_true, if_false, List.nil_append]
     rcases conds_head p.f4 hr with h1 | ⟨c, q1, h1, h5, _⟩
     ·rw [h1, List.append_nil]
      exact stop_end _ _ hs1
     ·rw [h1]
      exact stop_at _ _ _ _ hs1 h5
    ·simp only [if_true, List.append_assoc, List.cons_append, List.nil_append]
     exact stop_at _ _ _ _ hs1 rfl
   rw [hst.1, hst.2, mk_of]
   simp only [Option.bind_some, he, Bool.or_false]
 unfold qac.f
 obtain ⟨x, hx, hx2⟩ := Option.bind_eq_some_iff.1 htb
 rw [show (⟨#[42]⟩ : ByteArray) = mk [42] from rfl, show (⟨#[35, 91, 62, 32]⟩ : ByteArray) = mk [35, 91, 62, 32] from rfl, show (⟨#[35, 34]⟩ : ByteArray) = mk [35, 34] from rfl, hx]
 simp only [Option.bind_some]
 rw [hx2]
 simp only [Option.bind_some]
 obtain ⟨y, hy, hy2⟩ := Option.bind_eq_some_iff.1 hkb
 obtain ⟨z, hz, hz2⟩ := Option.bind_eq_some_iff.1 hy2
 rw [hy]
 simp only [Option.bind_some]
 rw [hz]
 simp only [Option.some.injEq, Prod.mk.injEq] at hz2
 obtain ⟨h5, h6⟩ := hz2
 simp only [Option.bind_some, h6]
 rw [hcb]
 simp only [Option.bind_some, h5, List.nil_append]
theorem partL_eq (b : Bool) (p : S48) : partL b p = headL b p ++ bodyL p := by unfold partL bodyL; simp only [List.append_assoc]
theorem rest_behind (l : List S48) : Behind (l.flatMap (partL false)) := by
 cases l with
 | nil => exact .inl rfl
 | cons p r =>
  rw [List.flatMap_cons, partL_eq]
  unfold headL
  cases p.f0
  ·exact .inr (.inr ⟨_, rfl⟩)
  ·exact .inr (.inl ⟨_, rfl⟩)
theorem parse_loop : ∀ (rest done : List S48), selOK (done ++ rest) = true → done ≠ [] → Ev (fun k => qbb.l0 k done (mk (rest.flatMap (partL false))) false) (done ++ rest, 0)
 | [], done, hok, hd => by
  rw [List.append_nil] at hok ⊢
  have hl := (selOK_parts hok).1
  have hc : ∀ k, 12 ≤ k → qx.f k done = some 0 := fun k hk => by rw [check_spec done k hk, hok]; rfl
  refine Ev.late (f := fun k => qbb.j1 k done true (mk []) false) 0 (fun k _ => ?_) (Ev.late (f := fun _ => some (done, 0)) 12 (fun k hk => ?_) (Ev.now _))
  ·simp only [qbb.l0, Bool.false_eq_true, if_false, List.flatMap_nil]
   rw [decide_eq_true (by omega)]
  ·simp only [qbb.j1, if_true]
   rw [show (⟨#[62]⟩ : ByteArray) = mk [62] from rfl, show (⟨#[32]⟩ : ByteArray) = mk [32] from rfl, is_no 62 [] [] false (by intro q h; cases h)]
   simp only [Option.bind_some, Bool.false_eq_true, if_false]
   rw [is_no 32 [] [] false (by intro q h; cases h)]
   simp only [Option.bind_some, Bool.false_eq_true, if_false]
   rw [if_pos (mk_toList []), hc k hk]
   simp
 | p :: rest, done, hok, hd => by
  have e : done ++ p :: rest = (done ++ [p]) ++ rest := by rw [List.append_assoc]; rfl
  obtain ⟨hl, hps⟩ := selOK_parts hok
  rw [List.length_append, List.length_cons] at hl
  have hpok : partOK p = true := List.all_eq_true.1 hps p (List.mem_append_right _ (List.mem_cons_self ..))
  rw [e] at hok ⊢
  have ih := parse_loop rest (done ++ [p]) hok (by simp)
  have hpb := part_back p hpok (rest.flatMap (partL false)) (rest_behind rest)
  refine Ev.late (f := fun k => qbb.j1 k done true (mk (headL false p ++ (bodyL p ++ rest.flatMap (partL false)))) false) 0 (fun k _ => ?_) (Ev.late 0 (fun k _ => ?_) ih)
  ·simp only [qbb.l0, Bool.false_eq_true, if_false]
   rw [decide_eq_true (by omega), List.flatMap_cons, partL_eq, List.append_assoc]
  ·simp only [qbb.j1, if_true]
   rw [show (⟨#[62]⟩ : ByteArray) = mk [62] from rfl, show (⟨#[32]⟩ : ByteArray) = mk [32] from rfl]
   obtain ⟨p0, p1, p2, p3, p4⟩ := p
   unfold headL
   dsimp only at *
   cases p0
   ·simp only [Bool.false_eq_true, if_false]
    rw [is_no 62 [] _ false (by intro q h; cases h)]
    simp only [Option.bind_some, Bool.false_eq_true, if_false]
    rw [is_yes [32] _ false]
    simp only [Option.bind_some, if_true]
    rw [hpb]
    simp only [Option.bind_some]
    rw [if_pos (by omega)]
   ·simp only [if_true]
    rw [is_yes [62] _ false]
    simp only [Option.bind_some, if_true]
    rw [hpb]
    simp only [Option.bind_some]
    rw [if_pos (by omega)]
theorem parse_back (l : List S48) (h : selOK l = true) : Ev (fun k => qbb.f k (mk (selL l))) (l, 0) := by
 cases l with
 | nil => unfold selOK at h; simp at h
 | cons p r =>
  have hp0 : p.f0 = false := by
   unfold selOK at h
   simp only [Bool.and_eq_true, Bool.not_eq_true'] at h
   exact h.1.2
  have hpok : partOK p = true := List.all_eq_true.1 (selOK_parts h).2 p (List.mem_cons_self ..)
  have hpb := part_back p hpok (r.flatMap (partL false)) (rest_behind r)
  have h1 := parse_loop r [p] h (by simp)
  refine Ev.congr (fun k => ?_) h1
  unfold qbb.f
  rw [show selL (p :: r) = partL true p ++ r.flatMap (partL false) from rfl, partL_eq, List.append_assoc]
  unfold headL
  rw [hp0]
  simp only [Bool.false_eq_true, if_false, if_true, List.nil_append]
  rw [hpb]
  obtain ⟨p0, p1, p2, p3, p4⟩ := p
  dsimp only at *
  subst hp0
  rfl
end Go.Proofs.YtjbobecnlpiejaaGreatDoor.Q.P
namespace Go.Proofs.YtjbobecnlpiejaaGreatDoor.Q
open Go.Proofs.YtjbobecnlpiejaaGreatDoorZ
open Go.RowKit Go.Proofs.YtjbobecnlpiejaaGreatDoorW.PrintWords Go.Proofs.YtjbobecnlpiejaaGreatDoorW.PrintLast Go.Proofs.YtjbobecnlpiejaaGreatDoorW.PrintMore
attribute [local go_sem] qvb qwb qzb qyb
mutual
def qub.l0 : Nat → List (S53) → List (S53) → Int → Int → Option (Bool)
 | 0, _, _, _, _ => none
 | k + 1, x0, x6, x7, x8 => if x8 < x7 then (if 0 ≤ x8 then (if x8 < (x6.length : Int) then (qub.l1 k x0 x8 x8 x6 x7 x8 ((qi x6 x8).f0) ((qi x6 x8).f1) ((qi x6 x8).f2) ((qi x6 x8).f3) ((qi x6 x8).f4) ((qi x6 x8).f5)) else (none)) else (none)) else (some true)
def qub.l1 : Nat → List (S53) → Int → Int → List (S53) → Int → Int → Int → Int → ByteArray → ByteArray → ByteArray → List (S55) → Option (Bool)
 | 0, _, _, _, _, _, _, _, _, _, _, _, _ => none
 | k + 1, x0, x3, x5, x6, x7, x8, x186000, x186001, x186002, x186003, x186004, x186005 => if x5 = 0 then (if x5 = x186001 then (if x3 = 0 then (qub.l0 k x0 x6 x7 (wrap64 (x8 + 1))) else (some false)) else (some false)) else (if x5 = x186001 then (if x3 = 0 then (some false) else (qub.l0 k x0 x6 x7 (wrap64 (x8 + 1)))) else (if 0 ≤ (wrap64 (x5 - 1)) then (if (wrap64 (x5 - 1)) < (x0.length : Int) then (qub.l1 k x0 x3 ((qi x0 (wrap64 (x5 - 1))).f1) x6 x7 x8 x186000 x186001 x186002 x186003 x186004 x186005) else (none)) else (none)))
end
def qub.f (k : Nat) (l0 : List (S53)) : Option (Bool) := qub.l0 k l0 l0 (l0.length : Int) 0
theorem qub.mono_l : ∀ k, (∀ y0 y1 y2 y3, LeO (qub.l0 k y0 y1 y2 y3) (qub.l0 (k + 1) y0 y1 y2 y3)) ∧ (∀ y0 y1 y2 y3 y4 y5 y6 y7 y8 y9 y10 y11, LeO (qub.l1 k y0 y1 y2 y3 y4 y5 y6 y7 y8 y9 y10 y11) (qub.l1 (k + 1) y0 y1 y2 y3 y4 y5 y6 y7 y8 y9 y10 y11))
 | 0 => ⟨fun _ _ _ _ r h => by simp [qub.l0] at h, fun _ _ _ _ _ _ _ _ _ _ _ _ r h => by simp [qub.l1] at h⟩
 | k + 1 => by
  obtain ⟨ih0, ih1⟩ := qub.mono_l k
  refine ⟨?_, ?_⟩
  ·intro y0 y1 y2 y3
   unfold qub.l0
   repeat' first
   | (with_reducible exact ih0 _ _ _ _)
   | (with_reducible exact ih1 _ _ _ _ _ _ _ _ _ _ _ _)
   | (with_reducible exact LeO.refl _)
   | (with_reducible exact LeO.none _)
   | (with_reducible refine LeO.ite ?_ ?_)
   | (with_reducible refine LeO.bind ?_ (fun _ => ?_))
   | exact ih0 _ _ _ _
   | exact ih1 _ _ _ _ _ _ _ _ _ _ _ _
   | exact LeO.none _
   | refine LeO.ite ?_ ?_
   | refine LeO.bind ?_ (fun _ => ?_)
  ·intro y0 y1 y2 y3 y4 y5 y6 y7 y8 y9 y10 y11
   unfold qub.l1
   repeat' first
   | (with_reducible exact ih0 _ _ _ _)
   | (with_reducible exact ih1 _ _ _ _ _ _ _ _ _ _ _ _)
   | (with_reducible exact LeO.refl _)
   | (with_reducible exact LeO.none _)
   | (with_reducible refine LeO.ite ?_ ?_)
   | (with_reducible refine LeO.bind ?_ (fun _ => ?_))
   | exact ih0 _ _ _ _
   | exact ih1 _ _ _ _ _ _ _ _ _ _ _ _
   | exact LeO.none _
   | refine LeO.ite ?_ ?_
   | refine LeO.bind ?_ (fun _ => ?_)
theorem qub.mono : ∀ a0 k, LeO (qub.f k a0) (qub.f (k + 1) a0) := by
 intro a0 k
 obtain ⟨ih0, ih1⟩ := qub.mono_l k
 unfold qub.f
 repeat' first
   | (with_reducible exact ih0 _ _ _ _)
   | (with_reducible exact ih1 _ _ _ _ _ _ _ _ _ _ _ _)
   | (with_reducible exact LeO.refl _)
   | (with_reducible exact LeO.none _)
   | (with_reducible refine LeO.ite ?_ ?_)
   | (with_reducible refine LeO.bind ?_ (fun _ => ?_))
   | exact ih0 _ _ _ _
   | exact ih1 _ _ _ _ _ _ _ _ _ _ _ _
   | exact LeO.none _
   | refine LeO.ite ?_ ?_
   | refine LeO.bind ?_ (fun _ => ?_)
set_option maxHeartbeats 8000000 in
set_option maxRecDepth 100000 in
theorem qub.calls (k : Nat) (A0 : Option Addr) (c0 : Nat) (l0 : List (S53)) (r : Bool) (w : World) (hr0 : Kd.C k53 w A0 l0.length l0) (hc0 : l0.length ≤ c0) (h : qub.f k l0 = some r) :
  Calls Tryz.prog 64 #[.slice A0 l0.length c0] w fun e w' => e = .returned (.bool r) ∧ Below w.heap.size w w' := by
 have hu53 := Tryz.underlying53
 have HR0 := qa.mk hr0
 have HC0 := qa.mk hc0
 clear hr0 hc0
 have HB := qa.mk (Below.refl w.heap.size w)
 have H : (qub.l0 k l0 l0 (l0.length : Int) 0) = some r := h
 clear h
 have H' := qa.mk H
 clear H
 go_enter Tryz.func64, Tryz.ntmps64
 go_wp2
 go_loopg [8] k (fun kq v8 w' => ∃ (x8_1 : Int), v8 = .int .i64 x8_1 ∧ qa (qub.l0 kq l0 l0 (l0.length : Int) x8_1 = some r) ∧ qa (kq ≤ k) ∧ qa (Below w.heap.size w w'))
 case atStart => exact ⟨(0), zz7, H', ⟨Nat.le_refl _⟩, ⟨zz52⟩⟩
 case round =>
  clear H'
  obtain ⟨x8_1, rfl, HA, HK1, HB⟩ := hrel
  cases gk with
  | zero => exact absurd HA.out (by simp [qub.l0])
  | succ k1 =>
   have H := HA.out
   clear HA
   simp only [qub.l0] at H
   by_cases c2 : x8_1 < (l0.length : Int)
   ·rw [if_pos c2] at H
    have c2b0 : decide (x8_1 < (l0.length : Int)) = true := decide_eq_true c2
    clear c2
    by_cases c3 : 0 ≤ x8_1
    ·rw [if_pos c3] at H
     have c3b0 : decide (0 ≤ x8_1) = true := decide_eq_true c3
     clear c3
     by_cases c4 : x8_1 < (l0.length : Int)
     ·rw [if_pos c4] at H
      have c4b0 : decide (x8_1 < (l0.length : Int)) = true := decide_eq_true c4
      clear c4
      have H' := qa.mk H
      clear H
      have p184 : 0 ≤ (x8_1 : Int) := of_decide_eq_true zz12
      have q184 : x8_1 < (l0.length : Int) := of_decide_eq_true zz12
      obtain ⟨ad184, A184_5, c184_5, e184, hx184_0, hx184_1, hx184_2, hx184_3, hx184_4, hx184_5, hl184_5, hi184_5⟩ := at_T53 HR0.out x8_1 p184 q184
      cases e184
      replace hx184_0 := (HB.out.cell (qwc w _ hx184_0)).trans hx184_0
      replace hx184_1 := (HB.out.cell (qwc w _ hx184_1)).trans hx184_1
      replace hx184_2 := (HB.out.cell (qwc w _ hx184_2)).trans hx184_2
      replace hx184_3 := (HB.out.cell (qwc w _ hx184_3)).trans hx184_3
      replace hx184_4 := (HB.out.cell (qwc w _ hx184_4)).trans hx184_4
      replace hx184_5 := (HB.out.cell (qwc w _ hx184_5)).trans hx184_5
      have HR184_5 := qa.mk hi184_5
      have HC184_5 := qa.mk hl184_5
      clear hi184_5 hl184_5
      replace p184 := eq_true p184
      replace q184 := eq_true q184
      go_wp2_with (first | ((with_reducible refine qfb (N := 4) rfl ?_); refine qlb ?hg (N := 4) ?hd (cs := #[.int .i64 0, .int .i64 0, .string (⟨#[]⟩ : ByteArray), .string (⟨#[]⟩ : ByteArray), .string (⟨#[]⟩ : ByteArray), .slice none 0 0]) (t := 53) ?hr ?_; (case hd => rfl); (case hg => rfl); (case hr => exact zz6); intro gb185 hg w5 hbox hb; have n0_ := qa.mk (qp zz52 hb); have n1_ := qa.mk (hbox); have n2_ := qa.mk ((by rw [hg]; exact (qo zz52) : w.heap.size ≤ gb185)); have n3_ := qa.mk ((by rw [hg]; exact (qo zz52) : w.heap.size ≤ gb185)); clear HB; have HB := n0_; have BK185 := n1_; have GW185 := n2_; have GE185 := n3_; clear n0_ n1_ n2_ n3_; clear hb hbox hg; have hcz6_0 : w5.cell? ⟨gb185, 0, none⟩ = some (.int .i64 0) := (qh BK185.out 0).trans rfl; have hcz6_1 : w5.cell? ⟨gb185, 1, none⟩ = some (.int .i64 0) := (qh BK185.out 1).trans rfl; have hcz6_2 : w5.cell? ⟨gb185, 2, none⟩ = some (.string (⟨#[]⟩ : ByteArray)) := (qh BK185.out 2).trans rfl; have hcz6_3 : w5.cell? ⟨gb185, 3, none⟩ = some (.string (⟨#[]⟩ : ByteArray)) := (qh BK185.out 3).trans rfl; have hcz6_4 : w5.cell? ⟨gb185, 4, none⟩ = some (.string (⟨#[]⟩ : ByteArray)) := (qh BK185.out 4).trans rfl; have hcz6_5 : w5.cell? ⟨gb185, 5, none⟩ = some (.slice none 0 0) := (qh BK185.out 5).trans rfl; have hfz6_0 := qf BK185.out 0; have hfz6_1 := qf BK185.out 1; have hfz6_2 := qf BK185.out 2; have hfz6_3 := qf BK185.out 3; have hfz6_4 := qf BK185.out 4; have hfz6_5 := qf BK185.out 5))
      go_loopg [5] k1 (fun kq v5 w' => ∃ (x5_2 : Int), v5 = .int .i64 x5_2 ∧ qa (qub.l1 kq l0 x8_1 x5_2 l0 (l0.length : Int) x8_1 ((qi l0 x8_1).f0) ((qi l0 x8_1).f1) ((qi l0 x8_1).f2) ((qi l0 x8_1).f3) ((qi l0 x8_1).f4) ((qi l0 x8_1).f5) = some r) ∧ qa (kq ≤ k1) ∧ qa (w'.heap[gb185]? = some (.cells #[.int .i64 ((qi l0 x8_1).f0), .int .i64 ((qi l0 x8_1).f1), .string ((qi l0 x8_1).f2), .string ((qi l0 x8_1).f3), .string ((qi l0 x8_1).f4), (.slice A184_5 ((qi l0 x8_1).f5).length c184_5)] 53 (0, 0))) ∧ qa (Below w.heap.size w w'))
      case atStart => exact ⟨(x8_1), zz7, H', ⟨Nat.le_refl _⟩, ⟨by (with_reducible repeat (first | refine qk ?_ _ | refine ql ?_ | refine qj ?_ _)); refine qr (cs := #[.int .i64 ((qi l0 x8_1).f0), .int .i64 ((qi l0 x8_1).f1), .string ((qi l0 x8_1).f2), .string ((qi l0 x8_1).f3), .string ((qi l0 x8_1).f4), .slice none 0 0]) ?_ 5 _ rfl; (with_reducible repeat (first | refine qk ?_ _ | refine ql ?_ | refine qj ?_ _)); refine qr (cs := #[.int .i64 ((qi l0 x8_1).f0), .int .i64 ((qi l0 x8_1).f1), .string ((qi l0 x8_1).f2), .string ((qi l0 x8_1).f3), .string (⟨#[]⟩ : ByteArray), .slice none 0 0]) ?_ 4 _ rfl; (with_reducible repeat (first | refine qk ?_ _ | refine ql ?_ | refine qj ?_ _)); refine qr (cs := #[.int .i64 ((qi l0 x8_1).f0), .int .i64 ((qi l0 x8_1).f1), .string ((qi l0 x8_1).f2), .string (⟨#[]⟩ : ByteArray), .string (⟨#[]⟩ : ByteArray), .slice none 0 0]) ?_ 3 _ rfl; (with_reducible repeat (first | refine qk ?_ _ | refine ql ?_ | refine qj ?_ _)); refine qr (cs := #[.int .i64 ((qi l0 x8_1).f0), .int .i64 ((qi l0 x8_1).f1), .string (⟨#[]⟩ : ByteArray), .string (⟨#[]⟩ : ByteArray), .string (⟨#[]⟩ : ByteArray), .slice none 0 0]) ?_ 2 _ rfl; (with_reducible repeat (first | refine qk ?_ _ | refine ql ?_ | refine qj ?_ _)); refine qr (cs := #[.int .i64 ((qi l0 x8_1).f0), .int .i64 0, .string (⟨#[]⟩ : ByteArray), .string (⟨#[]⟩ : ByteArray), .string (⟨#[]⟩ : ByteArray), .slice none 0 0]) ?_ 1 _ rfl; (with_reducible repeat (first | refine qk ?_ _ | refine ql ?_ | refine qj ?_ _)); refine qr (cs := #[.int .i64 0, .int .i64 0, .string (⟨#[]⟩ : ByteArray), .string (⟨#[]⟩ : ByteArray), .string (⟨#[]⟩ : ByteArray), .slice none 0 0]) ?_ 0 _ rfl; (with_reducible repeat (first | refine qk ?_ _ | refine ql ?_ | refine qj ?_ _)); exact BK185.out⟩, ⟨zz75⟩⟩
      case round =>
       clear H'
       try clear c1
       try clear p1
       try clear q1
       try clear hx1
       try clear c2
       try clear c2b0
       try clear p2
       try clear c3
       try clear c3b0
       try clear c4
       try clear c4b0
       try clear c6
       try clear hcz6_0
       try clear hcz6_1
       try clear hcz6_2
       try clear hcz6_3
       try clear hcz6_4
       try clear hcz6_5
       try clear hfz6_0
       try clear hfz6_1
       try clear hfz6_2
       try clear hfz6_3
       try clear hfz6_4
       try clear hfz6_5
       try clear hx184_0
       try clear hx184_1
       try clear hx184_2
       try clear hx184_3
       try clear hx184_4
       try clear hx184_5
       try clear p184
       try clear q184
       obtain ⟨x5_2, rfl, HA, HK2, BK185, HB⟩ := hrel
       cases gk with
       | zero => exact absurd HA.out (by simp [qub.l1])
       | succ k2 =>
        have H := HA.out
        clear HA
        simp only [qub.l1] at H
        by_cases c7 : x5_2 = 0
        ·rw [if_pos c7] at H
         have c7b0 : (x5_2 == 0) = true := beq_iff_eq.mpr c7
         have c7b1 : (x5_2 != 0) = false := bne_eq_false_iff_eq.mpr c7
         clear c7
         by_cases c8 : x5_2 = ((qi l0 x8_1).f1)
         ·rw [if_pos c8] at H
          have c8b0 : (x5_2 == ((qi l0 x8_1).f1)) = true := beq_iff_eq.mpr c8
          have c8b1 : (x5_2 != ((qi l0 x8_1).f1)) = false := bne_eq_false_iff_eq.mpr c8
          clear c8
          by_cases c9 : x8_1 = 0
          ·rw [if_pos c9] at H
           have c9b0 : (x8_1 == 0) = true := beq_iff_eq.mpr c9
           have c9b1 : (x8_1 != 0) = false := bne_eq_false_iff_eq.mpr c9
           clear c9
           have H' := qa.mk H
           clear H
           have hcz10_0 : wr.cell? ⟨gb185, 0, none⟩ = some (.int .i64 ((qi l0 x8_1).f0)) := (qh BK185.out 0).trans rfl
           have hcz10_1 : wr.cell? ⟨gb185, 1, none⟩ = some (.int .i64 ((qi l0 x8_1).f1)) := (qh BK185.out 1).trans rfl
           have hcz10_2 : wr.cell? ⟨gb185, 2, none⟩ = some (.string ((qi l0 x8_1).f2)) := (qh BK185.out 2).trans rfl
           have hcz10_3 : wr.cell? ⟨gb185, 3, none⟩ = some (.string ((qi l0 x8_1).f3)) := (qh BK185.out 3).trans rfl
           have hcz10_4 : wr.cell? ⟨gb185, 4, none⟩ = some (.string ((qi l0 x8_1).f4)) := (qh BK185.out 4).trans rfl
           have hcz10_5 : wr.cell? ⟨gb185, 5, none⟩ = some (.slice A184_5 ((qi l0 x8_1).f5).length c184_5) := (qh BK185.out 5).trans rfl
           have hfz10_0 := qf BK185.out 0
           have hfz10_1 := qf BK185.out 1
           have hfz10_2 := qf BK185.out 2
           have hfz10_3 := qf BK185.out 3
           have hfz10_4 := qf BK185.out 4
           have hfz10_5 := qf BK185.out 5
           go_wp2
           go_roundg k2
           case measure => have := HK1.out; have := HK2.out; omega
           case rel => exact ⟨(wrap64 (x8_1 + 1)), zz7, H', ⟨zz4⟩, ⟨zz75⟩⟩
          ·rw [if_neg c9] at H
           have c9b0 : (x8_1 == 0) = false := beq_eq_false_iff_ne.mpr c9
           have c9b1 : (x8_1 != 0) = true := bne_iff_ne.mpr c9
           obtain rfl := Option.some.inj H
           have hcz11_0 : wr.cell? ⟨gb185, 0, none⟩ = some (.int .i64 ((qi l0 x8_1).f0)) := (qh BK185.out 0).trans rfl
           have hcz11_1 : wr.cell? ⟨gb185, 1, none⟩ = some (.int .i64 ((qi l0 x8_1).f1)) := (qh BK185.out 1).trans rfl
           have hcz11_2 : wr.cell? ⟨gb185, 2, none⟩ = some (.string ((qi l0 x8_1).f2)) := (qh BK185.out 2).trans rfl
           have hcz11_3 : wr.cell? ⟨gb185, 3, none⟩ = some (.string ((qi l0 x8_1).f3)) := (qh BK185.out 3).trans rfl
           have hcz11_4 : wr.cell? ⟨gb185, 4, none⟩ = some (.string ((qi l0 x8_1).f4)) := (qh BK185.out 4).trans rfl
           have hcz11_5 : wr.cell? ⟨gb185, 5, none⟩ = some (.slice A184_5 ((qi l0 x8_1).f5).length c184_5) := (qh BK185.out 5).trans rfl
           have hfz11_0 := qf BK185.out 0
           have hfz11_1 := qf BK185.out 1
           have hfz11_2 := qf BK185.out 2
           have hfz11_3 := qf BK185.out 3
           have hfz11_4 := qf BK185.out 4
           have hfz11_5 := qf BK185.out 5
           go_wp2
           go_ret
           exact ⟨zz102, zz75⟩
         ·rw [if_neg c8] at H
          have c8b0 : (x5_2 == ((qi l0 x8_1).f1)) = false := beq_eq_false_iff_ne.mpr c8
          have c8b1 : (x5_2 != ((qi l0 x8_1).f1)) = true := bne_iff_ne.mpr c8
          obtain rfl := Option.some.inj H
          have hcz12_0 : wr.cell? ⟨gb185, 0, none⟩ = some (.int .i64 ((qi l0 x8_1).f0)) := (qh BK185.out 0).trans rfl
          have hcz12_1 : wr.cell? ⟨gb185, 1, none⟩ = some (.int .i64 ((qi l0 x8_1).f1)) := (qh BK185.out 1).trans rfl
          have hcz12_2 : wr.cell? ⟨gb185, 2, none⟩ = some (.string ((qi l0 x8_1).f2)) := (qh BK185.out 2).trans rfl
          have hcz12_3 : wr.cell? ⟨gb185, 3, none⟩ = some (.string ((qi l0 x8_1).f3)) := (qh BK185.out 3).trans rfl
          have hcz12_4 : wr.cell? ⟨gb185, 4, none⟩ = some (.string ((qi l0 x8_1).f4)) := (qh BK185.out 4).trans rfl
          have hcz12_5 : wr.cell? ⟨gb185, 5, none⟩ = some (.slice A184_5 ((qi l0 x8_1).f5).length c184_5) := (qh BK185.out 5).trans rfl
          have hfz12_0 := qf BK185.out 0
          have hfz12_1 := qf BK185.out 1
          have hfz12_2 := qf BK185.out 2
          have hfz12_3 := qf BK185.out 3
          have hfz12_4 := qf BK185.out 4
          have hfz12_5 := qf BK185.out 5
          go_wp2
          go_ret
          exact ⟨zz102, zz75⟩
        ·rw [if_neg c7] at H
         have c7b0 : (x5_2 == 0) = false := beq_eq_false_iff_ne.mpr c7
         have c7b1 : (x5_2 != 0) = true := bne_iff_ne.mpr c7
         by_cases c13 : x5_2 = ((qi l0 x8_1).f1)
         ·rw [if_pos c13] at H
          have c13b0 : (x5_2 == ((qi l0 x8_1).f1)) = true := beq_iff_eq.mpr c13
          have c13b1 : (x5_2 != ((qi l0 x8_1).f1)) = false := bne_eq_false_iff_eq.mpr c13
          clear c13
          by_cases c14 : x8_1 = 0
          ·rw [if_pos c14] at H
           have c14b0 : (x8_1 == 0) = true := beq_iff_eq.mpr c14
           have c14b1 : (x8_1 != 0) = false := bne_eq_false_iff_eq.mpr c14
           clear c14
           obtain rfl := Option.some.inj H
           have hcz15_0 : wr.cell? ⟨gb185, 0, none⟩ = some (.int .i64 ((qi l0 x8_1).f0)) := (qh BK185.out 0).trans rfl
           have hcz15_1 : wr.cell? ⟨gb185, 1, none⟩ = some (.int .i64 ((qi l0 x8_1).f1)) := (qh BK185.out 1).trans rfl
           have hcz15_2 : wr.cell? ⟨gb185, 2, none⟩ = some (.string ((qi l0 x8_1).f2)) := (qh BK185.out 2).trans rfl
           have hcz15_3 : wr.cell? ⟨gb185, 3, none⟩ = some (.string ((qi l0 x8_1).f3)) := (qh BK185.out 3).trans rfl
           have hcz15_4 : wr.cell? ⟨gb185, 4, none⟩ = some (.string ((qi l0 x8_1).f4)) := (qh BK185.out 4).trans rfl
           have hcz15_5 : wr.cell? ⟨gb185, 5, none⟩ = some (.slice A184_5 ((qi l0 x8_1).f5).length c184_5) := (qh BK185.out 5).trans rfl
           have hfz15_0 := qf BK185.out 0
           have hfz15_1 := qf BK185.out 1
           have hfz15_2 := qf BK185.out 2
           have hfz15_3 := qf BK185.out 3
           have hfz15_4 := qf BK185.out 4
           have hfz15_5 := qf BK185.out 5
           go_wp2
           go_ret
           exact ⟨zz102, zz75⟩
          ·rw [if_neg c14] at H
           have c14b0 : (x8_1 == 0) = false := beq_eq_false_iff_ne.mpr c14
           have c14b1 : (x8_1 != 0) = true := bne_iff_ne.mpr c14
           have H' := qa.mk H
           clear H
           have hcz16_0 : wr.cell? ⟨gb185, 0, none⟩ = some (.int .i64 ((qi l0 x8_1).f0)) := (qh BK185.out 0).trans rfl
           have hcz16_1 : wr.cell? ⟨gb185, 1, none⟩ = some (.int .i64 ((qi l0 x8_1).f1)) := (qh BK185.out 1).trans rfl
           have hcz16_2 : wr.cell? ⟨gb185, 2, none⟩ = some (.string ((qi l0 x8_1).f2)) := (qh BK185.out 2).trans rfl
           have hcz16_3 : wr.cell? ⟨gb185, 3, none⟩ = some (.string ((qi l0 x8_1).f3)) := (qh BK185.out 3).trans rfl
           have hcz16_4 : wr.cell? ⟨gb185, 4, none⟩ = some (.string ((qi l0 x8_1).f4)) := (qh BK185.out 4).trans rfl
           have hcz16_5 : wr.cell? ⟨gb185, 5, none⟩ = some (.slice A184_5 ((qi l0 x8_1).f5).length c184_5) := (qh BK185.out 5).trans rfl
           have hfz16_0 := qf BK185.out 0
           have hfz16_1 := qf BK185.out 1
           have hfz16_2 := qf BK185.out 2
           have hfz16_3 := qf BK185.out 3
           have hfz16_4 := qf BK185.out 4
           have hfz16_5 := qf BK185.out 5
           go_wp2
           go_roundg k2
           case measure => have := HK1.out; have := HK2.out; omega
           case rel => exact ⟨(wrap64 (x8_1 + 1)), zz7, H', ⟨zz4⟩, ⟨zz75⟩⟩
         ·rw [if_neg c13] at H
          have c13b0 : (x5_2 == ((qi l0 x8_1).f1)) = false := beq_eq_false_iff_ne.mpr c13
          have c13b1 : (x5_2 != ((qi l0 x8_1).f1)) = true := bne_iff_ne.mpr c13
          obtain ⟨ji17, hji17⟩ : ∃ j_ : Int, (wrap64 (x5_2 - 1)) = j_ := ⟨_, rfl⟩
          replace H : (if 0 ≤ (ji17) then (if (ji17) < (l0.length : Int) then (qub.l1 k2 l0 x8_1 ((qi l0 (ji17)).f1) l0 (l0.length : Int) x8_1 ((qi l0 x8_1).f0) ((qi l0 x8_1).f1) ((qi l0 x8_1).f2) ((qi l0 x8_1).f3) ((qi l0 x8_1).f4) ((qi l0 x8_1).f5)) else (none)) else (none)) = some r := by first | (rw [hji17] at H; exact H) | (simp only [hji17] at H ⊢; exact H)
          have hji17w : (IntKind.i64.wrap (x5_2 - 1)) = ji17 := (i64_w _).trans hji17
          by_cases c18 : 0 ≤ (ji17)
          ·rw [if_pos c18] at H
           have c18b0 : decide (0 ≤ (ji17)) = true := decide_eq_true c18
           clear c18
           by_cases c19 : (ji17) < (l0.length : Int)
           ·rw [if_pos c19] at H
            have c19b0 : decide ((ji17) < (l0.length : Int)) = true := decide_eq_true c19
            clear c19
            have H' := qa.mk H
            clear H
            have hcz20_0 : wr.cell? ⟨gb185, 0, none⟩ = some (.int .i64 ((qi l0 x8_1).f0)) := (qh BK185.out 0).trans rfl
            have hcz20_1 : wr.cell? ⟨gb185, 1, none⟩ = some (.int .i64 ((qi l0 x8_1).f1)) := (qh BK185.out 1).trans rfl
            have hcz20_2 : wr.cell? ⟨gb185, 2, none⟩ = some (.string ((qi l0 x8_1).f2)) := (qh BK185.out 2).trans rfl
            have hcz20_3 : wr.cell? ⟨gb185, 3, none⟩ = some (.string ((qi l0 x8_1).f3)) := (qh BK185.out 3).trans rfl
            have hcz20_4 : wr.cell? ⟨gb185, 4, none⟩ = some (.string ((qi l0 x8_1).f4)) := (qh BK185.out 4).trans rfl
            have hcz20_5 : wr.cell? ⟨gb185, 5, none⟩ = some (.slice A184_5 ((qi l0 x8_1).f5).length c184_5) := (qh BK185.out 5).trans rfl
            have hfz20_0 := qf BK185.out 0
            have hfz20_1 := qf BK185.out 1
            have hfz20_2 := qf BK185.out 2
            have hfz20_3 := qf BK185.out 3
            have hfz20_4 := qf BK185.out 4
            have hfz20_5 := qf BK185.out 5
            have p186 : 0 ≤ ((ji17) : Int) := of_decide_eq_true zz12
            have q186 : (ji17) < (l0.length : Int) := of_decide_eq_true zz12
            obtain ⟨ad186, A186_5, c186_5, e186, hx186_0, hx186_1, hx186_2, hx186_3, hx186_4, hx186_5, hl186_5, hi186_5⟩ := at_T53 HR0.out (ji17) p186 q186
            obtain rfl : ad184 = ad186 := (by injection e186)
            replace hx186_0 := (HB.out.cell (qwc w _ hx186_0)).trans hx186_0
            replace hx186_1 := (HB.out.cell (qwc w _ hx186_1)).trans hx186_1
            replace hx186_2 := (HB.out.cell (qwc w _ hx186_2)).trans hx186_2
            replace hx186_3 := (HB.out.cell (qwc w _ hx186_3)).trans hx186_3
            replace hx186_4 := (HB.out.cell (qwc w _ hx186_4)).trans hx186_4
            replace hx186_5 := (HB.out.cell (qwc w _ hx186_5)).trans hx186_5
            have HR186_5 := qa.mk hi186_5
            have HC186_5 := qa.mk hl186_5
            clear hi186_5 hl186_5
            replace p186 := eq_true p186
            replace q186 := eq_true q186
            go_wp2
            go_roundg k2
            case measure => have := HK1.out; have := HK2.out; omega
            case rel => exact ⟨((qi l0 (ji17)).f1), (by first | rfl | (simp; done) | (simp only [← hji17] <;> (first | rfl | simp)) | (simp [*]; done)), H', ⟨zz4⟩, ⟨by (with_reducible repeat (first | refine qk ?_ _ | refine ql ?_ | refine qj ?_ _)); exact BK185.out⟩, ⟨zz75⟩⟩
           ·rw [if_neg c19] at H
            exact absurd H (by simp)
          ·rw [if_neg c18] at H
           exact absurd H (by simp)
     ·rw [if_neg c4] at H
      exact absurd H (by simp)
    ·rw [if_neg c3] at H
     exact absurd H (by simp)
   ·rw [if_neg c2] at H
    have c2b0 : decide (x8_1 < (l0.length : Int)) = false := decide_eq_false c2
    clear c2
    obtain rfl := Option.some.inj H
    go_wp2
    go_ret
    exact ⟨zz102, zz52⟩
def qhc.l0 : Nat → List (S53) → List Int → List (S53) → Int → Int → Option (Bool)
 | 0, _, _, _, _, _ => none
 | k + 1, x0, x3, x10, x11, x12 => if x12 < x11 then (if 0 ≤ x12 then (if x12 < (x10.length : Int) then (if 0 ≤ ((qi x10 x12).f1) then (if ((qi x10 x12).f1) < (x3.length : Int) then (if 0 ≤ (wrap64 (x12 + 1)) then (if (wrap64 (x12 + 1)) < (x3.length : Int) then ((some (x3.set ((wrap64 (x12 + 1)) : Int).toNat (wrap64 ((rd x3 ((qi x10 x12).f1)) + 1)) : List Int)).bind fun y193 => (if (rd y193 (wrap64 (x12 + 1))) > 64 then (some true) else (qhc.l0 k x0 y193 x10 x11 (wrap64 (x12 + 1))))) else (none)) else (none)) else (none)) else (none)) else (none)) else (none)) else (some (decide ((x0.length : Int) > 4096)))
def qhc.f (k : Nat) (l0 : List (S53)) : Option (Bool) := if 0 ≤ (wrap64 ((l0.length : Int) + 1)) then (if (wrap64 ((l0.length : Int) + 1) : Int).toNat ≤ 35184372088832 then (qhc.l0 k l0 (List.replicate (wrap64 ((l0.length : Int) + 1) : Int).toNat 0) l0 (l0.length : Int) 0) else (none)) else (none)
theorem qhc.mono_l : ∀ k, (∀ y0 y1 y2 y3 y4, LeO (qhc.l0 k y0 y1 y2 y3 y4) (qhc.l0 (k + 1) y0 y1 y2 y3 y4))
 | 0 => fun _ _ _ _ _ r h => by simp [qhc.l0] at h
 | k + 1 => by
  have ih0 := qhc.mono_l k
  ·intro y0 y1 y2 y3 y4
   unfold qhc.l0
   repeat' first
   | (with_reducible exact ih0 _ _ _ _ _)
   | (with_reducible exact LeO.refl _)
   | (with_reducible exact LeO.none _)
   | (with_reducible refine LeO.ite ?_ ?_)
   | (with_reducible refine LeO.bind ?_ (fun _ => ?_))
   | exact ih0 _ _ _ _ _
   | exact LeO.none _
   | refine LeO.ite ?_ ?_
   | refine LeO.bind ?_ (fun _ => ?_)
theorem qhc.mono : ∀ a0 k, LeO (qhc.f k a0) (qhc.f (k + 1) a0) := by
 intro a0 k
 have ih0 := qhc.mono_l k
 unfold qhc.f
 repeat' first
   | (with_reducible exact ih0 _ _ _ _ _)
   | (with_reducible exact LeO.refl _)
   | (with_reducible exact LeO.none _)
   | (with_reducible refine LeO.ite ?_ ?_)
   | (with_reducible refine LeO.bind ?_ (fun _ => ?_))
   | exact ih0 _ _ _ _ _
   | exact LeO.none _
   | refine LeO.ite ?_ ?_
   | refine LeO.bind ?_ (fun _ => ?_)
set_option maxHeartbeats 8000000 in
set_option maxRecDepth 100000 in
theorem qhc.calls (k : Nat) (A0 : Option Addr) (c0 : Nat) (l0 : List (S53)) (r : Bool) (w : World) (hr0 : Kd.C k53 w A0 l0.length l0) (hc0 : l0.length ≤ c0) (h : qhc.f k l0 = some r) :
  Calls Tryz.prog 65 #[.slice A0 l0.length c0] w fun e w' => e = .returned (.bool r) ∧ Below w.heap.size w w' := by
 have hu53 := Tryz.underlying53
 have HR0 := qa.mk hr0
 have HC0 := qa.mk hc0
 clear hr0 hc0
 have HB := qa.mk (Below.refl w.heap.size w)
 have H : (if 0 ≤ (wrap64 ((l0.length : Int) + 1)) then (if (wrap64 ((l0.length : Int) + 1) : Int).toNat ≤ 35184372088832 then (qhc.l0 k l0 (List.replicate (wrap64 ((l0.length : Int) + 1) : Int).toNat 0) l0 (l0.length : Int) 0) else (none)) else (none)) = some r := h
 clear h
 obtain ⟨ji2, hji2⟩ : ∃ j_ : Int, (wrap64 ((l0.length : Int) + 1)) = j_ := ⟨_, rfl⟩
 replace H : (if 0 ≤ (ji2) then (if (ji2 : Int).toNat ≤ 35184372088832 then (qhc.l0 k l0 (List.replicate (ji2 : Int).toNat 0) l0 (l0.length : Int) 0) else (none)) else (none)) = some r := by first | (rw [hji2] at H; exact H) | (simp only [hji2] at H ⊢; exact H)
 have hji2w : (IntKind.i64.wrap ((l0.length : Int) + 1)) = ji2 := (i64_w _).trans hji2
 by_cases c3 : 0 ≤ (ji2)
 ·rw [if_pos c3] at H
  have c3b0 := eq_true c3
  have c3b1 : decide (0 ≤ (ji2)) = true := decide_eq_true c3
  clear c3
  by_cases c4 : (ji2 : Int).toNat ≤ 35184372088832
  ·rw [if_pos c4] at H
   have c4b0 := eq_true c4
   have c4b1 : decide ((ji2 : Int).toNat ≤ 35184372088832) = true := decide_eq_true c4
   clear c4
   obtain ⟨y187, hy187⟩ : ∃ y_ : List Int, y_ = (List.replicate (ji2 : Int).toNat 0) := ⟨_, rfl⟩
   replace H : (qhc.l0 k l0 y187 l0 (l0.length : Int) 0) = some r := by first | (rw [hy187]; with_reducible exact H) | (have H2_ := (Option.bind_some _ _).symm.trans H; rw [hy187]; with_reducible exact H2_) | (have H2_ := (Option.bind_some _ _).symm.trans H; with_reducible exact H2_) | with_reducible exact H | (rw [hy187]; exact H) | exact H
   have Ny187 := qa.mk hy187
   clear hy187
   have H' := qa.mk H
   clear H
   go_enter Tryz.func65, Tryz.ntmps65
   go_wp2_with (first | ((with_reducible refine qfb (N := 9) rfl ?_); refine Kd.R_make (Kd.int .i64) _ 3 rfl (N := 9) rfl 38 _ _ rfl ji2 rfl rfl Tryz.underlying38 (.int .i64 0) 8 info3 rfl (by decide) (by omega) 0 (ok := fun _ => True) (okp := fun _ => True) rfl (fun _ hk => hk) trivial (of_decide_eq_true zz12) (Nat.le_trans (Nat.mul_le_mul_right _ (of_decide_eq_true zz12 : ji2.toNat ≤ 35184372088832)) (by omega)) (Below.refl _ _) (Nat.le_refl _) ?_; intro v188 w5 ho6 hb hg_ hnew_; clear hg_ hnew_; (first | rw [← Ny187.out] at ho6 | (simp only [Int.reduceToNat] at ho6; rw [← Ny187.out] at ho6)); have n0_ := qa.mk (Kd.R_lower ho6 (qo zz52)); have n1_ := qa.mk (qp zz52 hb); clear HB; have HO189 := n0_; have HB := n1_; clear n0_ n1_; clear hb ho6))
   go_loopg [12] k (fun kq v12 w' => ∃ (x3_1 : List Int) (x12_1 : Int), v12 = .int .i64 x12_1 ∧ qa (qhc.l0 kq l0 x3_1 l0 (l0.length : Int) x12_1 = some r) ∧ qa (kq ≤ k) ∧ qa (Kd.R (Kd.int .i64) 3 w' w.heap.size (fun _ => True) v188 x3_1) ∧ qa (Below w.heap.size w w'))
   case atStart => exact ⟨(y187), (0), zz7, H', ⟨Nat.le_refl _⟩, ⟨by (with_reducible repeat (first | apply Kd.R_alloc | apply Kd.R_drewN | apply Kd.R_drew)); exact HO189.out⟩, ⟨zz52⟩⟩
   case round =>
    clear H'
    try clear p2
    try clear c3
    try clear c3b0
    try clear c3b1
    try clear c4
    try clear c4b0
    try clear c4b1
    try clear c6
    try clear p6
    obtain ⟨x3_1, x12_1, rfl, HA, HK1, HO_3, HB⟩ := hrel
    cases gk with
    | zero => exact absurd HA.out (by simp [qhc.l0])
    | succ k1 =>
     have H := HA.out
     clear HA
     simp only [qhc.l0] at H
     by_cases c7 : x12_1 < (l0.length : Int)
     ·rw [if_pos c7] at H
      have c7b0 : decide (x12_1 < (l0.length : Int)) = true := decide_eq_true c7
      clear c7
      by_cases c8 : 0 ≤ x12_1
      ·rw [if_pos c8] at H
       have c8b0 : decide (0 ≤ x12_1) = true := decide_eq_true c8
       clear c8
       by_cases c9 : x12_1 < (l0.length : Int)
       ·rw [if_pos c9] at H
        have c9b0 : decide (x12_1 < (l0.length : Int)) = true := decide_eq_true c9
        clear c9
        by_cases c10 : 0 ≤ ((qi l0 x12_1).f1)
        ·rw [if_pos c10] at H
         have c10b0 : decide (0 ≤ ((qi l0 x12_1).f1)) = true := decide_eq_true c10
         clear c10
         by_cases c11 : ((qi l0 x12_1).f1) < (x3_1.length : Int)
         ·rw [if_pos c11] at H
          have c11b0 : decide (((qi l0 x12_1).f1) < (x3_1.length : Int)) = true := decide_eq_true c11
          clear c11
          obtain ⟨ji12, hji12⟩ : ∃ j_ : Int, (wrap64 (x12_1 + 1)) = j_ := ⟨_, rfl⟩
          replace H : (if 0 ≤ (ji12) then (if (ji12) < (x3_1.length : Int) then ((some (x3_1.set ((ji12) : Int).toNat (wrap64 ((rd x3_1 ((qi l0 x12_1).f1)) + 1)) : List Int)).bind fun y193 => (if (rd y193 (ji12)) > 64 then (some true) else (qhc.l0 k1 l0 y193 l0 (l0.length : Int) ji12))) else (none)) else (none)) = some r := by first | (rw [hji12] at H; exact H) | (simp only [hji12] at H ⊢; exact H)
          have hji12w : (IntKind.i64.wrap (x12_1 + 1)) = ji12 := (i64_w _).trans hji12
          by_cases c13 : 0 ≤ (ji12)
          ·rw [if_pos c13] at H
           have c13b0 : decide (0 ≤ (ji12)) = true := decide_eq_true c13
           clear c13
           by_cases c14 : (ji12) < (x3_1.length : Int)
           ·rw [if_pos c14] at H
            have c14b0 : decide ((ji12) < (x3_1.length : Int)) = true := decide_eq_true c14
            clear c14
            obtain ⟨y193, hy193⟩ : ∃ y_ : List Int, y_ = (x3_1.set ((ji12) : Int).toNat (wrap64 ((rd x3_1 ((qi l0 x12_1).f1)) + 1))) := ⟨_, rfl⟩
            replace H : (if (rd y193 (ji12)) > 64 then (some true) else (qhc.l0 k1 l0 y193 l0 (l0.length : Int) ji12)) = some r := by first | (rw [hy193]; with_reducible exact H) | (have H2_ := (Option.bind_some _ _).symm.trans H; rw [hy193]; with_reducible exact H2_) | (have H2_ := (Option.bind_some _ _).symm.trans H; with_reducible exact H2_) | with_reducible exact H | (rw [hy193]; exact H) | exact H
            have Ny193 := qa.mk hy193
            clear hy193
            by_cases c16 : (rd y193 (ji12)) > 64
            ·rw [if_pos c16] at H
             have c16b0 : decide (64 < (rd y193 (ji12))) = true := decide_eq_true c16
             clear c16
             obtain rfl := Option.some.inj H
             have p190 : 0 ≤ (x12_1 : Int) := of_decide_eq_true zz12
             have q190 : x12_1 < (l0.length : Int) := of_decide_eq_true zz12
             obtain ⟨ad190, A190_5, c190_5, e190, hx190_0, hx190_1, hx190_2, hx190_3, hx190_4, hx190_5, hl190_5, hi190_5⟩ := at_T53 HR0.out x12_1 p190 q190
             cases e190
             replace hx190_0 := (HB.out.cell (qwc w _ hx190_0)).trans hx190_0
             replace hx190_1 := (HB.out.cell (qwc w _ hx190_1)).trans hx190_1
             replace hx190_2 := (HB.out.cell (qwc w _ hx190_2)).trans hx190_2
             replace hx190_3 := (HB.out.cell (qwc w _ hx190_3)).trans hx190_3
             replace hx190_4 := (HB.out.cell (qwc w _ hx190_4)).trans hx190_4
             replace hx190_5 := (HB.out.cell (qwc w _ hx190_5)).trans hx190_5
             have HR190_5 := qa.mk hi190_5
             have HC190_5 := qa.mk hl190_5
             clear hi190_5 hl190_5
             replace p190 := eq_true p190
             replace q190 := eq_true q190
             go_wp2_with (first | ((with_reducible refine qfb (N := 5) rfl ?_); refine qlb ?hg (N := 5) ?hd (cs := #[.int .i64 0, .int .i64 0, .string (⟨#[]⟩ : ByteArray), .string (⟨#[]⟩ : ByteArray), .string (⟨#[]⟩ : ByteArray), .slice none 0 0]) (t := 53) ?hr ?_; (case hd => rfl); (case hg => rfl); (case hr => exact zz6); intro gb191 hg w17 hbox hb; have n0_ := qa.mk (Kd.R_below zz55 hb); have n1_ := qa.mk (qp zz52 hb); have n2_ := qa.mk (hbox); have n3_ := qa.mk ((by rw [hg]; exact (qo zz52) : w.heap.size ≤ gb191)); have n4_ := qa.mk ((by rw [hg]; exact (qo zz52) : w.heap.size ≤ gb191)); clear HO_3; clear HB; have HO_3 := n0_; have HB := n1_; have BK191 := n2_; have GW191 := n3_; have GE191 := n4_; clear n0_ n1_ n2_ n3_ n4_; clear hb hbox hg; have hcz18_0 : w17.cell? ⟨gb191, 0, none⟩ = some (.int .i64 0) := (qh BK191.out 0).trans rfl; have hcz18_1 : w17.cell? ⟨gb191, 1, none⟩ = some (.int .i64 0) := (qh BK191.out 1).trans rfl; have hcz18_2 : w17.cell? ⟨gb191, 2, none⟩ = some (.string (⟨#[]⟩ : ByteArray)) := (qh BK191.out 2).trans rfl; have hcz18_3 : w17.cell? ⟨gb191, 3, none⟩ = some (.string (⟨#[]⟩ : ByteArray)) := (qh BK191.out 3).trans rfl; have hcz18_4 : w17.cell? ⟨gb191, 4, none⟩ = some (.string (⟨#[]⟩ : ByteArray)) := (qh BK191.out 4).trans rfl; have hcz18_5 : w17.cell? ⟨gb191, 5, none⟩ = some (.slice none 0 0) := (qh BK191.out 5).trans rfl; have hfz18_0 := qf BK191.out 0; have hfz18_1 := qf BK191.out 1; have hfz18_2 := qf BK191.out 2; have hfz18_3 := qf BK191.out 3; have hfz18_4 := qf BK191.out 4; have hfz18_5 := qf BK191.out 5) | ((with_reducible refine gate_store (t := 53) (p := 5) rfl ?_); refine store_event (t := 53) (p := 5) (v := ?vo_w19) (w1 := ((((((w17.setCell ⟨gb191, 0, none⟩ (.int .i64 ((qi l0 x12_1).f0))).setCell ⟨gb191, 1, none⟩ (.int .i64 ((qi l0 x12_1).f1))).setCell ⟨gb191, 2, none⟩ (.string ((qi l0 x12_1).f2))).setCell ⟨gb191, 3, none⟩ (.string ((qi l0 x12_1).f3))).setCell ⟨gb191, 4, none⟩ (.string ((qi l0 x12_1).f4))).setCell ⟨gb191, 5, none⟩ (.slice A190_5 ((qi l0 x12_1).f5).length c190_5))) ?hg ?ho ?hn ?hr ?_; (case ho => rfl); (case hg => rfl); (case hn => rfl); (case hr => exact zz6); intro w19 hw; have n0_ : qa (Kd.R (Kd.int .i64) 3 w19 w.heap.size (fun _ => True) v188 x3_1) := ⟨(by rw [hw]; exact zz174)⟩; have n1_ : qa (w19.heap[gb191]? = some (.cells #[.int .i64 ((qi l0 x12_1).f0), .int .i64 ((qi l0 x12_1).f1), .string ((qi l0 x12_1).f2), .string ((qi l0 x12_1).f3), .string ((qi l0 x12_1).f4), .slice A190_5 ((qi l0 x12_1).f5).length c190_5] 53 (0, 0))) := ⟨(by rw [hw]; exact zz189)⟩; have n2_ : qa (Below w.heap.size w w19) := ⟨(by rw [hw]; exact zz76)⟩; clear hw; clear HO_3; clear BK191; clear HB; have HO_3 := n0_; have BK191 := n1_; have HB := n2_; clear n0_ n1_ n2_; have hcz20_0 : w19.cell? ⟨gb191, 0, none⟩ = some (.int .i64 ((qi l0 x12_1).f0)) := (qh BK191.out 0).trans rfl; have hcz20_1 : w19.cell? ⟨gb191, 1, none⟩ = some (.int .i64 ((qi l0 x12_1).f1)) := (qh BK191.out 1).trans rfl; have hcz20_2 : w19.cell? ⟨gb191, 2, none⟩ = some (.string ((qi l0 x12_1).f2)) := (qh BK191.out 2).trans rfl; have hcz20_3 : w19.cell? ⟨gb191, 3, none⟩ = some (.string ((qi l0 x12_1).f3)) := (qh BK191.out 3).trans rfl; have hcz20_4 : w19.cell? ⟨gb191, 4, none⟩ = some (.string ((qi l0 x12_1).f4)) := (qh BK191.out 4).trans rfl; have hcz20_5 : w19.cell? ⟨gb191, 5, none⟩ = some (.slice A190_5 ((qi l0 x12_1).f5).length c190_5) := (qh BK191.out 5).trans rfl; have hfz20_0 := qf BK191.out 0; have hfz20_1 := qf BK191.out 1; have hfz20_2 := qf BK191.out 2; have hfz20_3 := qf BK191.out 3; have hfz20_4 := qf BK191.out 4; have hfz20_5 := qf BK191.out 5; obtain ⟨Ao21, co21, eo21⟩ := Kd.R_slice HO_3.out; subst eo21; have p192 : 0 ≤ (((qi l0 x12_1).f1) : Int) := of_decide_eq_true zz12; have q192 : ((qi l0 x12_1).f1) < (x3_1.length : Int) := of_decide_eq_true zz12; obtain ⟨ad192, e192, hx192_0⟩ := Kd.at_int (Kd.R_reads' HO_3.out).2.2 ((qi l0 x12_1).f1) p192 q192; cases e192; replace p192 := eq_true p192; replace q192 := eq_true q192; have p15 : 0 ≤ ((ji12) : Int) := of_decide_eq_true zz12; have q15 : ((ji12) : Int) < ((x3_1.length : Int) : Int) := of_decide_eq_true zz12; obtain ⟨go15, co15, eo15, gb15, gl15, cl15, HG15⟩ := Kd.R_form HO_3.out (by omega); (first | cases eo15 | (injection eo15 with ea_ en_ ec_; (first | subst ea_ | (injection ea_ with ea_; subst ea_)); subst ec_; clear en_)); have GB15 := qa.mk gb15; have GG15 := qa.mk HG15; clear gb15 gl15 HG15; (first | simp only [add_plain] at hx192_0 | skip); obtain ⟨hx15_0, hf15_0⟩ := Kd.R_celln 0 HO_3.out ((ji12) : Int) p15 q15; replace p15 := eq_true p15; replace q15 := eq_true q15; obtain ⟨hy22_, hz22_⟩ := Kd.R_celln 0 HO_3.out ((ji12) : Int) (of_decide_eq_true zz12) (of_decide_eq_true zz12); have HP22 := Kd.R_putg HO_3.out ((ji12) : Int) (wrap64 ((rd x3_1 ((qi l0 x12_1).f1)) + 1))) | ((with_reducible refine gate_store (t := 3) (p := 26) rfl ?_); refine store_event (t := 3) (p := 26) (v := ?vo_w23) (w1 := (w19.setCell ⟨go15, ((ji12) : Int).toNat, none⟩ (.int .i64 (wrap64 ((rd x3_1 ((qi l0 x12_1).f1)) + 1))))) ?hg ?ho ?hn ?hr ?_; (case ho => rfl); (case hg => rfl); (case hn => rfl); (case hr => exact zz6); intro w23 hw; have hg : w19.grownBy w23 (some go15) := (by rw [hw]; exact HP22.2); have hp_ : Kd.R (Kd.int .i64) 3 w23 w.heap.size (fun _ => True) (.slice (some ⟨go15, 0, none⟩) x3_1.length co21) y193 := (by rw [hw, Ny193.out]; exact HP22.1); clear HP22; have n0_ := qa.mk (hp_); have n1_ := qa.mk (blk_grown (g := gb191) (o := .cells #[.int .i64 ((qi l0 x12_1).f0), .int .i64 ((qi l0 x12_1).f1), .string ((qi l0 x12_1).f2), .string ((qi l0 x12_1).f3), .string ((qi l0 x12_1).f4), .slice A190_5 ((qi l0 x12_1).f5).length c190_5] 53 (0, 0)) (by (with_reducible repeat (first | refine qk ?_ _ | refine ql ?_ | refine qj ?_ _)); exact BK191.out) hg (Kd.R_ne HO_3.out BK191.out (by decide))); have n2_ := qa.mk ((by rw [hw]; exact qm (HB.out) GB15.out : Below w.heap.size w w23)); clear HO_3; clear BK191; clear HB; have HO_3 := n0_; have BK191 := n1_; have HB := n2_; clear n0_ n1_ n2_; clear hg hw hp_; have p194 : 0 ≤ ((ji12) : Int) := of_decide_eq_true zz12; have q194 : (ji12) < (y193.length : Int) := (by have h_ : ((ji12) : Int) < ((x3_1.length : Int) : Int) := of_decide_eq_true zz12; first | (have e_ := (Kd.R_reads' HO_3.out).1; omega) | simpa only [Ny193.out, List.length_set] using h_); have ql194 : (((ji12) : Int) < ((x3_1.length : Int) : Int)) = True := eq_true (of_decide_eq_true zz12); obtain ⟨ad194, e194, hx194_0⟩ := Kd.at_int (Kd.R_reads' HO_3.out).2.2 (ji12) p194 q194; obtain rfl : (⟨go15, 0, none⟩ : Addr) = ad194 := (by injection e194); (first | simp only [add_plain] at hx194_0 | simp only [add_at] at hx194_0 | simp only [Addr.add, Nat.zero_add] at hx194_0 | skip); replace p194 := eq_true p194; replace q194 := eq_true q194))
             go_ret
             exact ⟨zz142, zz76⟩
            ·rw [if_neg c16] at H
             have c16b0 : decide (64 < (rd y193 (ji12))) = false := decide_eq_false c16
             clear c16
             have H' := qa.mk H
             clear H
             have p190 : 0 ≤ (x12_1 : Int) := of_decide_eq_true zz12
             have q190 : x12_1 < (l0.length : Int) := of_decide_eq_true zz12
             obtain ⟨ad190, A190_5, c190_5, e190, hx190_0, hx190_1, hx190_2, hx190_3, hx190_4, hx190_5, hl190_5, hi190_5⟩ := at_T53 HR0.out x12_1 p190 q190
             cases e190
             replace hx190_0 := (HB.out.cell (qwc w _ hx190_0)).trans hx190_0
             replace hx190_1 := (HB.out.cell (qwc w _ hx190_1)).trans hx190_1
             replace hx190_2 := (HB.out.cell (qwc w _ hx190_2)).trans hx190_2
             replace hx190_3 := (HB.out.cell (qwc w _ hx190_3)).trans hx190_3
             replace hx190_4 := (HB.out.cell (qwc w _ hx190_4)).trans hx190_4
             replace hx190_5 := (HB.out.cell (qwc w _ hx190_5)).trans hx190_5
             have HR190_5 := qa.mk hi190_5
             have HC190_5 := qa.mk hl190_5
             clear hi190_5 hl190_5
             replace p190 := eq_true p190
             replace q190 := eq_true q190
             go_wp2_with (first | ((with_reducible refine qfb (N := 5) rfl ?_); refine qlb ?hg (N := 5) ?hd (cs := #[.int .i64 0, .int .i64 0, .string (⟨#[]⟩ : ByteArray), .string (⟨#[]⟩ : ByteArray), .string (⟨#[]⟩ : ByteArray), .slice none 0 0]) (t := 53) ?hr ?_; (case hd => rfl); (case hg => rfl); (case hr => exact zz6); intro gb191 hg w24 hbox hb; have n0_ := qa.mk (Kd.R_below zz55 hb); have n1_ := qa.mk (qp zz52 hb); have n2_ := qa.mk (hbox); have n3_ := qa.mk ((by rw [hg]; exact (qo zz52) : w.heap.size ≤ gb191)); have n4_ := qa.mk ((by rw [hg]; exact (qo zz52) : w.heap.size ≤ gb191)); clear HO_3; clear HB; have HO_3 := n0_; have HB := n1_; have BK191 := n2_; have GW191 := n3_; have GE191 := n4_; clear n0_ n1_ n2_ n3_ n4_; clear hb hbox hg; have hcz25_0 : w24.cell? ⟨gb191, 0, none⟩ = some (.int .i64 0) := (qh BK191.out 0).trans rfl; have hcz25_1 : w24.cell? ⟨gb191, 1, none⟩ = some (.int .i64 0) := (qh BK191.out 1).trans rfl; have hcz25_2 : w24.cell? ⟨gb191, 2, none⟩ = some (.string (⟨#[]⟩ : ByteArray)) := (qh BK191.out 2).trans rfl; have hcz25_3 : w24.cell? ⟨gb191, 3, none⟩ = some (.string (⟨#[]⟩ : ByteArray)) := (qh BK191.out 3).trans rfl; have hcz25_4 : w24.cell? ⟨gb191, 4, none⟩ = some (.string (⟨#[]⟩ : ByteArray)) := (qh BK191.out 4).trans rfl; have hcz25_5 : w24.cell? ⟨gb191, 5, none⟩ = some (.slice none 0 0) := (qh BK191.out 5).trans rfl; have hfz25_0 := qf BK191.out 0; have hfz25_1 := qf BK191.out 1; have hfz25_2 := qf BK191.out 2; have hfz25_3 := qf BK191.out 3; have hfz25_4 := qf BK191.out 4; have hfz25_5 := qf BK191.out 5) | ((with_reducible refine gate_store (t := 53) (p := 5) rfl ?_); refine store_event (t := 53) (p := 5) (v := ?vo_w26) (w1 := ((((((w24.setCell ⟨gb191, 0, none⟩ (.int .i64 ((qi l0 x12_1).f0))).setCell ⟨gb191, 1, none⟩ (.int .i64 ((qi l0 x12_1).f1))).setCell ⟨gb191, 2, none⟩ (.string ((qi l0 x12_1).f2))).setCell ⟨gb191, 3, none⟩ (.string ((qi l0 x12_1).f3))).setCell ⟨gb191, 4, none⟩ (.string ((qi l0 x12_1).f4))).setCell ⟨gb191, 5, none⟩ (.slice A190_5 ((qi l0 x12_1).f5).length c190_5))) ?hg ?ho ?hn ?hr ?_; (case ho => rfl); (case hg => rfl); (case hn => rfl); (case hr => exact zz6); intro w26 hw; have n0_ : qa (Kd.R (Kd.int .i64) 3 w26 w.heap.size (fun _ => True) v188 x3_1) := ⟨(by rw [hw]; exact zz174)⟩; have n1_ : qa (w26.heap[gb191]? = some (.cells #[.int .i64 ((qi l0 x12_1).f0), .int .i64 ((qi l0 x12_1).f1), .string ((qi l0 x12_1).f2), .string ((qi l0 x12_1).f3), .string ((qi l0 x12_1).f4), .slice A190_5 ((qi l0 x12_1).f5).length c190_5] 53 (0, 0))) := ⟨(by rw [hw]; exact zz189)⟩; have n2_ : qa (Below w.heap.size w w26) := ⟨(by rw [hw]; exact zz76)⟩; clear hw; clear HO_3; clear BK191; clear HB; have HO_3 := n0_; have BK191 := n1_; have HB := n2_; clear n0_ n1_ n2_; have hcz27_0 : w26.cell? ⟨gb191, 0, none⟩ = some (.int .i64 ((qi l0 x12_1).f0)) := (qh BK191.out 0).trans rfl; have hcz27_1 : w26.cell? ⟨gb191, 1, none⟩ = some (.int .i64 ((qi l0 x12_1).f1)) := (qh BK191.out 1).trans rfl; have hcz27_2 : w26.cell? ⟨gb191, 2, none⟩ = some (.string ((qi l0 x12_1).f2)) := (qh BK191.out 2).trans rfl; have hcz27_3 : w26.cell? ⟨gb191, 3, none⟩ = some (.string ((qi l0 x12_1).f3)) := (qh BK191.out 3).trans rfl; have hcz27_4 : w26.cell? ⟨gb191, 4, none⟩ = some (.string ((qi l0 x12_1).f4)) := (qh BK191.out 4).trans rfl; have hcz27_5 : w26.cell? ⟨gb191, 5, none⟩ = some (.slice A190_5 ((qi l0 x12_1).f5).length c190_5) := (qh BK191.out 5).trans rfl; have hfz27_0 := qf BK191.out 0; have hfz27_1 := qf BK191.out 1; have hfz27_2 := qf BK191.out 2; have hfz27_3 := qf BK191.out 3; have hfz27_4 := qf BK191.out 4; have hfz27_5 := qf BK191.out 5; obtain ⟨Ao28, co28, eo28⟩ := Kd.R_slice HO_3.out; subst eo28; have p192 : 0 ≤ (((qi l0 x12_1).f1) : Int) := of_decide_eq_true zz12; have q192 : ((qi l0 x12_1).f1) < (x3_1.length : Int) := of_decide_eq_true zz12; obtain ⟨ad192, e192, hx192_0⟩ := Kd.at_int (Kd.R_reads' HO_3.out).2.2 ((qi l0 x12_1).f1) p192 q192; cases e192; replace p192 := eq_true p192; replace q192 := eq_true q192; have p15 : 0 ≤ ((ji12) : Int) := of_decide_eq_true zz12; have q15 : ((ji12) : Int) < ((x3_1.length : Int) : Int) := of_decide_eq_true zz12; obtain ⟨go15, co15, eo15, gb15, gl15, cl15, HG15⟩ := Kd.R_form HO_3.out (by omega); (first | cases eo15 | (injection eo15 with ea_ en_ ec_; (first | subst ea_ | (injection ea_ with ea_; subst ea_)); subst ec_; clear en_)); have GB15 := qa.mk gb15; have GG15 := qa.mk HG15; clear gb15 gl15 HG15; (first | simp only [add_plain] at hx192_0 | skip); obtain ⟨hx15_0, hf15_0⟩ := Kd.R_celln 0 HO_3.out ((ji12) : Int) p15 q15; replace p15 := eq_true p15; replace q15 := eq_true q15; obtain ⟨hy29_, hz29_⟩ := Kd.R_celln 0 HO_3.out ((ji12) : Int) (of_decide_eq_true zz12) (of_decide_eq_true zz12); have HP29 := Kd.R_putg HO_3.out ((ji12) : Int) (wrap64 ((rd x3_1 ((qi l0 x12_1).f1)) + 1))) | ((with_reducible refine gate_store (t := 3) (p := 26) rfl ?_); refine store_event (t := 3) (p := 26) (v := ?vo_w30) (w1 := (w26.setCell ⟨go15, ((ji12) : Int).toNat, none⟩ (.int .i64 (wrap64 ((rd x3_1 ((qi l0 x12_1).f1)) + 1))))) ?hg ?ho ?hn ?hr ?_; (case ho => rfl); (case hg => rfl); (case hn => rfl); (case hr => exact zz6); intro w30 hw; have hg : w26.grownBy w30 (some go15) := (by rw [hw]; exact HP29.2); have hp_ : Kd.R (Kd.int .i64) 3 w30 w.heap.size (fun _ => True) (.slice (some ⟨go15, 0, none⟩) x3_1.length co28) y193 := (by rw [hw, Ny193.out]; exact HP29.1); clear HP29; have n0_ := qa.mk (hp_); have n1_ := qa.mk (blk_grown (g := gb191) (o := .cells #[.int .i64 ((qi l0 x12_1).f0), .int .i64 ((qi l0 x12_1).f1), .string ((qi l0 x12_1).f2), .string ((qi l0 x12_1).f3), .string ((qi l0 x12_1).f4), .slice A190_5 ((qi l0 x12_1).f5).length c190_5] 53 (0, 0)) (by (with_reducible repeat (first | refine qk ?_ _ | refine ql ?_ | refine qj ?_ _)); exact BK191.out) hg (Kd.R_ne HO_3.out BK191.out (by decide))); have n2_ := qa.mk ((by rw [hw]; exact qm (HB.out) GB15.out : Below w.heap.size w w30)); clear HO_3; clear BK191; clear HB; have HO_3 := n0_; have BK191 := n1_; have HB := n2_; clear n0_ n1_ n2_; clear hg hw hp_; have p194 : 0 ≤ ((ji12) : Int) := of_decide_eq_true zz12; have q194 : (ji12) < (y193.length : Int) := (by have h_ : ((ji12) : Int) < ((x3_1.length : Int) : Int) := of_decide_eq_true zz12; first | (have e_ := (Kd.R_reads' HO_3.out).1; omega) | simpa only [Ny193.out, List.length_set] using h_); have ql194 : (((ji12) : Int) < ((x3_1.length : Int) : Int)) = True := eq_true (of_decide_eq_true zz12); obtain ⟨ad194, e194, hx194_0⟩ := Kd.at_int (Kd.R_reads' HO_3.out).2.2 (ji12) p194 q194; obtain rfl : (⟨go15, 0, none⟩ : Addr) = ad194 := (by injection e194); (first | simp only [add_plain] at hx194_0 | simp only [add_at] at hx194_0 | simp only [Addr.add, Nat.zero_add] at hx194_0 | skip); replace p194 := eq_true p194; replace q194 := eq_true q194))
             go_roundg k1
             case measure => have := HK1.out; omega
             case rel => exact ⟨(y193), (ji12), (by first | rfl | (simp; done) | (simp only [← hji12] <;> (first | rfl | simp)) | (simp [*]; done)), H', ⟨zz2⟩, ⟨zz55⟩, ⟨zz76⟩⟩
           ·rw [if_neg c14] at H
            exact absurd H (by simp)
          ·rw [if_neg c13] at H
           exact absurd H (by simp)
         ·rw [if_neg c11] at H
          exact absurd H (by simp)
        ·rw [if_neg c10] at H
         exact absurd H (by simp)
       ·rw [if_neg c9] at H
        exact absurd H (by simp)
      ·rw [if_neg c8] at H
       exact absurd H (by simp)
     ·rw [if_neg c7] at H
      have c7b0 : decide (x12_1 < (l0.length : Int)) = false := decide_eq_false c7
      clear c7
      obtain rfl := Option.some.inj H
      go_wp2
      go_ret
      exact ⟨zz139, zz52⟩
  ·rw [if_neg c4] at H
   exact absurd H (by simp)
 ·rw [if_neg c3] at H
  exact absurd H (by simp)
def qjc.l0 : Nat → List (S53) → List Int → List (S53) → Int → Int → Option ((List (S53)))
 | 0, _, _, _, _, _ => none
 | k + 1, x0, x3, x10, x11, x12 => if x12 < x11 then (if 0 ≤ x12 then (if x12 < (x10.length : Int) then (if 0 ≤ ((qi x10 x12).f1) then (if ((qi x10 x12).f1) < (x3.length : Int) then (if 0 ≤ (wrap64 (x12 + 1)) then (if (wrap64 (x12 + 1)) < (x3.length : Int) then ((some (x3.set ((wrap64 (x12 + 1)) : Int).toNat (wrap64 ((rd x3 ((qi x10 x12).f1)) + 1)) : List Int)).bind fun y201 => (if (rd y201 (wrap64 (x12 + 1))) > 64 then (if (wrap64 (x12 + 1)) ≤ (x0.length : Int) then (some (x0.take ((wrap64 (x12 + 1)) : Int).toNat)) else (none)) else (if x12 = 4096 then (if (wrap64 (x12 + 1)) ≤ (x0.length : Int) then (some (x0.take ((wrap64 (x12 + 1)) : Int).toNat)) else (none)) else (qjc.l0 k x0 y201 x10 x11 (wrap64 (x12 + 1)))))) else (none)) else (none)) else (none)) else (none)) else (none)) else (none)) else (some x0)
def qjc.f (k : Nat) (l0 : List (S53)) : Option ((List (S53))) := if 0 ≤ (wrap64 ((l0.length : Int) + 1)) then (if (wrap64 ((l0.length : Int) + 1) : Int).toNat ≤ 35184372088832 then (qjc.l0 k l0 (List.replicate (wrap64 ((l0.length : Int) + 1) : Int).toNat 0) l0 (l0.length : Int) 0) else (none)) else (none)
theorem qjc.mono_l : ∀ k, (∀ y0 y1 y2 y3 y4, LeO (qjc.l0 k y0 y1 y2 y3 y4) (qjc.l0 (k + 1) y0 y1 y2 y3 y4))
 | 0 => fun _ _ _ _ _ r h => by simp [qjc.l0] at h
 | k + 1 => by
  have ih0 := qjc.mono_l k
  ·intro y0 y1 y2 y3 y4
   unfold qjc.l0
   repeat' first
   | (with_reducible exact ih0 _ _ _ _ _)
   | (with_reducible exact LeO.refl _)
   | (with_reducible exact LeO.none _)
   | (with_reducible refine LeO.ite ?_ ?_)
   | (with_reducible refine LeO.bind ?_ (fun _ => ?_))
   | exact ih0 _ _ _ _ _
   | exact LeO.none _
   | refine LeO.ite ?_ ?_
   | refine LeO.bind ?_ (fun _ => ?_)
theorem qjc.mono : ∀ a0 k, LeO (qjc.f k a0) (qjc.f (k + 1) a0) := by
 intro a0 k
 have ih0 := qjc.mono_l k
 unfold qjc.f
 repeat' first
   | (with_reducible exact ih0 _ _ _ _ _)
   | (with_reducible exact LeO.refl _)
   | (with_reducible exact LeO.none _)
   | (with_reducible refine LeO.ite ?_ ?_)
   | (with_reducible refine LeO.bind ?_ (fun _ => ?_))
   | exact ih0 _ _ _ _ _
   | exact LeO.none _
   | refine LeO.ite ?_ ?_
   | refine LeO.bind ?_ (fun _ => ?_)
set_option maxHeartbeats 8000000 in
set_option maxRecDepth 100000 in
theorem qjc.calls (k : Nat) (P0_ : Nat → Prop) (A0 : Option Addr) (c0 : Nat) (l0 : List (S53)) (r : List (S53)) (w : World) (hs0 : Kd.V k53 53 w w.heap.size (fun k_ => P0_ k_) (.slice A0 l0.length c0) l0) (h : qjc.f k l0 = some r) :
  Calls Tryz.prog 66 #[.slice A0 l0.length c0] w fun e w' => ∃ v0_ : Value, e = .returned (v0_) ∧ Kd.V k53 53 w' w.heap.size (fun k_ => (P0_ k_ ∨ w.heap.size ≤ k_)) v0_ r ∧ Below w.heap.size w w' := by
 have hu53 := Tryz.underlying53
 have HO0 := qa.mk (show Kd.V k53 53 w w.heap.size (fun k_ => (P0_ k_ ∨ w.heap.size ≤ k_)) (.slice A0 l0.length c0) l0 from Kd.V_mono hs0 (fun k_ hk => .inl hk))
 have HB := qa.mk (Below.refl w.heap.size w)
 have H : (if 0 ≤ (wrap64 ((l0.length : Int) + 1)) then (if (wrap64 ((l0.length : Int) + 1) : Int).toNat ≤ 35184372088832 then (qjc.l0 k l0 (List.replicate (wrap64 ((l0.length : Int) + 1) : Int).toNat 0) l0 (l0.length : Int) 0) else (none)) else (none)) = some r := h
 clear h
 obtain ⟨ji2, hji2⟩ : ∃ j_ : Int, (wrap64 ((l0.length : Int) + 1)) = j_ := ⟨_, rfl⟩
 replace H : (if 0 ≤ (ji2) then (if (ji2 : Int).toNat ≤ 35184372088832 then (qjc.l0 k l0 (List.replicate (ji2 : Int).toNat 0) l0 (l0.length : Int) 0) else (none)) else (none)) = some r := by first | (rw [hji2] at H; exact H) | (simp only [hji2] at H ⊢; exact H)
 have hji2w : (IntKind.i64.wrap ((l0.length : Int) + 1)) = ji2 := (i64_w _).trans hji2
 by_cases c3 : 0 ≤ (ji2)
 ·rw [if_pos c3] at H
  have c3b0 := eq_true c3
  have c3b1 : decide (0 ≤ (ji2)) = true := decide_eq_true c3
  clear c3
  by_cases c4 : (ji2 : Int).toNat ≤ 35184372088832
  ·rw [if_pos c4] at H
   have c4b0 := eq_true c4
   have c4b1 : decide ((ji2 : Int).toNat ≤ 35184372088832) = true := decide_eq_true c4
   clear c4
   obtain ⟨y195, hy195⟩ : ∃ y_ : List Int, y_ = (List.replicate (ji2 : Int).toNat 0) := ⟨_, rfl⟩
   replace H : (qjc.l0 k l0 y195 l0 (l0.length : Int) 0) = some r := by first | (rw [hy195]; with_reducible exact H) | (have H2_ := (Option.bind_some _ _).symm.trans H; rw [hy195]; with_reducible exact H2_) | (have H2_ := (Option.bind_some _ _).symm.trans H; with_reducible exact H2_) | with_reducible exact H | (rw [hy195]; exact H) | exact H
   have Ny195 := qa.mk hy195
   clear hy195
   have H' := qa.mk H
   clear H
   go_enter Tryz.func66, Tryz.ntmps66
   go_wp2_with (first | ((with_reducible refine qfb (N := 9) rfl ?_); refine Kd.R_make (Kd.int .i64) _ 3 rfl (N := 9) rfl 38 _ _ rfl ji2 rfl rfl Tryz.underlying38 (.int .i64 0) 8 info3 rfl (by decide) (by omega) 0 (ok := fun _ => True) (okp := fun _ => True) rfl (fun _ hk => hk) trivial (of_decide_eq_true zz12) (Nat.le_trans (Nat.mul_le_mul_right _ (of_decide_eq_true zz12 : ji2.toNat ≤ 35184372088832)) (by omega)) (Below.refl _ _) (Nat.le_refl _) ?_; intro v196 w5 ho6 hb hg_ hnew_; clear hg_ hnew_; (first | rw [← Ny195.out] at ho6 | (simp only [Int.reduceToNat] at ho6; rw [← Ny195.out] at ho6)); have n0_ := qa.mk (Kd.V_elder' zz53 (Kd.R_base ho6) hb); have n1_ := qa.mk (Kd.R_lower (Kd.R_newM (M := fun k_ => (w.heap.size ≤ k_)) ho6 (qo zz52) (fun k_ h_ => h_)) (qo zz52)); have n2_ := qa.mk (qp zz52 hb); clear HO0; clear HB; have HO0 := n0_; have HO197 := n1_; have HB := n2_; clear n0_ n1_ n2_; clear hb ho6))
   go_loopg [12] k (fun kq v12 w' => ∃ (x3_1 : List Int) (x12_1 : Int), v12 = .int .i64 x12_1 ∧ qa (qjc.l0 kq l0 x3_1 l0 (l0.length : Int) x12_1 = some r) ∧ qa (kq ≤ k) ∧ qa (Kd.V k53 53 w' w.heap.size (fun k_ => (P0_ k_ ∨ w.heap.size ≤ k_) ∧ some k_ ≠ (v196 : Value).ownBlock) (.slice A0 l0.length c0) l0) ∧ qa (Kd.R (Kd.int .i64) 3 w' w.heap.size (fun k_ => (w.heap.size ≤ k_)) v196 x3_1) ∧ qa (Kd.V k53 53 w' w.heap.size (fun k_ => (P0_ k_ ∨ w.heap.size ≤ k_) ∧ some k_ ≠ (v196 : Value).ownBlock) (.slice A0 l0.length c0) l0) ∧ qa (Below w.heap.size w w'))
   case atStart => exact ⟨(y195), (0), zz7, H', ⟨Nat.le_refl _⟩, ⟨zz53⟩, ⟨by (with_reducible repeat (first | apply Kd.R_alloc | apply Kd.R_drewN | apply Kd.R_drew)); exact Kd.R_mono HO197.out (fun _ hk => hk.1)⟩, ⟨zz53⟩, ⟨zz52⟩⟩
   case round =>
    clear H'
    try clear p2
    try clear c3
    try clear c3b0
    try clear c3b1
    try clear c4
    try clear c4b0
    try clear c4b1
    try clear c6
    try clear p6
    obtain ⟨x3_1, x12_1, rfl, HA, HK1, HO_0, HO_3, HO_10, HB⟩ := hrel
    cases gk with
    | zero => exact absurd HA.out (by simp [qjc.l0])
    | succ k1 =>
     have H := HA.out
     clear HA
     simp only [qjc.l0] at H
     by_cases c7 : x12_1 < (l0.length : Int)
     ·rw [if_pos c7] at H
      have c7b0 : decide (x12_1 < (l0.length : Int)) = true := decide_eq_true c7
      clear c7
      by_cases c8 : 0 ≤ x12_1
      ·rw [if_pos c8] at H
       have c8b0 : decide (0 ≤ x12_1) = true := decide_eq_true c8
       clear c8
       by_cases c9 : x12_1 < (l0.length : Int)
       ·rw [if_pos c9] at H
        have c9b0 : decide (x12_1 < (l0.length : Int)) = true := decide_eq_true c9
        clear c9
        by_cases c10 : 0 ≤ ((qi l0 x12_1).f1)
        ·rw [if_pos c10] at H
         have c10b0 : decide (0 ≤ ((qi l0 x12_1).f1)) = true := decide_eq_true c10
         clear c10
         by_cases c11 : ((qi l0 x12_1).f1) < (x3_1.length : Int)
         ·rw [if_pos c11] at H
          have c11b0 : decide (((qi l0 x12_1).f1) < (x3_1.length : Int)) = true := decide_eq_true c11
          clear c11
          obtain ⟨ji12, hji12⟩ : ∃ j_ : Int, (wrap64 (x12_1 + 1)) = j_ := ⟨_, rfl⟩
          replace H : (if 0 ≤ (ji12) then (if (ji12) < (x3_1.length : Int) then ((some (x3_1.set ((ji12) : Int).toNat (wrap64 ((rd x3_1 ((qi l0 x12_1).f1)) + 1)) : List Int)).bind fun y201 => (if (rd y201 (ji12)) > 64 then (if (ji12) ≤ (l0.length : Int) then (some (l0.take ((ji12) : Int).toNat)) else (none)) else (if x12_1 = 4096 then (if (ji12) ≤ (l0.length : Int) then (some (l0.take ((ji12) : Int).toNat)) else (none)) else (qjc.l0 k1 l0 y201 l0 (l0.length : Int) ji12)))) else (none)) else (none)) = some r := by first | (rw [hji12] at H; exact H) | (simp only [hji12] at H ⊢; exact H)
          have hji12w : (IntKind.i64.wrap (x12_1 + 1)) = ji12 := (i64_w _).trans hji12
          by_cases c13 : 0 ≤ (ji12)
          ·rw [if_pos c13] at H
           have c13b0 : decide (0 ≤ (ji12)) = true := decide_eq_true c13
           clear c13
           by_cases c14 : (ji12) < (x3_1.length : Int)
           ·rw [if_pos c14] at H
            have c14b0 : decide ((ji12) < (x3_1.length : Int)) = true := decide_eq_true c14
            clear c14
            obtain ⟨y201, hy201⟩ : ∃ y_ : List Int, y_ = (x3_1.set ((ji12) : Int).toNat (wrap64 ((rd x3_1 ((qi l0 x12_1).f1)) + 1))) := ⟨_, rfl⟩
            replace H : (if (rd y201 (ji12)) > 64 then (if (ji12) ≤ (l0.length : Int) then (some (l0.take ((ji12) : Int).toNat)) else (none)) else (if x12_1 = 4096 then (if (ji12) ≤ (l0.length : Int) then (some (l0.take ((ji12) : Int).toNat)) else (none)) else (qjc.l0 k1 l0 y201 l0 (l0.length : Int) ji12))) = some r := by first | (rw [hy201]; with_reducible exact H) | (have H2_ := (Option.bind_some _ _).symm.trans H; rw [hy201]; with_reducible exact H2_) | (have H2_ := (Option.bind_some _ _).symm.trans H; with_reducible exact H2_) | with_reducible exact H | (rw [hy201]; exact H) | exact H
            have Ny201 := qa.mk hy201
            clear hy201
            by_cases c16 : (rd y201 (ji12)) > 64
            ·rw [if_pos c16] at H
             have c16b0 : decide (64 < (rd y201 (ji12))) = true := decide_eq_true c16
             clear c16
             have c17b0 := eq_true (of_decide_eq_true zz12 : 0 ≤ (ji12))
             by_cases c18 : (ji12) ≤ (l0.length : Int)
             ·rw [if_pos c18] at H
              have c18b0 := eq_true c18
              have c18b1 : decide ((ji12) ≤ (l0.length : Int)) = true := decide_eq_true c18
              clear c18
              obtain ⟨y203, hy203⟩ : ∃ y_ : List (S53), y_ = (l0.take ((ji12) : Int).toNat) := ⟨_, rfl⟩
              replace H : (some y203) = some r := by first | (rw [hy203]; with_reducible exact H) | (have H2_ := (Option.bind_some _ _).symm.trans H; rw [hy203]; with_reducible exact H2_) | (have H2_ := (Option.bind_some _ _).symm.trans H; with_reducible exact H2_) | with_reducible exact H | (rw [hy203]; exact H) | exact H
              have Ny203 := qa.mk hy203
              clear hy203
              obtain rfl := Option.some.inj H
              have p198 : 0 ≤ (x12_1 : Int) := of_decide_eq_true zz12
              have q198 : x12_1 < (l0.length : Int) := of_decide_eq_true zz12
              obtain ⟨ad198, A198_5, c198_5, e198, hx198_0, hx198_1, hx198_2, hx198_3, hx198_4, hx198_5, hl198_5, hi198_5⟩ := at_T53 (Kd.V_reads' HO_10.out).2.2 x12_1 p198 q198
              cases e198
              obtain ⟨ce198, hce198, hMe198, hcc198⟩ := Kd.V_get HO_10.out z53 x12_1 p198 zz98
              obtain ⟨ua198_5, uc198_5, rfl, ul198_5, ge198_5⟩ := k53_openF hMe198
              have hv198_5 := hcc198 5 _ rfl
              rw [qqc _ _ 5 (by omega)] at hv198_5
              replace hv198_5 := Option.some.inj (hv198_5.symm.trans hx198_5)
              injection hv198_5 with hva_ hvn_ hvc_
              rw [hva_] at ge198_5
              rw [hvc_] at ul198_5
              have HL198_5 := qa.mk (show Kd.V k55 55 _ w.heap.size _ _ ((qi l0 x12_1).f5) from Kd.V_mk ul198_5 ge198_5)
              clear hva_ hvn_ hvc_ ge198_5 ul198_5
              clear hcc198 hce198
              have HR198_5 := qa.mk hi198_5
              have HC198_5 := qa.mk hl198_5
              clear hi198_5 hl198_5
              replace p198 := eq_true p198
              replace q198 := eq_true q198
              go_wp2_with (first | ((with_reducible refine qfb (N := 5) rfl ?_); refine qlb ?hg (N := 5) ?hd (cs := #[.int .i64 0, .int .i64 0, .string (⟨#[]⟩ : ByteArray), .string (⟨#[]⟩ : ByteArray), .string (⟨#[]⟩ : ByteArray), .slice none 0 0]) (t := 53) ?hr ?_; (case hd => rfl); (case hg => rfl); (case hr => exact zz6); intro gb199 hg w19 hbox hb; have n0_ := qa.mk (Kd.V_below (Kd.V_elderB zz56 gb199 (Nat.le_of_eq hg.symm)) hb); have n1_ := qa.mk (Kd.R_below zz55 hb); have n2_ := qa.mk (Kd.V_below (Kd.V_elderB zz59 gb199 (Nat.le_of_eq hg.symm)) hb); have n3_ := qa.mk (Kd.V_below (Kd.V_elderB zz65 gb199 (Nat.le_of_eq hg.symm)) hb); have n4_ := qa.mk (Kd.C_below zz135 hb); have n5_ := qa.mk (qp zz52 hb); have n6_ := qa.mk (hbox); have n7_ := qa.mk ((by rw [hg]; exact (qo zz52) : w.heap.size ≤ gb199)); have n8_ := qa.mk ((by rw [hg]; exact (qo zz52) : w.heap.size ≤ gb199)); clear HO_0; clear HO_3; clear HO_10; clear HL198_5; clear HR198_5; clear HB; have HO_0 := n0_; have HO_3 := n1_; have HO_10 := n2_; have HL198_5 := n3_; have HR198_5 := n4_; have HB := n5_; have BK199 := n6_; have GW199 := n7_; have GE199 := n8_; clear n0_ n1_ n2_ n3_ n4_ n5_ n6_ n7_ n8_; clear hb hbox hg; have hcz20_0 : w19.cell? ⟨gb199, 0, none⟩ = some (.int .i64 0) := (qh BK199.out 0).trans rfl; have hcz20_1 : w19.cell? ⟨gb199, 1, none⟩ = some (.int .i64 0) := (qh BK199.out 1).trans rfl; have hcz20_2 : w19.cell? ⟨gb199, 2, none⟩ = some (.string (⟨#[]⟩ : ByteArray)) := (qh BK199.out 2).trans rfl; have hcz20_3 : w19.cell? ⟨gb199, 3, none⟩ = some (.string (⟨#[]⟩ : ByteArray)) := (qh BK199.out 3).trans rfl; have hcz20_4 : w19.cell? ⟨gb199, 4, none⟩ = some (.string (⟨#[]⟩ : ByteArray)) := (qh BK199.out 4).trans rfl; have hcz20_5 : w19.cell? ⟨gb199, 5, none⟩ = some (.slice none 0 0) := (qh BK199.out 5).trans rfl; have hfz20_0 := qf BK199.out 0; have hfz20_1 := qf BK199.out 1; have hfz20_2 := qf BK199.out 2; have hfz20_3 := qf BK199.out 3; have hfz20_4 := qf BK199.out 4; have hfz20_5 := qf BK199.out 5) | ((with_reducible refine gate_store (t := 53) (p := 5) rfl ?_); refine store_event (t := 53) (p := 5) (v := ?vo_w21) (w1 := ((((((w19.setCell ⟨gb199, 0, none⟩ (.int .i64 ((qi l0 x12_1).f0))).setCell ⟨gb199, 1, none⟩ (.int .i64 ((qi l0 x12_1).f1))).setCell ⟨gb199, 2, none⟩ (.string ((qi l0 x12_1).f2))).setCell ⟨gb199, 3, none⟩ (.string ((qi l0 x12_1).f3))).setCell ⟨gb199, 4, none⟩ (.string ((qi l0 x12_1).f4))).setCell ⟨gb199, 5, none⟩ (.slice A198_5 ((qi l0 x12_1).f5).length c198_5))) ?hg ?ho ?hn ?hr ?_; (case ho => rfl); (case hg => rfl); (case hn => rfl); (case hr => exact zz6); intro w21 hw; have n0_ : qa (Kd.V k53 53 w21 w.heap.size (fun k_ => (P0_ k_ ∨ w.heap.size ≤ k_) ∧ some k_ ≠ (v196 : Value).ownBlock ∧ k_ ≠ gb199) (.slice (some ad198) l0.length c0) l0) := ⟨(by rw [hw]; exact zz177)⟩; have n1_ : qa (Kd.R (Kd.int .i64) 3 w21 w.heap.size (fun k_ => (w.heap.size ≤ k_)) v196 x3_1) := ⟨(by rw [hw]; exact zz173)⟩; have n2_ : qa (Kd.V k53 53 w21 w.heap.size (fun k_ => (P0_ k_ ∨ w.heap.size ≤ k_) ∧ some k_ ≠ (v196 : Value).ownBlock ∧ k_ ≠ gb199) (.slice (some ad198) l0.length c0) l0) := ⟨(by rw [hw]; exact zz178)⟩; have n3_ : qa (Kd.V k55 55 w21 w.heap.size (fun k_ => (P0_ k_ ∨ w.heap.size ≤ k_) ∧ some k_ ≠ (v196 : Value).ownBlock ∧ k_ ≠ gb199) (.slice A198_5 ((qi l0 x12_1).f5).length c198_5) ((qi l0 x12_1).f5)) := ⟨(by rw [hw]; exact zz179)⟩; have n4_ : qa (w21.heap[gb199]? = some (.cells #[.int .i64 ((qi l0 x12_1).f0), .int .i64 ((qi l0 x12_1).f1), .string ((qi l0 x12_1).f2), .string ((qi l0 x12_1).f3), .string ((qi l0 x12_1).f4), .slice A198_5 ((qi l0 x12_1).f5).length c198_5] 53 (0, 0))) := ⟨(by rw [hw]; exact zz190)⟩; have n5_ : qa (Below w.heap.size w w21) := ⟨(by rw [hw]; exact zz77)⟩; clear hw; clear HO_0; clear HO_3; clear HO_10; clear HL198_5; clear BK199; clear HB; have HO_0 := n0_; have HO_3 := n1_; have HO_10 := n2_; have HL198_5 := n3_; have BK199 := n4_; have HB := n5_; clear n0_ n1_ n2_ n3_ n4_ n5_; have hcz22_0 : w21.cell? ⟨gb199, 0, none⟩ = some (.int .i64 ((qi l0 x12_1).f0)) := (qh BK199.out 0).trans rfl; have hcz22_1 : w21.cell? ⟨gb199, 1, none⟩ = some (.int .i64 ((qi l0 x12_1).f1)) := (qh BK199.out 1).trans rfl; have hcz22_2 : w21.cell? ⟨gb199, 2, none⟩ = some (.string ((qi l0 x12_1).f2)) := (qh BK199.out 2).trans rfl; have hcz22_3 : w21.cell? ⟨gb199, 3, none⟩ = some (.string ((qi l0 x12_1).f3)) := (qh BK199.out 3).trans rfl; have hcz22_4 : w21.cell? ⟨gb199, 4, none⟩ = some (.string ((qi l0 x12_1).f4)) := (qh BK199.out 4).trans rfl; have hcz22_5 : w21.cell? ⟨gb199, 5, none⟩ = some (.slice A198_5 ((qi l0 x12_1).f5).length c198_5) := (qh BK199.out 5).trans rfl; have hfz22_0 := qf BK199.out 0; have hfz22_1 := qf BK199.out 1; have hfz22_2 := qf BK199.out 2; have hfz22_3 := qf BK199.out 3; have hfz22_4 := qf BK199.out 4; have hfz22_5 := qf BK199.out 5; obtain ⟨Ao23, co23, eo23⟩ := Kd.R_slice HO_3.out; subst eo23; have p200 : 0 ≤ (((qi l0 x12_1).f1) : Int) := of_decide_eq_true zz12; have q200 : ((qi l0 x12_1).f1) < (x3_1.length : Int) := of_decide_eq_true zz12; obtain ⟨ad200, e200, hx200_0⟩ := Kd.at_int (Kd.R_reads' HO_3.out).2.2 ((qi l0 x12_1).f1) p200 q200; cases e200; replace p200 := eq_true p200; replace q200 := eq_true q200; have p15 : 0 ≤ ((ji12) : Int) := of_decide_eq_true zz12; have q15 : ((ji12) : Int) < ((x3_1.length : Int) : Int) := of_decide_eq_true zz12; obtain ⟨go15, co15, eo15, gb15, gl15, cl15, HG15⟩ := Kd.R_form HO_3.out (by omega); (first | cases eo15 | (injection eo15 with ea_ en_ ec_; (first | subst ea_ | (injection ea_ with ea_; subst ea_)); subst ec_; clear en_)); have GB15 := qa.mk gb15; have GG15 := qa.mk HG15; clear gb15 gl15 HG15; (first | simp only [add_plain] at hx200_0 | skip); obtain ⟨hx15_0, hf15_0⟩ := Kd.R_celln 0 HO_3.out ((ji12) : Int) p15 q15; replace p15 := eq_true p15; replace q15 := eq_true q15; obtain ⟨hy24_, hz24_⟩ := Kd.R_celln 0 HO_3.out ((ji12) : Int) (of_decide_eq_true zz12) (of_decide_eq_true zz12); have HP24 := Kd.R_putg HO_3.out ((ji12) : Int) (wrap64 ((rd x3_1 ((qi l0 x12_1).f1)) + 1))) | ((with_reducible refine gate_store (t := 3) (p := 26) rfl ?_); refine store_event (t := 3) (p := 26) (v := ?vo_w25) (w1 := (w21.setCell ⟨go15, ((ji12) : Int).toNat, none⟩ (.int .i64 (wrap64 ((rd x3_1 ((qi l0 x12_1).f1)) + 1))))) ?hg ?ho ?hn ?hr ?_; (case ho => rfl); (case hg => rfl); (case hn => rfl); (case hr => exact zz6); intro w25 hw; have hg : w21.grownBy w25 (some go15) := (by rw [hw]; exact HP24.2); have hp_ : Kd.R (Kd.int .i64) 3 w25 w.heap.size (fun k_ => (w.heap.size ≤ k_)) (.slice (some ⟨go15, 0, none⟩) x3_1.length co23) y201 := (by rw [hw, Ny201.out]; exact HP24.1); clear HP24; have n0_ := qa.mk (Kd.V_afterv (v := (.slice (some ⟨go15, 0, none⟩) x3_1.length co23)) (v1 := (.slice (some ⟨go15, 0, none⟩) x3_1.length co23)) (ok := (fun k_ => (P0_ k_ ∨ w.heap.size ≤ k_) ∧ k_ ≠ gb199)) zz103 hg (.inl rfl)); have n1_ := qa.mk (hp_); have n2_ := qa.mk (Kd.V_afterv (v := (.slice (some ⟨go15, 0, none⟩) x3_1.length co23)) (v1 := (.slice (some ⟨go15, 0, none⟩) x3_1.length co23)) (ok := (fun k_ => (P0_ k_ ∨ w.heap.size ≤ k_) ∧ k_ ≠ gb199)) zz109 hg (.inl rfl)); have n3_ := qa.mk (Kd.V_afterv (v := (.slice (some ⟨go15, 0, none⟩) x3_1.length co23)) (v1 := (.slice (some ⟨go15, 0, none⟩) x3_1.length co23)) (ok := (fun k_ => (P0_ k_ ∨ w.heap.size ≤ k_) ∧ k_ ≠ gb199)) zz111 hg (.inl rfl)); have n4_ := qa.mk (blk_grown (g := gb199) (o := .cells #[.int .i64 ((qi l0 x12_1).f0), .int .i64 ((qi l0 x12_1).f1), .string ((qi l0 x12_1).f2), .string ((qi l0 x12_1).f3), .string ((qi l0 x12_1).f4), .slice A198_5 ((qi l0 x12_1).f5).length c198_5] 53 (0, 0)) zz42 hg (Kd.R_ne HO_3.out BK199.out (by decide))); have n5_ := qa.mk ((by rw [hw]; exact qm (HB.out) GB15.out : Below w.heap.size w w25)); clear HO_0; clear HO_3; clear HO_10; clear HL198_5; clear BK199; clear HB; have HO_0 := n0_; have HO_3 := n1_; have HO_10 := n2_; have HL198_5 := n3_; have BK199 := n4_; have HB := n5_; clear n0_ n1_ n2_ n3_ n4_ n5_; clear hg hw hp_; have p202 : 0 ≤ ((ji12) : Int) := of_decide_eq_true zz12; have q202 : (ji12) < (y201.length : Int) := (by have h_ : ((ji12) : Int) < ((x3_1.length : Int) : Int) := of_decide_eq_true zz12; first | (have e_ := (Kd.R_reads' HO_3.out).1; omega) | simpa only [Ny201.out, List.length_set] using h_); have ql202 : (((ji12) : Int) < ((x3_1.length : Int) : Int)) = True := eq_true (of_decide_eq_true zz12); obtain ⟨ad202, e202, hx202_0⟩ := Kd.at_int (Kd.R_reads' HO_3.out).2.2 (ji12) p202 q202; obtain rfl : (⟨go15, 0, none⟩ : Addr) = ad202 := (by injection e202); (first | simp only [add_plain] at hx202_0 | simp only [add_at] at hx202_0 | simp only [Addr.add, Nat.zero_add] at hx202_0 | skip); replace p202 := eq_true p202; replace q202 := eq_true q202; have q26 : ((ji12) : Int) ≤ ((l0.length : Int) : Int) := of_decide_eq_true zz12; obtain ⟨i026, hi026, _, hsz26, _⟩ := info_parts info53; have hroom26 : l0.length ≤ c0 := (Kd.V_reads' HO_0.out).2.1; have hC26 : Kd.F k53 _ _ (some ad198) l0.length l0 := (Kd.V_at (base := w.heap.size) HO_0.out).2.2; have hcut26 := cut_to (P := Tryz.prog) 36 53 .i64 Tryz.underlying36 hi026 (some ad198) l0.length c0 (ji12) (of_decide_eq_true zz12) q26 hroom26; have hr26 := Kd.F_take (m := ((ji12) : Int).toNat) hC26 (by omega); have hy26 : y203.length = ((ji12) : Int).toNat := (by rw [Ny203.out, List.length_take]; omega); rw [← Ny203.out] at hr26; rw [← hy26] at hcut26; have HO207 := qa.mk (show Kd.V k53 53 _ w.heap.size _ (.slice (some ad198) y203.length c0) y203 from Kd.V_mk (by omega) hr26); have HC207 := qa.mk (show y203.length ≤ c0 from by omega); clear hr26 hC26 hroom26 hi026 hsz26; have KY26 := qa.mk hy26; clear hy26; replace q26 := eq_true q26))
              go_ret
              exact ⟨_, zz142, by (with_reducible repeat (first | apply Kd.V_alloc | apply Kd.V_drewN | apply Kd.V_drew)); exact Kd.V_mono HO207.out (fun _ hk => hk.1.1), zz77⟩
             ·rw [if_neg c18] at H
              exact absurd H (by simp)
            ·rw [if_neg c16] at H
             have c16b0 : decide (64 < (rd y201 (ji12))) = false := decide_eq_false c16
             clear c16
             by_cases c27 : x12_1 = 4096
             ·rw [if_pos c27] at H
              have c27b0 : (x12_1 == 4096) = true := beq_iff_eq.mpr c27
              have c27b1 : (x12_1 != 4096) = false := bne_eq_false_iff_eq.mpr c27
              clear c27
              have c28b0 := eq_true (of_decide_eq_true zz12 : 0 ≤ (ji12))
              by_cases c29 : (ji12) ≤ (l0.length : Int)
              ·rw [if_pos c29] at H
               have c29b0 := eq_true c29
               have c29b1 : decide ((ji12) ≤ (l0.length : Int)) = true := decide_eq_true c29
               clear c29
               obtain ⟨y208, hy208⟩ : ∃ y_ : List (S53), y_ = (l0.take ((ji12) : Int).toNat) := ⟨_, rfl⟩
               replace H : (some y208) = some r := by first | (rw [hy208]; with_reducible exact H) | (have H2_ := (Option.bind_some _ _).symm.trans H; rw [hy208]; with_reducible exact H2_) | (have H2_ := (Option.bind_some _ _).symm.trans H; with_reducible exact H2_) | with_reducible exact H | (rw [hy208]; exact H) | exact H
               have Ny208 := qa.mk hy208
               clear hy208
               obtain rfl := Option.some.inj H
               have p198 : 0 ≤ (x12_1 : Int) := of_decide_eq_true zz12
               have q198 : x12_1 < (l0.length : Int) := of_decide_eq_true zz12
               obtain ⟨ad198, A198_5, c198_5, e198, hx198_0, hx198_1, hx198_2, hx198_3, hx198_4, hx198_5, hl198_5, hi198_5⟩ := at_T53 (Kd.V_reads' HO_10.out).2.2 x12_1 p198 q198
               cases e198
               obtain ⟨ce198, hce198, hMe198, hcc198⟩ := Kd.V_get HO_10.out z53 x12_1 p198 zz98
               obtain ⟨ua198_5, uc198_5, rfl, ul198_5, ge198_5⟩ := k53_openF hMe198
               have hv198_5 := hcc198 5 _ rfl
               rw [qqc _ _ 5 (by omega)] at hv198_5
               replace hv198_5 := Option.some.inj (hv198_5.symm.trans hx198_5)
               injection hv198_5 with hva_ hvn_ hvc_
               rw [hva_] at ge198_5
               rw [hvc_] at ul198_5
               have HL198_5 := qa.mk (show Kd.V k55 55 _ w.heap.size _ _ ((qi l0 x12_1).f5) from Kd.V_mk ul198_5 ge198_5)
               clear hva_ hvn_ hvc_ ge198_5 ul198_5
               clear hcc198 hce198
               have HR198_5 := qa.mk hi198_5
               have HC198_5 := qa.mk hl198_5
               clear hi198_5 hl198_5
               replace p198 := eq_true p198
               replace q198 := eq_true q198
               go_wp2_with (first | ((with_reducible refine qfb (N := 5) rfl ?_); refine qlb ?hg (N := 5) ?hd (cs := #[.int .i64 0, .int .i64 0, .string (⟨#[]⟩ : ByteArray), .string (⟨#[]⟩ : ByteArray), .string (⟨#[]⟩ : ByteArray), .slice none 0 0]) (t := 53) ?hr ?_; (case hd => rfl); (case hg => rfl); (case hr => exact zz6); intro gb199 hg w30 hbox hb; have n0_ := qa.mk (Kd.V_below (Kd.V_elderB zz56 gb199 (Nat.le_of_eq hg.symm)) hb); have n1_ := qa.mk (Kd.R_below zz55 hb); have n2_ := qa.mk (Kd.V_below (Kd.V_elderB zz59 gb199 (Nat.le_of_eq hg.symm)) hb); have n3_ := qa.mk (Kd.V_below (Kd.V_elderB zz65 gb199 (Nat.le_of_eq hg.symm)) hb); have n4_ := qa.mk (Kd.C_below zz135 hb); have n5_ := qa.mk (qp zz52 hb); have n6_ := qa.mk (hbox); have n7_ := qa.mk ((by rw [hg]; exact (qo zz52) : w.heap.size ≤ gb199)); have n8_ := qa.mk ((by rw [hg]; exact (qo zz52) : w.heap.size ≤ gb199)); clear HO_0; clear HO_3; clear HO_10; clear HL198_5; clear HR198_5; clear HB; have HO_0 := n0_; have HO_3 := n1_; have HO_10 := n2_; have HL198_5 := n3_; have HR198_5 := n4_; have HB := n5_; have BK199 := n6_; have GW199 := n7_; have GE199 := n8_; clear n0_ n1_ n2_ n3_ n4_ n5_ n6_ n7_ n8_; clear hb hbox hg; have hcz31_0 : w30.cell? ⟨gb199, 0, none⟩ = some (.int .i64 0) := (qh BK199.out 0).trans rfl; have hcz31_1 : w30.cell? ⟨gb199, 1, none⟩ = some (.int .i64 0) := (qh BK199.out 1).trans rfl; have hcz31_2 : w30.cell? ⟨gb199, 2, none⟩ = some (.string (⟨#[]⟩ : ByteArray)) := (qh BK199.out 2).trans rfl; have hcz31_3 : w30.cell? ⟨gb199, 3, none⟩ = some (.string (⟨#[]⟩ : ByteArray)) := (qh BK199.out 3).trans rfl; have hcz31_4 : w30.cell? ⟨gb199, 4, none⟩ = some (.string (⟨#[]⟩ : ByteArray)) := (qh BK199.out 4).trans rfl; have hcz31_5 : w30.cell? ⟨gb199, 5, none⟩ = some (.slice none 0 0) := (qh BK199.out 5).trans rfl; have hfz31_0 := qf BK199.out 0; have hfz31_1 := qf BK199.out 1; have hfz31_2 := qf BK199.out 2; have hfz31_3 := qf BK199.out 3; have hfz31_4 := qf BK199.out 4; have hfz31_5 := qf BK199.out 5) | ((with_reducible refine gate_store (t := 53) (p := 5) rfl ?_); refine store_event (t := 53) (p := 5) (v := ?vo_w32) (w1 := ((((((w30.setCell ⟨gb199, 0, none⟩ (.int .i64 ((qi l0 x12_1).f0))).setCell ⟨gb199, 1, none⟩ (.int .i64 ((qi l0 x12_1).f1))).setCell ⟨gb199, 2, none⟩ (.string ((qi l0 x12_1).f2))).setCell ⟨gb199, 3, none⟩ (.string ((qi l0 x12_1).f3))).setCell ⟨gb199, 4, none⟩ (.string ((qi l0 x12_1).f4))).setCell ⟨gb199, 5, none⟩ (.slice A198_5 ((qi l0 x12_1).f5).length c198_5))) ?hg ?ho ?hn ?hr ?_; (case ho => rfl); (case hg => rfl); (case hn => rfl); (case hr => exact zz6); intro w32 hw; have n0_ : qa (Kd.V k53 53 w32 w.heap.size (fun k_ => (P0_ k_ ∨ w.heap.size ≤ k_) ∧ some k_ ≠ (v196 : Value).ownBlock ∧ k_ ≠ gb199) (.slice (some ad198) l0.length c0) l0) := ⟨(by rw [hw]; exact zz177)⟩; have n1_ : qa (Kd.R (Kd.int .i64) 3 w32 w.heap.size (fun k_ => (w.heap.size ≤ k_)) v196 x3_1) := ⟨(by rw [hw]; exact zz173)⟩; have n2_ : qa (Kd.V k53 53 w32 w.heap.size (fun k_ => (P0_ k_ ∨ w.heap.size ≤ k_) ∧ some k_ ≠ (v196 : Value).ownBlock ∧ k_ ≠ gb199) (.slice (some ad198) l0.length c0) l0) := ⟨(by rw [hw]; exact zz178)⟩; have n3_ : qa (Kd.V k55 55 w32 w.heap.size (fun k_ => (P0_ k_ ∨ w.heap.size ≤ k_) ∧ some k_ ≠ (v196 : Value).ownBlock ∧ k_ ≠ gb199) (.slice A198_5 ((qi l0 x12_1).f5).length c198_5) ((qi l0 x12_1).f5)) := ⟨(by rw [hw]; exact zz179)⟩; have n4_ : qa (w32.heap[gb199]? = some (.cells #[.int .i64 ((qi l0 x12_1).f0), .int .i64 ((qi l0 x12_1).f1), .string ((qi l0 x12_1).f2), .string ((qi l0 x12_1).f3), .string ((qi l0 x12_1).f4), .slice A198_5 ((qi l0 x12_1).f5).length c198_5] 53 (0, 0))) := ⟨(by rw [hw]; exact zz190)⟩; have n5_ : qa (Below w.heap.size w w32) := ⟨(by rw [hw]; exact zz77)⟩; clear hw; clear HO_0; clear HO_3; clear HO_10; clear HL198_5; clear BK199; clear HB; have HO_0 := n0_; have HO_3 := n1_; have HO_10 := n2_; have HL198_5 := n3_; have BK199 := n4_; have HB := n5_; clear n0_ n1_ n2_ n3_ n4_ n5_; have hcz33_0 : w32.cell? ⟨gb199, 0, none⟩ = some (.int .i64 ((qi l0 x12_1).f0)) := (qh BK199.out 0).trans rfl; have hcz33_1 : w32.cell? ⟨gb199, 1, none⟩ = some (.int .i64 ((qi l0 x12_1).f1)) := (qh BK199.out 1).trans rfl; have hcz33_2 : w32.cell? ⟨gb199, 2, none⟩ = some (.string ((qi l0 x12_1).f2)) := (qh BK199.out 2).trans rfl; have hcz33_3 : w32.cell? ⟨gb199, 3, none⟩ = some (.string ((qi l0 x12_1).f3)) := (qh BK199.out 3).trans rfl; have hcz33_4 : w32.cell? ⟨gb199, 4, none⟩ = some (.string ((qi l0 x12_1).f4)) := (qh BK199.out 4).trans rfl; have hcz33_5 : w32.cell? ⟨gb199, 5, none⟩ = some (.slice A198_5 ((qi l0 x12_1).f5).length c198_5) := (qh BK199.out 5).trans rfl; have hfz33_0 := qf BK199.out 0; have hfz33_1 := qf BK199.out 1; have hfz33_2 := qf BK199.out 2; have hfz33_3 := qf BK199.out 3; have hfz33_4 := qf BK199.out 4; have hfz33_5 := qf BK199.out 5; obtain ⟨Ao34, co34, eo34⟩ := Kd.R_slice HO_3.out; subst eo34; have p200 : 0 ≤ (((qi l0 x12_1).f1) : Int) := of_decide_eq_true zz12; have q200 : ((qi l0 x12_1).f1) < (x3_1.length : Int) := of_decide_eq_true zz12; obtain ⟨ad200, e200, hx200_0⟩ := Kd.at_int (Kd.R_reads' HO_3.out).2.2 ((qi l0 x12_1).f1) p200 q200; cases e200; replace p200 := eq_true p200; replace q200 := eq_true q200; have p15 : 0 ≤ ((ji12) : Int) := of_decide_eq_true zz12; have q15 : ((ji12) : Int) < ((x3_1.length : Int) : Int) := of_decide_eq_true zz12; obtain ⟨go15, co15, eo15, gb15, gl15, cl15, HG15⟩ := Kd.R_form HO_3.out (by omega); (first | cases eo15 | (injection eo15 with ea_ en_ ec_; (first | subst ea_ | (injection ea_ with ea_; subst ea_)); subst ec_; clear en_)); have GB15 := qa.mk gb15; have GG15 := qa.mk HG15; clear gb15 gl15 HG15; (first | simp only [add_plain] at hx200_0 | skip); obtain ⟨hx15_0, hf15_0⟩ := Kd.R_celln 0 HO_3.out ((ji12) : Int) p15 q15; replace p15 := eq_true p15; replace q15 := eq_true q15; obtain ⟨hy35_, hz35_⟩ := Kd.R_celln 0 HO_3.out ((ji12) : Int) (of_decide_eq_true zz12) (of_decide_eq_true zz12); have HP35 := Kd.R_putg HO_3.out ((ji12) : Int) (wrap64 ((rd x3_1 ((qi l0 x12_1).f1)) + 1))) | ((with_reducible refine gate_store (t := 3) (p := 26) rfl ?_); refine store_event (t := 3) (p := 26) (v := ?vo_w36) (w1 := (w32.setCell ⟨go15, ((ji12) : Int).toNat, none⟩ (.int .i64 (wrap64 ((rd x3_1 ((qi l0 x12_1).f1)) + 1))))) ?hg ?ho ?hn ?hr ?_; (case ho => rfl); (case hg => rfl); (case hn => rfl); (case hr => exact zz6); intro w36 hw; have hg : w32.grownBy w36 (some go15) := (by rw [hw]; exact HP35.2); have hp_ : Kd.R (Kd.int .i64) 3 w36 w.heap.size (fun k_ => (w.heap.size ≤ k_)) (.slice (some ⟨go15, 0, none⟩) x3_1.length co34) y201 := (by rw [hw, Ny201.out]; exact HP35.1); clear HP35; have n0_ := qa.mk (Kd.V_afterv (v := (.slice (some ⟨go15, 0, none⟩) x3_1.length co34)) (v1 := (.slice (some ⟨go15, 0, none⟩) x3_1.length co34)) (ok := (fun k_ => (P0_ k_ ∨ w.heap.size ≤ k_) ∧ k_ ≠ gb199)) zz103 hg (.inl rfl)); have n1_ := qa.mk (hp_); have n2_ := qa.mk (Kd.V_afterv (v := (.slice (some ⟨go15, 0, none⟩) x3_1.length co34)) (v1 := (.slice (some ⟨go15, 0, none⟩) x3_1.length co34)) (ok := (fun k_ => (P0_ k_ ∨ w.heap.size ≤ k_) ∧ k_ ≠ gb199)) zz109 hg (.inl rfl)); have n3_ := qa.mk (Kd.V_afterv (v := (.slice (some ⟨go15, 0, none⟩) x3_1.length co34)) (v1 := (.slice (some ⟨go15, 0, none⟩) x3_1.length co34)) (ok := (fun k_ => (P0_ k_ ∨ w.heap.size ≤ k_) ∧ k_ ≠ gb199)) zz111 hg (.inl rfl)); have n4_ := qa.mk (blk_grown (g := gb199) (o := .cells #[.int .i64 ((qi l0 x12_1).f0), .int .i64 ((qi l0 x12_1).f1), .string ((qi l0 x12_1).f2), .string ((qi l0 x12_1).f3), .string ((qi l0 x12_1).f4), .slice A198_5 ((qi l0 x12_1).f5).length c198_5] 53 (0, 0)) zz42 hg (Kd.R_ne HO_3.out BK199.out (by decide))); have n5_ := qa.mk ((by rw [hw]; exact qm (HB.out) GB15.out : Below w.heap.size w w36)); clear HO_0; clear HO_3; clear HO_10; clear HL198_5; clear BK199; clear HB; have HO_0 := n0_; have HO_3 := n1_; have HO_10 := n2_; have HL198_5 := n3_; have BK199 := n4_; have HB := n5_; clear n0_ n1_ n2_ n3_ n4_ n5_; clear hg hw hp_; have p202 : 0 ≤ ((ji12) : Int) := of_decide_eq_true zz12; have q202 : (ji12) < (y201.length : Int) := (by have h_ : ((ji12) : Int) < ((x3_1.length : Int) : Int) := of_decide_eq_true zz12; first | (have e_ := (Kd.R_reads' HO_3.out).1; omega) | simpa only [Ny201.out, List.length_set] using h_); have ql202 : (((ji12) : Int) < ((x3_1.length : Int) : Int)) = True := eq_true (of_decide_eq_true zz12); obtain ⟨ad202, e202, hx202_0⟩ := Kd.at_int (Kd.R_reads' HO_3.out).2.2 (ji12) p202 q202; obtain rfl : (⟨go15, 0, none⟩ : Addr) = ad202 := (by injection e202); (first | simp only [add_plain] at hx202_0 | simp only [add_at] at hx202_0 | simp only [Addr.add, Nat.zero_add] at hx202_0 | skip); replace p202 := eq_true p202; replace q202 := eq_true q202; have q37 : ((ji12) : Int) ≤ ((l0.length : Int) : Int) := of_decide_eq_true zz12; obtain ⟨i037, hi037, _, hsz37, _⟩ := info_parts info53; have hroom37 : l0.length ≤ c0 := (Kd.V_reads' HO_0.out).2.1; have hC37 : Kd.F k53 _ _ (some ad198) l0.length l0 := (Kd.V_at (base := w.heap.size) HO_0.out).2.2; have hcut37 := cut_to (P := Tryz.prog) 36 53 .i64 Tryz.underlying36 hi037 (some ad198) l0.length c0 (ji12) (of_decide_eq_true zz12) q37 hroom37; have hr37 := Kd.F_take (m := ((ji12) : Int).toNat) hC37 (by omega); have hy37 : y208.length = ((ji12) : Int).toNat := (by rw [Ny208.out, List.length_take]; omega); rw [← Ny208.out] at hr37; rw [← hy37] at hcut37; have HO212 := qa.mk (show Kd.V k53 53 _ w.heap.size _ (.slice (some ad198) y208.length c0) y208 from Kd.V_mk (by omega) hr37); have HC212 := qa.mk (show y208.length ≤ c0 from by omega); clear hr37 hC37 hroom37 hi037 hsz37; have KY37 := qa.mk hy37; clear hy37; replace q37 := eq_true q37))
               go_ret
               exact ⟨_, zz142, by (with_reducible repeat (first | apply Kd.V_alloc | apply Kd.V_drewN | apply Kd.V_drew)); exact Kd.V_mono HO212.out (fun _ hk => hk.1.1), zz77⟩
              ·rw [if_neg c29] at H
               exact absurd H (by simp)
             ·rw [if_neg c27] at H
              have c27b0 : (x12_1 == 4096) = false := beq_eq_false_iff_ne.mpr c27
              have c27b1 : (x12_1 != 4096) = true := bne_iff_ne.mpr c27
              have H' := qa.mk H
              clear H
              have p198 : 0 ≤ (x12_1 : Int) := of_decide_eq_true zz12
              have q198 : x12_1 < (l0.length : Int) := of_decide_eq_true zz12
              obtain ⟨ad198, A198_5, c198_5, e198, hx198_0, hx198_1, hx198_2, hx198_3, hx198_4, hx198_5, hl198_5, hi198_5⟩ := at_T53 (Kd.V_reads' HO_10.out).2.2 x12_1 p198 q198
              cases e198
              obtain ⟨ce198, hce198, hMe198, hcc198⟩ := Kd.V_get HO_10.out z53 x12_1 p198 zz98
              obtain ⟨ua198_5, uc198_5, rfl, ul198_5, ge198_5⟩ := k53_openF hMe198
              have hv198_5 := hcc198 5 _ rfl
              rw [qqc _ _ 5 (by omega)] at hv198_5
              replace hv198_5 := Option.some.inj (hv198_5.symm.trans hx198_5)
              injection hv198_5 with hva_ hvn_ hvc_
              rw [hva_] at ge198_5
              rw [hvc_] at ul198_5
              have HL198_5 := qa.mk (show Kd.V k55 55 _ w.heap.size _ _ ((qi l0 x12_1).f5) from Kd.V_mk ul198_5 ge198_5)
              clear hva_ hvn_ hvc_ ge198_5 ul198_5
              clear hcc198 hce198
              have HR198_5 := qa.mk hi198_5
              have HC198_5 := qa.mk hl198_5
              clear hi198_5 hl198_5
              replace p198 := eq_true p198
              replace q198 := eq_true q198
              go_wp2_with (first | ((with_reducible refine qfb (N := 5) rfl ?_); refine qlb ?hg (N := 5) ?hd (cs := #[.int .i64 0, .int .i64 0, .string (⟨#[]⟩ : ByteArray), .string (⟨#[]⟩ : ByteArray), .string (⟨#[]⟩ : ByteArray), .slice none 0 0]) (t := 53) ?hr ?_; (case hd => rfl); (case hg => rfl); (case hr => exact zz6); intro gb199 hg w38 hbox hb; have n0_ := qa.mk (Kd.V_below (Kd.V_elderB zz56 gb199 (Nat.le_of_eq hg.symm)) hb); have n1_ := qa.mk (Kd.R_below zz55 hb); have n2_ := qa.mk (Kd.V_below (Kd.V_elderB zz59 gb199 (Nat.le_of_eq hg.symm)) hb); have n3_ := qa.mk (Kd.V_below (Kd.V_elderB zz65 gb199 (Nat.le_of_eq hg.symm)) hb); have n4_ := qa.mk (Kd.C_below zz135 hb); have n5_ := qa.mk (qp zz52 hb); have n6_ := qa.mk (hbox); have n7_ := qa.mk ((by rw [hg]; exact (qo zz52) : w.heap.size ≤ gb199)); have n8_ := qa.mk ((by rw [hg]; exact (qo zz52) : w.heap.size ≤ gb199)); clear HO_0; clear HO_3; clear HO_10; clear HL198_5; clear HR198_5; clear HB; have HO_0 := n0_; have HO_3 := n1_; have HO_10 := n2_; have HL198_5 := n3_; have HR198_5 := n4_; have HB := n5_; have BK199 := n6_; have GW199 := n7_; have GE199 := n8_; clear n0_ n1_ n2_ n3_ n4_ n5_ n6_ n7_ n8_; clear hb hbox hg; have hcz39_0 : w38.cell? ⟨gb199, 0, none⟩ = some (.int .i64 0) := (qh BK199.out 0).trans rfl; have hcz39_1 : w38.cell? ⟨gb199, 1, none⟩ = some (.int .i64 0) := (qh BK199.out 1).trans rfl; have hcz39_2 : w38.cell? ⟨gb199, 2, none⟩ = some (.string (⟨#[]⟩ : ByteArray)) := (qh BK199.out 2).trans rfl; have hcz39_3 : w38.cell? ⟨gb199, 3, none⟩ = some (.string (⟨#[]⟩ : ByteArray)) := (qh BK199.out 3).trans rfl; have hcz39_4 : w38.cell? ⟨gb199, 4, none⟩ = some (.string (⟨#[]⟩ : ByteArray)) := (qh BK199.out 4).trans rfl; have hcz39_5 : w38.cell? ⟨gb199, 5, none⟩ = some (.slice none 0 0) := (qh BK199.out 5).trans rfl; have hfz39_0 := qf BK199.out 0; have hfz39_1 := qf BK199.out 1; have hfz39_2 := qf BK199.out 2; have hfz39_3 := qf BK199.out 3; have hfz39_4 := qf BK199.out 4; have hfz39_5 := qf BK199.out 5) | ((with_reducible refine gate_store (t := 53) (p := 5) rfl ?_); refine store_event (t := 53) (p := 5) (v := ?vo_w40) (w1 := ((((((w38.setCell ⟨gb199, 0, none⟩ (.int .i64 ((qi l0 x12_1).f0))).setCell ⟨gb199, 1, none⟩ (.int .i64 ((qi l0 x12_1).f1))).setCell ⟨gb199, 2, none⟩ (.string ((qi l0 x12_1).f2))).setCell ⟨gb199, 3, none⟩ (.string ((qi l0 x12_1).f3))).setCell ⟨gb199, 4, none⟩ (.string ((qi l0 x12_1).f4))).setCell ⟨gb199, 5, none⟩ (.slice A198_5 ((qi l0 x12_1).f5).length c198_5))) ?hg ?ho ?hn ?hr ?_; (case ho => rfl); (case hg => rfl); (case hn => rfl); (case hr => exact zz6); intro w40 hw; have n0_ : qa (Kd.V k53 53 w40 w.heap.size (fun k_ => (P0_ k_ ∨ w.heap.size ≤ k_) ∧ some k_ ≠ (v196 : Value).ownBlock ∧ k_ ≠ gb199) (.slice (some ad198) l0.length c0) l0) := ⟨(by rw [hw]; exact zz177)⟩; have n1_ : qa (Kd.R (Kd.int .i64) 3 w40 w.heap.size (fun k_ => (w.heap.size ≤ k_)) v196 x3_1) := ⟨(by rw [hw]; exact zz173)⟩; have n2_ : qa (Kd.V k53 53 w40 w.heap.size (fun k_ => (P0_ k_ ∨ w.heap.size ≤ k_) ∧ some k_ ≠ (v196 : Value).ownBlock ∧ k_ ≠ gb199) (.slice (some ad198) l0.length c0) l0) := ⟨(by rw [hw]; exact zz178)⟩; have n3_ : qa (Kd.V k55 55 w40 w.heap.size (fun k_ => (P0_ k_ ∨ w.heap.size ≤ k_) ∧ some k_ ≠ (v196 : Value).ownBlock ∧ k_ ≠ gb199) (.slice A198_5 ((qi l0 x12_1).f5).length c198_5) ((qi l0 x12_1).f5)) := ⟨(by rw [hw]; exact zz179)⟩; have n4_ : qa (w40.heap[gb199]? = some (.cells #[.int .i64 ((qi l0 x12_1).f0), .int .i64 ((qi l0 x12_1).f1), .string ((qi l0 x12_1).f2), .string ((qi l0 x12_1).f3), .string ((qi l0 x12_1).f4), .slice A198_5 ((qi l0 x12_1).f5).length c198_5] 53 (0, 0))) := ⟨(by rw [hw]; exact zz190)⟩; have n5_ : qa (Below w.heap.size w w40) := ⟨(by rw [hw]; exact zz77)⟩; clear hw; clear HO_0; clear HO_3; clear HO_10; clear HL198_5; clear BK199; clear HB; have HO_0 := n0_; have HO_3 := n1_; have HO_10 := n2_; have HL198_5 := n3_; have BK199 := n4_; have HB := n5_; clear n0_ n1_ n2_ n3_ n4_ n5_; have hcz41_0 : w40.cell? ⟨gb199, 0, none⟩ = some (.int .i64 ((qi l0 x12_1).f0)) := (qh BK199.out 0).trans rfl; have hcz41_1 : w40.cell? ⟨gb199, 1, none⟩ = some (.int .i64 ((qi l0 x12_1).f1)) := (qh BK199.out 1).trans rfl; have hcz41_2 : w40.cell? ⟨gb199, 2, none⟩ = some (.string ((qi l0 x12_1).f2)) := (qh BK199.out 2).trans rfl; have hcz41_3 : w40.cell? ⟨gb199, 3, none⟩ = some (.string ((qi l0 x12_1).f3)) := (qh BK199.out 3).trans rfl; have hcz41_4 : w40.cell? ⟨gb199, 4, none⟩ = some (.string ((qi l0 x12_1).f4)) := (qh BK199.out 4).trans rfl; have hcz41_5 : w40.cell? ⟨gb199, 5, none⟩ = some (.slice A198_5 ((qi l0 x12_1).f5).length c198_5) := (qh BK199.out 5).trans rfl; have hfz41_0 := qf BK199.out 0; have hfz41_1 := qf BK199.out 1; have hfz41_2 := qf BK199.out 2; have hfz41_3 := qf BK199.out 3; have hfz41_4 := qf BK199.out 4; have hfz41_5 := qf BK199.out 5; obtain ⟨Ao42, co42, eo42⟩ := Kd.R_slice HO_3.out; subst eo42; have p200 : 0 ≤ (((qi l0 x12_1).f1) : Int) := of_decide_eq_true zz12; have q200 : ((qi l0 x12_1).f1) < (x3_1.length : Int) := of_decide_eq_true zz12; obtain ⟨ad200, e200, hx200_0⟩ := Kd.at_int (Kd.R_reads' HO_3.out).2.2 ((qi l0 x12_1).f1) p200 q200; cases e200; replace p200 := eq_true p200; replace q200 := eq_true q200; have p15 : 0 ≤ ((ji12) : Int) := of_decide_eq_true zz12; have q15 : ((ji12) : Int) < ((x3_1.length : Int) : Int) := of_decide_eq_true zz12; obtain ⟨go15, co15, eo15, gb15, gl15, cl15, HG15⟩ := Kd.R_form HO_3.out (by omega); (first | cases eo15 | (injection eo15 with ea_ en_ ec_; (first | subst ea_ | (injection ea_ with ea_; subst ea_)); subst ec_; clear en_)); have GB15 := qa.mk gb15; have GG15 := qa.mk HG15; clear gb15 gl15 HG15; (first | simp only [add_plain] at hx200_0 | skip); obtain ⟨hx15_0, hf15_0⟩ := Kd.R_celln 0 HO_3.out ((ji12) : Int) p15 q15; replace p15 := eq_true p15; replace q15 := eq_true q15; obtain ⟨hy43_, hz43_⟩ := Kd.R_celln 0 HO_3.out ((ji12) : Int) (of_decide_eq_true zz12) (of_decide_eq_true zz12); have HP43 := Kd.R_putg HO_3.out ((ji12) : Int) (wrap64 ((rd x3_1 ((qi l0 x12_1).f1)) + 1))) | ((with_reducible refine gate_store (t := 3) (p := 26) rfl ?_); refine store_event (t := 3) (p := 26) (v := ?vo_w44) (w1 := (w40.setCell ⟨go15, ((ji12) : Int).toNat, none⟩ (.int .i64 (wrap64 ((rd x3_1 ((qi l0 x12_1).f1)) + 1))))) ?hg ?ho ?hn ?hr ?_; (case ho => rfl); (case hg => rfl); (case hn => rfl); (case hr => exact zz6); intro w44 hw; have hg : w40.grownBy w44 (some go15) := (by rw [hw]; exact HP43.2); have hp_ : Kd.R (Kd.int .i64) 3 w44 w.heap.size (fun k_ => (w.heap.size ≤ k_)) (.slice (some ⟨go15, 0, none⟩) x3_1.length co42) y201 := (by rw [hw, Ny201.out]; exact HP43.1); clear HP43; have n0_ := qa.mk (Kd.V_afterv (v := (.slice (some ⟨go15, 0, none⟩) x3_1.length co42)) (v1 := (.slice (some ⟨go15, 0, none⟩) x3_1.length co42)) (ok := (fun k_ => (P0_ k_ ∨ w.heap.size ≤ k_) ∧ k_ ≠ gb199)) zz103 hg (.inl rfl)); have n1_ := qa.mk (hp_); have n2_ := qa.mk (Kd.V_afterv (v := (.slice (some ⟨go15, 0, none⟩) x3_1.length co42)) (v1 := (.slice (some ⟨go15, 0, none⟩) x3_1.length co42)) (ok := (fun k_ => (P0_ k_ ∨ w.heap.size ≤ k_) ∧ k_ ≠ gb199)) zz109 hg (.inl rfl)); have n3_ := qa.mk (Kd.V_afterv (v := (.slice (some ⟨go15, 0, none⟩) x3_1.length co42)) (v1 := (.slice (some ⟨go15, 0, none⟩) x3_1.length co42)) (ok := (fun k_ => (P0_ k_ ∨ w.heap.size ≤ k_) ∧ k_ ≠ gb199)) zz111 hg (.inl rfl)); have n4_ := qa.mk (blk_grown (g := gb199) (o := .cells #[.int .i64 ((qi l0 x12_1).f0), .int .i64 ((qi l0 x12_1).f1), .string ((qi l0 x12_1).f2), .string ((qi l0 x12_1).f3), .string ((qi l0 x12_1).f4), .slice A198_5 ((qi l0 x12_1).f5).length c198_5] 53 (0, 0)) zz42 hg (Kd.R_ne HO_3.out BK199.out (by decide))); have n5_ := qa.mk ((by rw [hw]; exact qm (HB.out) GB15.out : Below w.heap.size w w44)); clear HO_0; clear HO_3; clear HO_10; clear HL198_5; clear BK199; clear HB; have HO_0 := n0_; have HO_3 := n1_; have HO_10 := n2_; have HL198_5 := n3_; have BK199 := n4_; have HB := n5_; clear n0_ n1_ n2_ n3_ n4_ n5_; clear hg hw hp_; have p202 : 0 ≤ ((ji12) : Int) := of_decide_eq_true zz12; have q202 : (ji12) < (y201.length : Int) := (by have h_ : ((ji12) : Int) < ((x3_1.length : Int) : Int) := of_decide_eq_true zz12; first | (have e_ := (Kd.R_reads' HO_3.out).1; omega) | simpa only [Ny201.out, List.length_set] using h_); have ql202 : (((ji12) : Int) < ((x3_1.length : Int) : Int)) = True := eq_true (of_decide_eq_true zz12); obtain ⟨ad202, e202, hx202_0⟩ := Kd.at_int (Kd.R_reads' HO_3.out).2.2 (ji12) p202 q202; obtain rfl : (⟨go15, 0, none⟩ : Addr) = ad202 := (by injection e202); (first | simp only [add_plain] at hx202_0 | simp only [add_at] at hx202_0 | simp only [Addr.add, Nat.zero_add] at hx202_0 | skip); replace p202 := eq_true p202; replace q202 := eq_true q202))
              go_roundg k1
              case measure => have := HK1.out; omega
              case rel => exact ⟨(y201), (ji12), (by first | rfl | (simp; done) | (simp only [← hji12] <;> (first | rfl | simp)) | (simp [*]; done)), H', ⟨zz2⟩, ⟨by (with_reducible repeat (first | apply Kd.V_alloc | apply Kd.V_drewN | apply Kd.V_drew)); exact Kd.V_mono HO_0.out (fun _ hk => ⟨hk.1.1, hk.2⟩)⟩, ⟨zz55⟩, ⟨by (with_reducible repeat (first | apply Kd.V_alloc | apply Kd.V_drewN | apply Kd.V_drew)); exact Kd.V_mono HO_10.out (fun _ hk => ⟨hk.1.1, hk.2⟩)⟩, ⟨zz77⟩⟩
           ·rw [if_neg c14] at H
            exact absurd H (by simp)
          ·rw [if_neg c13] at H
           exact absurd H (by simp)
         ·rw [if_neg c11] at H
          exact absurd H (by simp)
        ·rw [if_neg c10] at H
         exact absurd H (by simp)
       ·rw [if_neg c9] at H
        exact absurd H (by simp)
      ·rw [if_neg c8] at H
       exact absurd H (by simp)
     ·rw [if_neg c7] at H
      have c7b0 : decide (x12_1 < (l0.length : Int)) = false := decide_eq_false c7
      clear c7
      obtain rfl := Option.some.inj H
      go_wp2
      go_ret
      exact ⟨_, zz139, by (with_reducible repeat (first | apply Kd.V_alloc | apply Kd.V_drewN | apply Kd.V_drew)); exact Kd.V_mono HO_0.out (fun _ hk => hk.1), zz52⟩
  ·rw [if_neg c4] at H
   exact absurd H (by simp)
 ·rw [if_neg c3] at H
  exact absurd H (by simp)
def api_Attr.f (l0 : List S55) : Option (List S55) := if l0.length < 4398046511104 then some l0 else none
set_option maxHeartbeats 4000000 in
set_option maxRecDepth 100000 in
theorem api_Attr.calls (A0 : Option Addr) (c0 : Nat) (l0 : List S55) (r : List S55) (w : World) (hr0 : Kd.C k55 w A0 l0.length l0) (hc0 : l0.length ≤ c0) (h : api_Attr.f l0 = some r) :
  Calls Tryz.prog 79 #[.slice A0 l0.length c0] w fun e w' => ∃ v0_ : Value, e = .returned (v0_) ∧ Kd.R k55 55 w' w.heap.size (fun _ => True) v0_ r ∧ Below w.heap.size w w' := by
 unfold api_Attr.f at h
 by_cases hl : l0.length < 4398046511104
 ·rw [if_pos hl] at h
  obtain rfl := Option.some.inj h
  clear h
  have HR := qa.mk hr0
  rcases A0 with _ | ad
  ·have h0 : l0 = [] := by
    rcases Nat.eq_zero_or_pos l0.length with h0 | h0
    ·exact List.eq_nil_of_length_eq_zero h0
    ·obtain ⟨_, h, _⟩ := hr0.2.2 h0
     cases h
   subst h0
   clear hr0 hc0 hl HR
   have hnil := Go.Lib.run_eql_slice_nil (P := Tryz.prog) w 51 55 none 0 c0 0 0 Tryz.underlying51
   go_enter Tryz.func79, Tryz.ntmps79
   go_wp2
   go_ret
   exact ⟨_, rfl, Kd.R_nil _ _ _ _ _, Below.refl _ _⟩
  ·clear hr0 hc0
   have hnil := Go.Lib.run_eql_slice_nil (P := Tryz.prog) w 51 55 (some ad) l0.length c0 0 0 Tryz.underlying51
   have hinf : (Tryz.prog.info? 55).map (fun i => (i.zero, i.size, i.bytes)) = some (some (.agg #[.string ⟨#[]⟩, .string ⟨#[]⟩]), Kd.sz k55, 32) := by kernel_rfl
   have HL := qa.mk hl
   have HI := qa.mk hinf
   clear hl hinf
   go_enter Tryz.func79, Tryz.ntmps79
   go_wp2_with (at_builtin; refine Kd.R_append_rows k55 (w0 := w) w.heap.size rfl (.tmp 5) (.tmp 6) 51 55 (.agg #[.string ⟨#[]⟩, .string ⟨#[]⟩]) 32 rfl Tryz.underlying51 HI.out rfl (by decide) (by omega) (.slice (some ⟨w.heap.size, 0, none⟩) 0 0) [] l0 _ _ _ (fun _ => True) (fun _ => False) rfl rfl ?aO ?aR (fun _ _ h => h) (fun _ h => h.elim) (fun _ _ => trivial) ?aB ?aS ?aL ?_; (case aO => exact R_empty _ _ _ _ (Nat.le_refl _)); (case aR => exact Kd.C_below HR.out (qc (Below.refl _ _) _)); (case aB => exact qc (Below.refl _ _) _); (case aS => simp); (case aL => have := HL.out; simp; omega); intro v1 w1 hr hb _ _)
   go_ret
   exact ⟨_, rfl, hr, hb⟩
 ·rw [if_neg hl] at h
  cases h
end Go.Proofs.YtjbobecnlpiejaaGreatDoor.Q
