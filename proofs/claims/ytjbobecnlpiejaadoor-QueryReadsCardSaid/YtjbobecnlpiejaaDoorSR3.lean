import Derived.Test.YtjbobecnlpiejaaDoorSR2
import Derived.KernelRfl
set_option linter.unusedVariables false
set_option linter.unusedSimpArgs false
namespace Go.Proofs.YtjbobecnlpiejaaDoor.Q
open Go.Proofs.YtjbobecnlpiejaaDoorZ
open Go.RowKit Go.Proofs.YtjbobecnlpiejaaDoorW.PrintWords Go.Proofs.YtjbobecnlpiejaaDoorW.PrintLast Go.Proofs.YtjbobecnlpiejaaDoorW.PrintMore
attribute [local go_sem] qvb qwb qzb qyb
def refForms (s : List UInt8) : List Int → Option (Int × Int)
 | [] => none
 | c :: r => if (formL c).isPrefixOf s = true then some (c, ((formL c).length : Int)) else refForms s r
def refNum (s : List UInt8) : Int × Int :=
 if [38, 35].isPrefixOf s = true then
  if Lib.indexByte (s.take 6) 59 < 0 then (0, 0) else
   match Lib.atoiAll ((s.take (Lib.indexByte (s.take 6) 59).toNat).drop 2) with
   | .ok n => if n < 0 ∨ 127 < n ∨ formL n ≠ s.take ((Lib.indexByte (s.take 6) 59).toNat + 1) then (0, 0) else (n, Lib.indexByte (s.take 6) 59 + 1)
   | _ => (0, 0)
 else (0, 0)
def refC (s : List UInt8) : Int × Int := (refForms s [38, 60, 62, 34]).getD (refNum s)
def unescL : List UInt8 → Nat → List UInt8 → Nat → Except Nat (List UInt8)
 | _, 0, acc, _ => .ok acc
 | s, k + 1, acc, i =>
  match s with
  | [] => .ok acc
  | b :: r =>
   if b.toNat = 38 then (if (refC s).2 = 0 then .error i else unescL (s.drop (refC s).2.toNat) k (acc ++ [(refC s).1.toNat.toUInt8]) (i + (refC s).2.toNat))
   else if formL (b.toNat : Int) ≠ [] then .error i else unescL r k (acc ++ [b]) (i + 1)
def escape_Unescape.f (a0 : ByteArray) : Option (ByteArray × Int × Int) :=
 if a0.size ≤ 1000000000000 then
  match unescL a0.data.toList a0.size [] 0 with
  | .ok l => some (⟨l.toArray⟩, 0, 0)
  | .error i => some (⟨#[]⟩, (i : Int), 2)
 else none
theorem hasPrefix_eq (a b : ByteArray) : qsc.f a b = some (b.data.toList.isPrefixOf a.data.toList) := by
 unfold qsc.f qmc.f
 have hex : (a.extract 0 ((b.size : Int) : Int).toNat).toList = a.data.toList.take b.size := by
  rw [Lib.toList_data]
  simp
 have hla : a.data.toList.length = a.size := rfl
 have hlb : b.data.toList.length = b.size := rfl
 by_cases h : (a.size : Int) ≥ (b.size : Int)
 ·rw [if_pos h, if_pos (by omega), if_pos (by omega), hex, Lib.toList_data]
  simp only [Option.bind_some, Option.some.injEq]
  rw [Bool.eq_iff_iff, beq_iff_eq, List.isPrefixOf_iff_prefix, List.prefix_iff_eq_take]
  rw [hlb]
  exact eq_comm
 ·rw [if_neg h]
  simp only [Option.bind_some, Option.some.injEq]
  symm
  rw [Bool.eq_false_iff]
  intro hp
  have := (List.isPrefixOf_iff_prefix.1 hp).length_le
  omega
set_option maxHeartbeats 8000000 in
set_option maxRecDepth 100000 in
theorem escape_reference.calls (s : ByteArray) (w : World) (hG : Glob w) :
  Calls Tryd.prog 59 #[.string s] w fun e w' => e = .returned (.tuple #[.int .u8 (refC s.data.toList).1, .int .i64 (refC s.data.toList).2]) ∧ Below w.heap.size w w' := by
 have HG := qa.mk hG
 clear hG
 go_enter Tryd.func59, Tryd.ntmps59
 go_wp2_with fail
 go_loopg [11] 5 (fun kq v11 w' => ∃ (j : Nat), v11 = .int .i64 (j : Int) ∧ w'.heap[w.heap.size]? = some (.cells #[.int .u8 38, .int .u8 60, .int .u8 62, .int .u8 34] 5 (0, 0)) ∧ qa (j ≤ 4 ∧ kq = 5 - j) ∧ qa (refForms s.data.toList (([38, 60, 62, 34] : List Int).drop j) = refForms s.data.toList [38, 60, 62, 34]) ∧ qa (Below w.heap.size w w'))
 case atStart => exact ⟨0, rfl, heap_alloc_new w _, ⟨by omega, rfl⟩, ⟨rfl⟩, ⟨qc (Below.refl _ _) _⟩⟩
 case round =>
  obtain ⟨j, rfl, hblk, HJ, HF, HB⟩ := hrel
  obtain ⟨hj, rfl⟩ := HJ.out
  by_cases h4 : j = 4
  ·subst h4
   have HR := qa.mk (show refC s.data.toList = refNum s.data.toList from by
    unfold refC
    rw [← HF.out]
    rfl)
   clear hblk HF HJ hj
   cases hp : ([38, 35] : List UInt8).isPrefixOf s.data.toList
   ·have HN := qa.mk (show refNum s.data.toList = (0, 0) from by
     unfold refNum
     rw [if_neg (by rw [hp]; exact Bool.false_ne_true)])
    have HP := qa.mk (show qsc.f s ⟨#[38, 35]⟩ = some false from by rw [hasPrefix_eq, ← hp])
    clear hp
    go_wp2_with (go_at_call 68; refine (qsc.calls _ _ _ _ HP.out).mono ?_; rintro e w3 ⟨rfl, hw3⟩; have HB3 := qa.mk (HB.out.trans (hw3.below.mono HB.out.size)); clear hw3)
    go_ret2
    exact ⟨by rw [HR.out, HN.out]; rfl, HB3.out⟩
   ·have HN := qa.mk hp
    have HP := qa.mk (show qsc.f s ⟨#[38, 35]⟩ = some true from by rw [hasPrefix_eq, ← hp])
    have h2s : 2 ≤ s.size := by
     have := (List.isPrefixOf_iff_prefix.1 hp).length_le
     exact this
    have h0 : s.data.toList[0]? = some 38 ∧ s.data.toList[1]? = some 35 := by
     obtain ⟨t, ht⟩ := List.isPrefixOf_iff_prefix.1 hp
     rw [← ht]
     exact ⟨rfl, rfl⟩
    obtain ⟨e, he⟩ : ∃ e, e = Lib.indexByte (s.data.toList.take 6) 59 := ⟨_, rfl⟩
    have HE := qa.mk he
    have HX1 := qa.mk (show strings_IndexByte.f (s.extract 0 6) 59 = some e from by
     rw [he]
     unfold strings_IndexByte.f
     congr 2
     simp)
    have HX2 := qa.mk (show (s.size : Int) ≤ 6 → strings_IndexByte.f s 59 = some e from by
     intro h6
     rw [he, List.take_of_length_le (by have : s.data.toList.length = s.size := rfl; omega)]
     rfl)
    have hem : e = -1 ∨ (2 ≤ e ∧ e < s.size ∧ e < 6) := by
     have h1 := Lib.indexByte_ge (s.data.toList.take 6) 59
     rw [← he] at h1
     by_cases h : e = -1
     ·exact .inl h
     ·right
      obtain ⟨n, rfl⟩ := Int.eq_ofNat_of_zero_le (show 0 ≤ e by omega)
      have h2 := (Lib.indexByte_some he.symm).1
      have h3 := (List.getElem?_eq_some_iff.1 h2).1
      rw [List.length_take] at h3
      rw [List.getElem?_take_of_lt (by omega)] at h2
      have hls : s.data.toList.length = s.size := rfl
      refine ⟨?_, by omega, by omega⟩
      rcases (show n = 0 ∨ n = 1 ∨ 2 ≤ n by omega) with rfl | rfl | h
      ·rw [h0.1] at h2; cases h2
      ·rw [h0.2] at h2; cases h2
      ·omega
    clear hp he h0
    go_upto_if 34 with (first | (go_at_call 68; refine (qsc.calls _ _ _ _ HP.out).mono ?_; rintro e w3 ⟨rfl, hw3⟩; have HB3 := qa.mk (HB.out.trans (hw3.below.mono HB.out.size)); clear hw3) | (go_at_call 69; refine (strings_IndexByte.calls _ _ e _ (by first | exact HX1.out | exact HX2.out (by omega))).mono ?_; rintro e w4 ⟨rfl, hw4⟩; have HB4 := qa.mk (HB3.out.trans (hw4.below.mono HB3.out.size)); clear hw4))
    all_goals
     clear HB3 HX1 HX2 HP HB
     rcases hem with hem | ⟨h2, hes, he6⟩
     ·have HNR := qa.mk (show refNum s.data.toList = (0, 0) from by
       unfold refNum
       rw [if_pos HN.out, ← HE.out, if_pos (by omega)])
      have hlt0 : e < 0 := by omega
      clear hem
      go_wp2_with fail
      go_ret2
      exact ⟨by rw [HR.out, HNR.out]; rfl, HB4.out⟩
     ·have hlt0 : ¬ e < 0 := by omega
      have HNR := qa.mk (show refNum s.data.toList = (match Lib.atoiAll ((s.data.toList.take e.toNat).drop 2) with
        | .ok n => if n < 0 ∨ 127 < n ∨ formL n ≠ s.data.toList.take (e.toNat + 1) then (0, 0) else (n, e + 1)
        | _ => (0, 0)) from by
       unfold refNum
       rw [if_pos HN.out, ← HE.out, if_neg hlt0])
      have hex : (s.extract 2 e.toNat).data.toList = (s.data.toList.take e.toNat).drop 2 := by
       simp [List.drop_take, List.extract_eq_take_drop]
      have hexs : (s.extract 2 e.toNat).size ≤ 281474976710656 := by
       simp only [ByteArray.size_extract]
       omega
      rw [← hex] at HNR
      have HXS := qa.mk hexs
      clear hex hexs
      have hle2 : e ≤ (s.size : Int) := by omega
      obtain ⟨⟨tp1, p1, hv1⟩, tp2, p2, hv2⟩ := (HG.out.below HB4.out).2
      have HV1 := qa.mk hv1
      have HV2 := qa.mk hv2
      clear hv1 hv2
      have hends : ∀ z : Lib.NumEnd Int, (∃ n, z = .ok n) ∨ z = Lib.NumEnd.syntax ∨ z = .range := by
       intro z
       cases z
       exact .inl ⟨_, rfl⟩
       exact .inr (.inl rfl)
       exact .inr (.inr rfl)
      rcases hends (Lib.atoiAll (s.extract 2 e.toNat).data.toList) with ⟨n, hat⟩ | hat | hat
      ·rw [hat] at HNR
       dsimp only at HNR
       have HAT := qa.mk hat
       clear hat
       go_upto_region 13 with (first | (go_at_call 70; go_loud (refine (Tryd.strconv_Atoi_ok _ (Nat.le_trans HXS.out (by decide)) n HAT.out _).mono ?_); rintro e5 w5 ⟨rfl, hw5⟩; have HB5 := qa.mk (HB4.out.trans (Below.mono (show Below w4.heap.size w4 w5 from by rcases hw5 with rfl | ⟨t, rfl⟩; exact Below.refl _ _; exact Lib.bytesWorld_below _ _ _) HB4.out.size)); clear hw5))
       clear HV1 HV2
       by_cases hn0 : n < 0
       ·have HNS := qa.mk (show refNum s.data.toList = (0, 0) from by rw [HNR.out, if_pos (.inl hn0)])
        have hd0 : decide (n < 0) = true := by simpa using hn0
        go_quiet (fail)
        go_wp2_with fail
        go_ret2
        exact ⟨by rw [HR.out, HNS.out]; rfl, zz36⟩
       by_cases hn1 : 127 < n
       ·have HNS := qa.mk (show refNum s.data.toList = (0, 0) from by rw [HNR.out, if_pos (.inr (.inl hn1))])
        have hd0 : decide (n < 0) = false := by simpa using hn0
        have hd1 : decide (127 < n) = true := by simpa using hn1
        go_quiet (fail)
        go_wp2_with fail
        go_ret2
        exact ⟨by rw [HR.out, HNS.out]; rfl, zz36⟩
       have hd0 : decide (n < 0) = false := by simpa using hn0
       have hd1 : decide (127 < n) = false := by simpa using hn1
       have hwr : IntKind.u8.wrap n = n := by
        rw [show IntKind.u8.wrap n = n % 256 from by simp [IntKind.wrap, IntKind.bits, IntKind.signed]]
        omega
       have HN2 := qa.mk (show 0 ≤ n ∧ n ≤ 255 from by omega)
       have hs5 := HB5.out.size
       have he1 : IntKind.i64.wrap (e + 1) = e + 1 := by rw [IntKind.wrap_i64]; omega
       have hle3 : e + 1 ≤ (s.size : Int) := by omega
       have hle4 : 0 ≤ e + 1 := by omega
       go_region_held3 (fun w' => Below w.heap.size w w') (first | exact HB5.out | exact HB6.out | exact Below.drew HB5.out | exact Below.drew HB6.out | (apply below_drewN; assumption) | assumption) (first | (go_at_call 39; refine (escape_form.calls n _ _ (HG.out.below (by assumption)) (if_pos HN2.out)).mono ?_; rintro e6 w6 ⟨rfl, hb6⟩; have HB6 := qa.mk (Below.trans (show Below w.heap.size w _ from by assumption) (hb6.mono hs5)); clear hb6))
       generalize hq : (formL n == (s.extract 0 (e + 1).toNat).toList) = q
       have hx : (s.extract 0 (e + 1).toNat).toList = s.data.toList.take (e.toNat + 1) := by
        rw [Lib.toList_data, show (e + 1).toNat = e.toNat + 1 by omega]
        simp
       rw [hx] at hq
       clear hx
       have HQ := qa.mk hq
       clear hq
       cases q
       ·have HNS := qa.mk (show refNum s.data.toList = (0, 0) from by rw [HNR.out, if_pos (.inr (.inr (beq_eq_false_iff_ne.1 HQ.out)))])
        go_wp2_with fail
        go_ret2
        exact ⟨by rw [HR.out, HNS.out]; rfl, HB6.out⟩
       ·have HNS := qa.mk (show refNum s.data.toList = (n, e + 1) from by
         rw [HNR.out, if_neg]
         rintro (h1 | h1 | h1)
         ·omega
         ·omega
         ·exact h1 (beq_iff_eq.1 HQ.out))
        go_wp2_with fail
        go_ret2
        exact ⟨by rw [HR.out, HNS.out]; rfl, HB6.out⟩
      ·rw [hat] at HNR
       have HAT := qa.mk hat
       clear hat
       go_upto_region 13 with (first | (go_at_call 70; go_loud (refine (Tryd.strconv_Atoi_syntax_var _ HXS.out HAT.out tp1 p1 _ HV1.out).mono ?_); rintro e5 w5 ⟨N5, rfl, hN5, _, hb5⟩; have HB5 := qa.mk (HB4.out.trans (hb5.mono HB4.out.size)); clear hb5))
       go_quiet (fail)
       go_wp2_with fail
       go_ret2
       exact ⟨by rw [HR.out, HNR.out]; rfl, zz36⟩
      ·rw [hat] at HNR
       have HAT := qa.mk hat
       clear hat
       go_upto_region 13 with (first | (go_at_call 70; go_loud (refine (Tryd.strconv_Atoi_range_var _ HXS.out HAT.out tp2 p2 _ HV2.out).mono ?_); rintro e5 w5 ⟨N5, rfl, hN5, _, hb5⟩; have HB5 := qa.mk (HB4.out.trans (hb5.mono HB4.out.size)); clear hb5))
       go_quiet (fail)
       go_wp2_with fail
       go_ret2
       exact ⟨by rw [HR.out, HNR.out]; rfl, zz36⟩
  ·obtain ⟨c, hc0, hc1, hcl, hcell⟩ : ∃ c : Int, 0 ≤ c ∧ c ≤ 255 ∧ ([38, 60, 62, 34] : List Int).drop j = c :: ([38, 60, 62, 34] : List Int).drop (j + 1) ∧ wr.cell? ⟨w.heap.size, (j : Nat), none⟩ = some (.int .u8 c) := by
    have hj4 : j = 0 ∨ j = 1 ∨ j = 2 ∨ j = 3 := by omega
    rcases hj4 with rfl | rfl | rfl | rfl
    ·exact ⟨38, by omega, by omega, rfl, (qh hblk 0).trans rfl⟩
    ·exact ⟨60, by omega, by omega, rfl, (qh hblk 1).trans rfl⟩
    ·exact ⟨62, by omega, by omega, rfl, (qh hblk 2).trans rfl⟩
    ·exact ⟨34, by omega, by omega, rfl, (qh hblk 3).trans rfl⟩
   have HC := qa.mk (And.intro hc0 hc1)
   have HCL := qa.mk hcl
   clear hc0 hc1 hcl
   have hj3 : (j : Int) < 4 := by omega
   have HBLK := qa.mk hblk
   clear hblk
   have hcell2 : wr.cell? ((⟨w.heap.size, 0, none⟩ : Addr).add j) = some (.int .u8 c) := by
    rw [Addr.add_lit, Nat.zero_add]
    exact hcell
   cases hb : (formL c).isPrefixOf s.data.toList
   ·have HN := qa.mk (show refForms s.data.toList (([38, 60, 62, 34] : List Int).drop (j + 1)) = refForms s.data.toList [38, 60, 62, 34] from by
     rw [← HF.out, HCL.out]
     simp only [refForms, hb, Bool.false_eq_true, if_false])
    have HP := qa.mk (show qsc.f s ⟨(formL c).toArray⟩ = some false from by rw [hasPrefix_eq, ← hb])
    clear hb
    go_wp2_with (first | (go_at_call 39; refine (escape_form.calls c _ _ (HG.out.below HB.out) (if_pos HC.out)).mono ?_; rintro e w2 ⟨rfl, hb2⟩; have HB2 := qa.mk (HB.out.trans (hb2.mono HB.out.size)); have HBLK2 := qa.mk ((hb2.block w.heap.size (Array.getElem?_eq_some_iff.1 HBLK.out).1).trans HBLK.out); clear hb2) | (go_at_call 68; refine (qsc.calls _ _ _ _ HP.out).mono ?_; rintro e w3 ⟨rfl, hw3⟩; have HB3 := qa.mk (HB2.out.trans (hw3.below.mono HB2.out.size)); have HBLK3 := qa.mk ((hw3.below.block w.heap.size (Array.getElem?_eq_some_iff.1 HBLK2.out).1).trans HBLK2.out); clear hw3))
    go_roundg (5 - (j + 1))
    case measure => omega
    case rel => exact ⟨j + 1, by simp, HBLK3.out, ⟨by omega, rfl⟩, HN, HB3⟩
   ·have HN := qa.mk (show refC s.data.toList = (c, ((formL c).length : Int)) from by
     unfold refC
     rw [← HF.out, HCL.out]
     simp only [refForms, hb, if_true, Option.getD_some])
    have HP := qa.mk (show qsc.f s ⟨(formL c).toArray⟩ = some true from by rw [hasPrefix_eq, ← hb])
    clear hb
    go_wp2_with (first | (go_at_call 39; first | (refine (escape_form.calls c _ _ (HG.out.below HB.out) (if_pos HC.out)).mono ?_; rintro e w2 ⟨rfl, hb2⟩; have HB2 := qa.mk (HB.out.trans (hb2.mono HB.out.size)); clear hb2) | (refine (escape_form.calls c _ _ (HG.out.below HB3.out) (if_pos HC.out)).mono ?_; rintro e w4 ⟨rfl, hb4⟩; have HB4 := qa.mk (HB3.out.trans (hb4.mono HB3.out.size)); clear hb4)) | (go_at_call 68; refine (qsc.calls _ _ _ _ HP.out).mono ?_; rintro e w3 ⟨rfl, hw3⟩; have HB3 := qa.mk (HB2.out.trans (hw3.below.mono HB2.out.size)); clear hw3))
    go_ret2
    exact ⟨by rw [HN.out]; rfl, HB4.out⟩
theorem refForms_ok (s : List UInt8) : ∀ (cs : List Int), (∀ c ∈ cs, 0 ≤ c ∧ c ≤ 127 ∧ formL c ≠ []) → ∀ c n, refForms s cs = some (c, n) → 1 ≤ n ∧ n ≤ s.length ∧ 0 ≤ c ∧ c ≤ 127
 | [], _, _, _, h => by cases h
 | c0 :: r, hc, c, n, h => by
  unfold refForms at h
  obtain ⟨h1, h2, h3⟩ := hc c0 (List.mem_cons_self ..)
  split at h
  ·rename_i hp
   have hle := (List.isPrefixOf_iff_prefix.1 hp).length_le
   have hpos := List.length_pos_iff.2 h3
   cases h
   omega
  ·exact refForms_ok s r (fun c hm => hc c (List.mem_cons_of_mem _ hm)) c n h
theorem refC_ok (s : List UInt8) : (refC s).2 = 0 ∨ (1 ≤ (refC s).2 ∧ (refC s).2 ≤ s.length ∧ 0 ≤ (refC s).1 ∧ (refC s).1 ≤ 127) := by
 unfold refC
 cases h : refForms s [38, 60, 62, 34] with
 | some x =>
  right
  obtain ⟨c, n⟩ := x
  exact refForms_ok s _ (by decide) c n h
 | none =>
  simp only [Option.getD_none]
  unfold refNum
  split
  ·split
   ·exact .inl rfl
   ·rename_i h2
    split
    ·rename_i n hn
     split
     ·exact .inl rfl
     ·right
      rename_i h3
      have h4 := Lib.indexByte_ge (s.take 6) 59
      obtain ⟨o, ho⟩ := Int.eq_ofNat_of_zero_le (show 0 ≤ Lib.indexByte (s.take 6) 59 by omega)
      have h5 := (List.getElem?_eq_some_iff.1 (Lib.indexByte_some ho).1).1
      rw [List.length_take] at h5
      rw [not_or, not_or] at h3
      dsimp only
      omega
    ·exact .inl rfl
  ·exact .inl rfl
set_option maxHeartbeats 8000000 in
set_option maxRecDepth 100000 in
theorem escape_Unescape.calls (a0 : ByteArray) (r1 : ByteArray) (r2 r3 : Int) (w : World) (hG : Glob w) (h : escape_Unescape.f a0 = some (r1, r2, r3)) :
  Calls Tryd.prog 41 #[.string a0] w fun e w' => e = .returned (.tuple #[.string r1, .int .i64 r2, .int .i64 r3]) ∧ Below w.heap.size w w' := by
 unfold escape_Unescape.f at h
 by_cases hl : a0.size ≤ 1000000000000
 rotate_left
 ·rw [if_neg hl] at h
  cases h
 rw [if_pos hl] at h
 have HG := qa.mk hG
 have HH := qa.mk h
 clear hG h
 have hls : a0.data.toList.length = a0.size := rfl
 go_enter Tryd.func41, Tryd.ntmps41
 go_wp2_with fail
 go_loopg [6] (a0.size + 1) (fun kq v6 w' => ∃ (j k : Nat) (acc : List UInt8), v6 = .int .i64 (j : Int) ∧ qa (j ≤ a0.size ∧ kq = a0.size + 1 - j ∧ acc.length ≤ j ∧ a0.size ≤ k + j) ∧ qa (unescL (a0.data.toList.drop j) k acc j = unescL a0.data.toList a0.size [] 0) ∧ qa (Bld w.heap.size acc w') ∧ qa (Below w.heap.size w w'))
 case atStart => exact ⟨0, a0.size, [], rfl, ⟨Nat.zero_le _, rfl, Nat.le_refl _, Nat.le_refl _⟩, ⟨rfl⟩, ⟨Bld.fresh w⟩, ⟨qc (Below.refl _ _) _⟩⟩
 case round =>
  obtain ⟨j, k, acc, rfl, HJ, HU, HI, HB⟩ := hrel
  obtain ⟨hj, hk, hacc, hjk⟩ := HJ.out
  clear HJ
  subst hk
  have hsz : w.heap.size ≤ wr.heap.size := HB.out.size
  by_cases hlt : j < a0.size
  ·obtain ⟨k, rfl⟩ : ∃ k', k = k' + 1 := ⟨k - 1, by omega⟩
   have hcons : a0.data.toList.drop j = a0[j] :: a0.data.toList.drop (j + 1) := by
    rw [List.drop_eq_getElem_cons (by omega)]
    rfl
   have hb255 : (a0[j].toNat : Int) ≤ 255 := by have := a0[j].toNat_lt; omega
   by_cases h38 : a0[j].toNat = 38
   ·have hU2 := HU.out
    conv at hU2 => lhs; rw [hcons]; unfold unescL
    dsimp only at hU2
    rw [if_pos h38, ← hcons] at hU2
    have hok := refC_ok (a0.data.toList.drop j)
    have hex : (a0.extract j a0.size).data.toList = a0.data.toList.drop j := by
     simp only [ByteArray.data_extract, Array.toList_extract, List.extract_eq_take_drop]
     exact List.take_of_length_le (by rw [List.length_drop]; omega)
    have HEX := qa.mk hex
    obtain ⟨cc, nn, hcn⟩ : ∃ cc nn, refC (a0.data.toList.drop j) = (cc, nn) := ⟨_, _, rfl⟩
    have HCN := qa.mk hcn
    rw [hcn] at hU2 hok
    dsimp only at hU2 hok
    have c38 : ((a0[j].toNat : Int) == 38) = true := by rw [h38]; rfl
    clear hcn hex hcons
    by_cases hn0 : nn = 0
    ·rw [if_pos hn0] at hU2
     have HU2 := qa.mk hU2
     clear hU2 hok
     subst hn0
     go_wp2_with (first | (go_at_call 59; go_loud (refine (escape_reference.calls _ _ (HG.out.below HB.out)).mono ?_); rintro e w2 ⟨rfl, hb⟩; have HB2 := qa.mk (qp HB.out hb); clear hb; rw [HEX.out, HCN.out]; dsimp only))
     go_ret3
     have h9 := HH.out
     rw [← HU2.out] at h9
     simp only [Option.some.injEq, Prod.mk.injEq] at h9
     obtain ⟨rfl, rfl, rfl⟩ := h9
     exact ⟨rfl, HB2.out⟩
    ·rw [if_neg hn0] at hU2
     obtain ⟨h1, h2, h3, h4⟩ := hok.resolve_left hn0
     have hN1 : (nn == 0) = false := by simpa using hn0
     obtain ⟨m, rfl⟩ := Int.eq_ofNat_of_zero_le (show 0 ≤ nn by omega)
     rw [List.drop_drop] at hU2
     simp only [Int.toNat_natCast] at hU2
     rw [List.length_drop] at h2
     have HU2 := qa.mk hU2
     clear hU2 hok hn0
     go_wp2_with (first | (go_at_call 59; refine (escape_reference.calls _ _ (HG.out.below HB.out)).mono ?_; rintro e w2 ⟨rfl, hb⟩; have HB2 := qa.mk (qp HB.out hb); have HI2 := qa.mk (HI.out.below hb); have hs2 := HB2.out.size; clear hb; rw [HEX.out, HCN.out]; dsimp only) | (go_at_call 24; go_loud (refine (Bld.byte w.heap.size _ cc _ HI2.out h3 (by omega) (by omega) hs2).mono ?_); rintro e w3 ⟨rfl, h3, hb3, _⟩; have HB3 := qa.mk (HB2.out.trans hb3); have HI3 := qa.mk h3; clear h3 hb3))
     go_roundg (a0.size + 1 - (j + m))
     case measure => omega
     case rel => exact ⟨j + m, k, _, by go_num, ⟨by omega, rfl, by simp; omega, by omega⟩, HU2, HI3, HB3⟩
   ·have hU2 := HU.out
    conv at hU2 => lhs; rw [hcons]; unfold unescL
    dsimp only at hU2
    rw [if_neg h38] at hU2
    have c38 : ((a0[j].toNat : Int) == 38) = false := by simp; omega
    have HF := qa.mk (show escape_form.f (a0[j].toNat : Int) = some ⟨(formL (a0[j].toNat : Int)).toArray⟩ from if_pos ⟨by omega, hb255⟩)
    clear hcons
    by_cases hf : formL (a0[j].toNat : Int) = []
    ·rw [if_neg (by rw [hf]; simp)] at hU2
     have HU2 := qa.mk hU2
     have HE := qa.mk hf
     clear hU2 hf
     go_wp2_with (first | (go_at_call 39; refine (escape_form.calls _ _ _ (Glob.below HG.out HB.out) HF.out).mono ?_; rintro e w2 ⟨rfl, hb⟩; have HB2 := qa.mk (qp HB.out hb); have HI2 := qa.mk (HI.out.below hb); have hs2 := HB2.out.size; clear hb; rw [HE.out]) | (go_at_call 24; refine (Bld.byte w.heap.size _ (a0[j].toNat : Int) _ HI2.out (by omega) hb255 (by omega) hs2).mono ?_; rintro e w3 ⟨rfl, h3, hb3, _⟩; have HB3 := qa.mk (HB2.out.trans hb3); have HI3 := qa.mk h3; clear h3 hb3))
     go_roundg (a0.size + 1 - (j + 1))
     case measure => omega
     case rel => exact ⟨j + 1, k, acc ++ [a0[j]], by go_num, ⟨by omega, rfl, by simp; omega, by omega⟩, HU2, ⟨by simpa using HI3.out⟩, HB3⟩
    ·rw [if_pos hf] at hU2
     have HU2 := qa.mk hU2
     have c1 : (formL (a0[j].toNat : Int)).isEmpty = false := by simpa using hf
     clear hU2 hf
     go_wp2_with (first | (go_at_call 39; refine (escape_form.calls _ _ _ (Glob.below HG.out HB.out) HF.out).mono ?_; rintro e w2 ⟨rfl, hb⟩; have HB2 := qa.mk (qp HB.out hb); clear hb))
     go_ret3
     have h9 := HH.out
     rw [← HU2.out] at h9
     simp only [Option.some.injEq, Prod.mk.injEq] at h9
     obtain ⟨rfl, rfl, rfl⟩ := h9
     exact ⟨rfl, HB2.out⟩
  ·have HU2 := qa.mk (show unescL a0.data.toList a0.size [] 0 = .ok acc from by
    rw [← HU.out, List.drop_eq_nil_of_le (by omega)]
    cases k <;> rfl)
   go_wp2_with (go_at_call 27; refine (Bld.out w.heap.size _ _ HI.out hsz).mono ?_; rintro e w2 ⟨rfl, hb⟩; have HB2 := qa.mk (HB.out.trans hb); clear hb)
   go_ret3
   have h9 := HH.out
   rw [HU2.out] at h9
   simp only [Option.some.injEq, Prod.mk.injEq] at h9
   obtain ⟨rfl, rfl, rfl⟩ := h9
   exact ⟨rfl, HB2.out⟩
def qvc.f (s0_0 : ByteArray) (s0_1 : Bool) : Option (ByteArray × ByteArray × Bool) := (qpc.f s0_0 s0_1 (⟨#[34]⟩ : ByteArray)).bind fun bt107 => ((escape_Unescape.f bt107.1).bind fun bt110 => (if bt110.2.2 = 0 then ((qib.f bt107.2.1 bt107.2.2 (⟨#[34]⟩ : ByteArray)).bind fun bt113 => (if bt113.1 = true then (some (bt110.1, bt113.2.1, bt113.2.2)) else (some (bt110.1, bt113.2.1, true)))) else (some (bt110.1, bt107.2.1, true))))
set_option maxHeartbeats 8000000 in
set_option maxRecDepth 100000 in
theorem qvc.calls (g : Nat) (s0_0 : ByteArray) (s0_1 : Bool) (r1 : ByteArray) (r2 : ByteArray) (r3 : Bool) (w0 w : World) (hG : Glob w0) (hI : IsS55 w0 w g s0_0 s0_1) (hB : Below w0.heap.size w0 w) (h : qvc.f s0_0 s0_1 = some (r1, r2, r3)) :
  Calls Tryd.prog 29 #[.pointer (some ⟨g, 0, none⟩)] w fun e w' => e = .returned (.string r1) ∧ IsS55 w0 w' g r2 r3 ∧ Below w0.heap.size w0 w' ∧ KeepBut w w' g none := by
 have HG := qa.mk hG
 clear hG
 have HI0 := qa.mk hI
 have HK := qa.mk (KeepBut.refl w g none)
 have HL := qa.mk hB.size
 clear hI
 have HW0 := qa.mk hB.size
 have HB := qa.mk hB
 clear hB
 have H : ((qpc.f s0_0 s0_1 (⟨#[34]⟩ : ByteArray)).bind fun bt107 => ((escape_Unescape.f bt107.1).bind fun bt110 => (if bt110.2.2 = 0 then ((qib.f bt107.2.1 bt107.2.2 (⟨#[34]⟩ : ByteArray)).bind fun bt113 => (if bt113.1 = true then (some (bt110.1, bt113.2.1, bt113.2.2)) else (some (bt110.1, bt113.2.1, true)))) else (some (bt110.1, bt107.2.1, true))))) = some (r1, r2, r3) := h
 clear h
 replace H := Option.bind_eq_some_iff.mp H
 obtain ⟨⟨t107, t108, t109⟩, A20, H⟩ := H
 replace H : ((escape_Unescape.f t107).bind fun bt110 => (if bt110.2.2 = 0 then ((qib.f t108 t109 (⟨#[34]⟩ : ByteArray)).bind fun bt113 => (if bt113.1 = true then (some (bt110.1, bt113.2.1, bt113.2.2)) else (some (bt110.1, bt113.2.1, true)))) else (some (bt110.1, t108, true)))) = some (r1, r2, r3) := H
 have A2 := qa.mk A20
 clear A20
 replace H := Option.bind_eq_some_iff.mp H
 obtain ⟨⟨t110, t111, t112⟩, A30, H⟩ := H
 replace H : (if t112 = 0 then ((qib.f t108 t109 (⟨#[34]⟩ : ByteArray)).bind fun bt113 => (if bt113.1 = true then (some (t110, bt113.2.1, bt113.2.2)) else (some (t110, bt113.2.1, true)))) else (some (t110, t108, true))) = some (r1, r2, r3) := H
 have A3 := qa.mk A30
 clear A30
 by_cases c4 : t112 = 0
 ·rw [if_pos c4] at H
  have c4b0 : (t112 == 0) = true := beq_iff_eq.mpr c4
  have c4b1 : (t112 != 0) = false := bne_eq_false_iff_eq.mpr c4
  clear c4
  replace H := Option.bind_eq_some_iff.mp H
  obtain ⟨⟨t113, t114, t115⟩, A50, H⟩ := H
  replace H : (if t113 = true then (some (t110, t114, t115)) else (some (t110, t114, true))) = some (r1, r2, r3) := H
  have A5 := qa.mk A50
  clear A50
  by_cases c6 : t113 = true
  ·subst c6
   have H1 : (some (t110, t114, t115)) = some (r1, r2, r3) := by rw [if_pos rfl] at H; exact H
   clear H
   have H := H1
   clear H1
   simp only [Option.some.injEq, Prod.mk.injEq] at H
   obtain ⟨rfl, rfl, rfl⟩ := H
   go_enter Tryd.func29, Tryd.ntmps29
   go_wp2_with (first | ((with_reducible refine qy (f := 28) rfl ?_); refine qqb (some 8) rfl rfl Tryd.func28 (by kernel_rfl) rfl #[.pointer (some ⟨g, 0, none⟩), .string (⟨#[34]⟩ : ByteArray)] rfl zz94 ?_; (with_reducible refine (qpc.calls g s0_0 s0_1 (⟨#[34]⟩ : ByteArray) t107 t108 t109 w0 _ ?side1 ?side2 A2.out).mono ?_); (case side1 => exact zz119); (case side2 => exact zz92); rintro e w7 ⟨rfl, hi, hb, hk⟩; refine ⟨_, rfl, ?_⟩; have n0_ := qa.mk (KeepBut.trans zz98 hk (.inl rfl)); have n1_ := qa.mk (hb); have n2_ := qa.mk (hi); clear HK; clear HB; clear HI0; have HK := n0_; have HB := n1_; have HI0 := n2_; clear n0_ n1_ n2_; (try clear hb); (try clear hb2); (try clear hk); (try clear hi)) | ((with_reducible refine qy (f := 41) rfl ?_); refine qqb (some 9) rfl rfl Tryd.func41 (by kernel_rfl) rfl #[.string t107] rfl zz94 ?_; (with_reducible refine (escape_Unescape.calls t107 t110 t111 t112 _ ?side1 A3.out).mono ?_); (case side1 => exact zz117); rintro e w8 ⟨rfl, hb⟩; refine ⟨_, rfl, ?_⟩; have n0_ := qa.mk (IsS55.below zz119 hb); have n1_ := qa.mk (KeepBut.trans zz98 (KeepBut.of_below hb g none) (.inl rfl)); have n2_ := qa.mk (qp zz92 hb); clear HI0; clear HK; clear HB; have HI0 := n0_; have HK := n1_; have HB := n2_; clear n0_ n1_ n2_; (try clear hb); (try clear hb2); (try clear hk); (try clear hi)) | (go_at_call 18; (with_reducible refine (qib.calls g t108 t109 (⟨#[34]⟩ : ByteArray) true t114 t115 w0 _ ?side1 ?side2 A5.out).mono ?_); (case side1 => exact zz119); (case side2 => exact zz92); rintro e w9 ⟨rfl, hi, hb, hk⟩; have n0_ := qa.mk (KeepBut.trans zz98 hk (.inl rfl)); have n1_ := qa.mk (hb); have n2_ := qa.mk (hi); clear HK; clear HB; clear HI0; have HK := n0_; have HB := n1_; have HI0 := n2_; clear n0_ n1_ n2_; (try clear hb); (try clear hb2); (try clear hk); (try clear hi)))
   go_ret
   exact ⟨zz103, zz119, zz92, zz98⟩
  ·replace c6 := Bool.eq_false_iff.mpr c6
   subst c6
   have H1 : (some (t110, t114, true)) = some (r1, r2, r3) := by rw [if_neg (show ¬ (false = true) by decide)] at H; exact H
   clear H
   have H := H1
   clear H1
   simp only [Option.some.injEq, Prod.mk.injEq] at H
   obtain ⟨rfl, rfl, rfl⟩ := H
   go_enter Tryd.func29, Tryd.ntmps29
   go_wp2_with (first | ((with_reducible refine qy (f := 28) rfl ?_); refine qqb (some 8) rfl rfl Tryd.func28 (by kernel_rfl) rfl #[.pointer (some ⟨g, 0, none⟩), .string (⟨#[34]⟩ : ByteArray)] rfl zz94 ?_; (with_reducible refine (qpc.calls g s0_0 s0_1 (⟨#[34]⟩ : ByteArray) t107 t108 t109 w0 _ ?side1 ?side2 A2.out).mono ?_); (case side1 => exact zz119); (case side2 => exact zz92); rintro e w10 ⟨rfl, hi, hb, hk⟩; refine ⟨_, rfl, ?_⟩; have n0_ := qa.mk (KeepBut.trans zz98 hk (.inl rfl)); have n1_ := qa.mk (hb); have n2_ := qa.mk (hi); clear HK; clear HB; clear HI0; have HK := n0_; have HB := n1_; have HI0 := n2_; clear n0_ n1_ n2_; (try clear hb); (try clear hb2); (try clear hk); (try clear hi)) | ((with_reducible refine qy (f := 41) rfl ?_); refine qqb (some 9) rfl rfl Tryd.func41 (by kernel_rfl) rfl #[.string t107] rfl zz94 ?_; (with_reducible refine (escape_Unescape.calls t107 t110 t111 t112 _ ?side1 A3.out).mono ?_); (case side1 => exact zz117); rintro e w11 ⟨rfl, hb⟩; refine ⟨_, rfl, ?_⟩; have n0_ := qa.mk (IsS55.below zz119 hb); have n1_ := qa.mk (KeepBut.trans zz98 (KeepBut.of_below hb g none) (.inl rfl)); have n2_ := qa.mk (qp zz92 hb); clear HI0; clear HK; clear HB; have HI0 := n0_; have HK := n1_; have HB := n2_; clear n0_ n1_ n2_; (try clear hb); (try clear hb2); (try clear hk); (try clear hi)) | (go_at_call 18; (with_reducible refine (qib.calls g t108 t109 (⟨#[34]⟩ : ByteArray) false t114 t115 w0 _ ?side1 ?side2 A5.out).mono ?_); (case side1 => exact zz119); (case side2 => exact zz92); rintro e w12 ⟨rfl, hi, hb, hk⟩; have n0_ := qa.mk (KeepBut.trans zz98 hk (.inl rfl)); have n1_ := qa.mk (hb); have n2_ := qa.mk (hi); clear HK; clear HB; clear HI0; have HK := n0_; have HB := n1_; have HI0 := n2_; clear n0_ n1_ n2_; (try clear hb); (try clear hb2); (try clear hk); (try clear hi); obtain ⟨HGz13, hgz13⟩ := HI0.out; have hcz13_0 := cellS55_0 HGz13; have hcz13_1 := cellS55_1 HGz13; have hfz13_0 := qf HGz13 0; have hfz13_1 := qf HGz13 1; clear HGz13 hgz13))
   go_ret
   exact ⟨zz103, zz119, zz92, zz98⟩
 ·rw [if_neg c4] at H
  have c4b0 : (t112 == 0) = false := beq_eq_false_iff_ne.mpr c4
  have c4b1 : (t112 != 0) = true := bne_iff_ne.mpr c4
  simp only [Option.some.injEq, Prod.mk.injEq] at H
  obtain ⟨rfl, rfl, rfl⟩ := H
  go_enter Tryd.func29, Tryd.ntmps29
  go_wp2_with (first | ((with_reducible refine qy (f := 28) rfl ?_); refine qqb (some 8) rfl rfl Tryd.func28 (by kernel_rfl) rfl #[.pointer (some ⟨g, 0, none⟩), .string (⟨#[34]⟩ : ByteArray)] rfl zz94 ?_; (with_reducible refine (qpc.calls g s0_0 s0_1 (⟨#[34]⟩ : ByteArray) t107 t108 t109 w0 _ ?side1 ?side2 A2.out).mono ?_); (case side1 => exact zz119); (case side2 => exact zz92); rintro e w14 ⟨rfl, hi, hb, hk⟩; refine ⟨_, rfl, ?_⟩; have n0_ := qa.mk (KeepBut.trans zz98 hk (.inl rfl)); have n1_ := qa.mk (hb); have n2_ := qa.mk (hi); clear HK; clear HB; clear HI0; have HK := n0_; have HB := n1_; have HI0 := n2_; clear n0_ n1_ n2_; (try clear hb); (try clear hb2); (try clear hk); (try clear hi)) | ((with_reducible refine qy (f := 41) rfl ?_); refine qqb (some 9) rfl rfl Tryd.func41 (by kernel_rfl) rfl #[.string t107] rfl zz94 ?_; (with_reducible refine (escape_Unescape.calls t107 t110 t111 t112 _ ?side1 A3.out).mono ?_); (case side1 => exact zz117); rintro e w15 ⟨rfl, hb⟩; refine ⟨_, rfl, ?_⟩; have n0_ := qa.mk (IsS55.below zz119 hb); have n1_ := qa.mk (KeepBut.trans zz98 (KeepBut.of_below hb g none) (.inl rfl)); have n2_ := qa.mk (qp zz92 hb); clear HI0; clear HK; clear HB; have HI0 := n0_; have HK := n1_; have HB := n2_; clear n0_ n1_ n2_; (try clear hb); (try clear hb2); (try clear hk); (try clear hi); obtain ⟨HGz16, hgz16⟩ := HI0.out; have hcz16_0 := cellS55_0 HGz16; have hcz16_1 := cellS55_1 HGz16; have hfz16_0 := qf HGz16 0; have hfz16_1 := qf HGz16 1; clear HGz16 hgz16))
  go_ret
  exact ⟨zz103, zz119, zz92, zz98⟩
def part_cond.f (s0 : ByteArray) (b0 : Bool) : Option (S33 × ByteArray × Bool) :=
 (qpc.f s0 b0 ⟨#[61, 93]⟩).bind fun x => (qib.f x.2.1 x.2.2 ⟨#[61, 34]⟩).bind fun y =>
  (if y.1 = true then (qvc.f y.2.1 y.2.2).bind fun z => some (z.1, true, z.2.1, z.2.2) else some (⟨#[]⟩, false, y.2.1, y.2.2)).bind fun v =>
   if v.2.2.2 = true then some (⟨x.1, v.1, v.2.1⟩, v.2.2.1, true) else (qib.f v.2.2.1 v.2.2.2 ⟨#[93]⟩).bind fun u => some (⟨x.1, v.1, v.2.1⟩, u.2.1, !u.1)
def part_conds.f : Nat → List S33 → ByteArray → Bool → Option (List S33 × ByteArray × Bool)
 | 0, _, _, _ => none
 | k + 1, acc, s, b => if b = true then some (acc, s, b) else if acc.length ≤ 8 then (qib.f s b ⟨#[91]⟩).bind fun y => if y.1 = true then (part_cond.f y.2.1 y.2.2).bind fun c => part_conds.f k (acc ++ [c.1]) c.2.1 c.2.2 else some (acc, y.2.1, y.2.2) else some (acc, s, b)
def qac.f (s0 : ByteArray) (b0 : Bool) : Option (Bool × Bool × ByteArray × ByteArray × List S33 × ByteArray × Bool) :=
 (qib.f s0 b0 ⟨#[42]⟩).bind fun x => (if x.1 = true then some ((⟨#[]⟩ : ByteArray), x.2.1, x.2.2) else (qpc.f x.2.1 x.2.2 ⟨#[35, 91, 62, 32]⟩).bind fun t => some (t.1, t.2.1, t.2.2 || t.1.data.toList.isEmpty)).bind fun t =>
  (qib.f t.2.1 t.2.2 ⟨#[35, 34]⟩).bind fun y => (if y.1 = true then qvc.f y.2.1 y.2.2 else some (⟨#[]⟩, y.2.1, y.2.2)).bind fun z =>
   (part_conds.f 10 [] z.2.1 z.2.2).bind fun c => some (false, y.1, t.1, z.1, c.1, c.2.1, c.2.2)
theorem keep_new {w W : World} {g b j : Nat} (h : KeepBut w W g none) (hb : w.heap.size ≤ b) (u : Value) : KeepBut w (W.setCell ⟨b, j, none⟩ u) g none :=
 ⟨by simpa [World.setCell] using h.1, fun i hi hg hr => (Below.heap_setCell W ⟨b, j, none⟩ u i (by show i ≠ b; omega)).trans (h.2 i hi hg hr)⟩
structure PC (w0 w : World) (bx g bc : Nat) (s : ByteArray) (b : Bool) (c0 c1 : ByteArray) (c2 : Bool) (W : World) : Prop where
 hx : W.heap[bx]? = some (.cells #[.pointer (some ⟨g, 0, none⟩)] 53 (0, 0))
 hr : W.heap[w.heap.size]? = some (.cells #[.string ⟨#[]⟩, .string ⟨#[]⟩, .bool false] 33 (0, 0))
 hc : W.heap[bc]? = some (.cells #[.string c0, .string c1, .bool c2] 33 (0, 0))
 hn : w.heap.size < bc
 hl : w0.heap.size ≤ w.heap.size
 hi : IsS55 w0 W g s b
 hb : Below w0.heap.size w0 W
 hk : KeepBut w W g none
section
variable {w0 w W W1 : World} {bx g bc : Nat} {s s1 : ByteArray} {b b1 : Bool} {c0 c1 : ByteArray} {c2 : Bool}
theorem PC.ne (h : PC w0 w bx g bc s b c0 c1 c2 W) : bx ≠ g ∧ w.heap.size ≠ g ∧ bc ≠ g ∧ bx ≠ bc := ⟨blk_ne h.hx h.hi.1 (by decide), blk_ne h.hr h.hi.1 (by decide), blk_ne h.hc h.hi.1 (by decide), blk_ne h.hx h.hc (by decide)⟩
theorem PC.call (h : PC w0 w bx g bc s b c0 c1 c2 W) (hi : IsS55 w0 W1 g s1 b1) (hb : Below w0.heap.size w0 W1) (hk : KeepBut W W1 g none) : PC w0 w bx g bc s1 b1 c0 c1 c2 W1 :=
 ⟨hk.blk h.hx h.ne.1 (by simp), hk.blk h.hr h.ne.2.1 (by simp), hk.blk h.hc h.ne.2.2.1 (by simp), h.hn, h.hl, hi, hb, h.hk.trans hk (.inl rfl)⟩
theorem PC.drew (h : PC w0 w bx g bc s b c0 c1 c2 W) : PC w0 w bx g bc s b c0 c1 c2 W.drew := ⟨h.hx, h.hr, h.hc, h.hn, h.hl, h.hi.drew, h.hb.drew, keep_drew h.hk⟩
theorem PC.bad (h : PC w0 w bx g bc s b c0 c1 c2 W) (x : Bool) : PC w0 w bx g bc s x c0 c1 c2 (W.setCell ⟨g, 1, none⟩ (.bool x)) :=
 ⟨qpb h.hx h.ne.1 _, qpb h.hr h.ne.2.1 _, qpb h.hc h.ne.2.2.1 _, h.hn, h.hl, h.hi.set_1 x, qm h.hb h.hi.2, h.hk.set_ 1 _⟩
theorem PC.set1 (h : PC w0 w bx g bc s b c0 c1 c2 W) (x : ByteArray) : PC w0 w bx g bc s b c0 x c2 (W.setCell ⟨bc, 1, none⟩ (.string x)) :=
 ⟨qpb h.hx h.ne.2.2.2 _, qpb h.hr (qyc h.hn) _, qq h.hc 1 _ rfl, h.hn, h.hl, h.hi.far (Ne.symm h.ne.2.2.1) _, qm h.hb (Nat.le_of_lt (Nat.lt_of_le_of_lt h.hl h.hn)), keep_new h.hk (Nat.le_of_lt h.hn) _⟩
theorem PC.set2 (h : PC w0 w bx g bc s b c0 c1 c2 W) (x : Bool) : PC w0 w bx g bc s b c0 c1 x (W.setCell ⟨bc, 2, none⟩ (.bool x)) :=
 ⟨qpb h.hx h.ne.2.2.2 _, qpb h.hr (qyc h.hn) _, qq h.hc 2 _ rfl, h.hn, h.hl, h.hi.far (Ne.symm h.ne.2.2.1) _, qm h.hb (Nat.le_of_lt (Nat.lt_of_le_of_lt h.hl h.hn)), keep_new h.hk (Nat.le_of_lt h.hn) _⟩
theorem PC.look (h : PC w0 w bx g bc s b c0 c1 c2 W) : W.cell? ⟨bx, 0, none⟩ = some (.pointer (some ⟨g, 0, none⟩)) ∧ W.cell? ⟨g, 0, none⟩ = some (.string s) ∧ W.cell? ⟨g, 1, none⟩ = some (.bool b) ∧ W.cell? ⟨bc, 0, none⟩ = some (.string c0) ∧ W.cell? ⟨bc, 1, none⟩ = some (.string c1) ∧ W.cell? ⟨bc, 2, none⟩ = some (.bool c2) ∧ W.frozen? ⟨g, 1, none⟩ = false ∧ W.frozen? ⟨bc, 1, none⟩ = false ∧ W.frozen? ⟨bc, 2, none⟩ = false :=
 ⟨(qh h.hx 0).trans rfl, (qh h.hi.1 0).trans rfl, (qh h.hi.1 1).trans rfl, (qh h.hc 0).trans rfl, (qh h.hc 1).trans rfl, (qh h.hc 2).trans rfl, qf h.hi.1 1, qf h.hc 1, qf h.hc 2⟩
theorem PC.end (h : PC w0 w bx g bc s b c0 c1 c2 W) (u0 u1 u2 : Value) : IsS55 w0 (((W.setCell ⟨w.heap.size, 0, none⟩ u0).setCell ⟨w.heap.size, 1, none⟩ u1).setCell ⟨w.heap.size, 2, none⟩ u2) g s b ∧ Below w0.heap.size w0 (((W.setCell ⟨w.heap.size, 0, none⟩ u0).setCell ⟨w.heap.size, 1, none⟩ u1).setCell ⟨w.heap.size, 2, none⟩ u2) ∧ KeepBut w (((W.setCell ⟨w.heap.size, 0, none⟩ u0).setCell ⟨w.heap.size, 1, none⟩ u1).setCell ⟨w.heap.size, 2, none⟩ u2) g none :=
 ⟨((h.hi.far (Ne.symm h.ne.2.1) _).far (Ne.symm h.ne.2.1) _).far (Ne.symm h.ne.2.1) _, qm (qm (qm h.hb h.hl) h.hl) h.hl, keep_new (keep_new (keep_new h.hk (Nat.le_refl _) _) (Nat.le_refl _) _) (Nat.le_refl _) _⟩
end
set_option maxHeartbeats 8000000 in
set_option maxRecDepth 100000 in
theorem qac.cond (bx g : Nat) (s0 : ByteArray) (b0 : Bool) (c : S33) (s1 : ByteArray) (b1 : Bool) (w0 w : World) (hG : Glob w0) (hI : IsS55 w0 w g s0 b0) (hB : Below w0.heap.size w0 w) (hx : w.heap[bx]? = some (.cells #[.pointer (some ⟨g, 0, none⟩)] 53 (0, 0))) (h : part_cond.f s0 b0 = some (c, s1, b1)) :
  Calls Tryd.prog 30 #[.pointer (some ⟨bx, 0, none⟩)] w fun e w' => e = .returned (.agg #[.string c.f0, .string c.f1, .bool c.f2]) ∧ IsS55 w0 w' g s1 b1 ∧ Below w0.heap.size w0 w' ∧ KeepBut w w' g none := by
 obtain ⟨⟨nm, s2, b2⟩, hrun, h2⟩ := Option.bind_eq_some_iff.1 h
 obtain ⟨⟨ok, s3, b3⟩, his, h3⟩ := Option.bind_eq_some_iff.1 h2
 obtain ⟨⟨v, gv, s4, b4⟩, htx, h4⟩ := Option.bind_eq_some_iff.1 h3
 clear h h2 h3
 dsimp only at hrun his htx h4
 have HRUN := qa.mk hrun
 have HIS := qa.mk his
 have HTX := qa.mk htx
 have HH := qa.mk h4
 have HG := qa.mk hG
 have HI := qa.mk hI
 have HB := qa.mk hB
 have HX := qa.mk hx
 have hs := hB.size
 have HNE := qa.mk (blk_ne hx hI.1 (by decide))
 have hu1 := Tryd.underlying33
 clear hrun his htx h4 hG hI hB
 obtain ⟨w1, hw1⟩ : ∃ w1, w1 = w.alloc (.cells #[.string ⟨#[]⟩, .string ⟨#[]⟩, .bool false] 33) := ⟨_, rfl⟩
 have hx1 := (qh (qj hx (.cells #[.string ⟨#[]⟩, .string ⟨#[]⟩, .bool false] 33)) 0).trans (show _ = some (Value.pointer (some ⟨g, 0, none⟩)) from rfl)
 have HK1 := qa.mk (keep_alloc (KeepBut.refl w g none) (.cells #[.string ⟨#[]⟩, .string ⟨#[]⟩, .bool false] 33))
 have HI1 := qa.mk (HI.out.alloc (.cells #[.string ⟨#[]⟩, .string ⟨#[]⟩, .bool false] 33))
 have HB1 := qa.mk (qc HB.out (.cells #[.string ⟨#[]⟩, .string ⟨#[]⟩, .bool false] 33))
 have HR1 := qa.mk (heap_alloc_new w (.cells #[.string ⟨#[]⟩, .string ⟨#[]⟩, .bool false] 33))
 clear hx hw1 w1
 go_enter Tryd.func30, Tryd.ntmps30
 go_upto_if 7 with (first
  | (go_at_call 28; refine (qpc.calls g _ _ _ _ _ _ w0 _ HI1.out HB1.out HRUN.out).mono ?_; rintro e w2 ⟨rfl, hi2, hb2, hk2⟩; have HP2 := qa.mk (show PC w0 w bx g w2.heap.size s2 b2 nm ⟨#[]⟩ false (w2.alloc (.cells #[.string nm, .string ⟨#[]⟩, .bool false] 33)) from ⟨qj (hk2.blk (qj HX.out _) HNE.out (by simp)) _, qj (hk2.blk HR1.out (blk_ne HR1.out HI1.out.1 (by decide)) (by simp)) _, heap_alloc_new _ _, qbc (hk2.blk HR1.out (blk_ne HR1.out HI1.out.1 (by decide)) (by simp)), hs, hi2.alloc _, qc hb2 _, keep_alloc (HK1.out.trans hk2 (.inl rfl)) _⟩); obtain ⟨hp0, hp1, hp2, hp3, hp4, hp5, hp6, hp7, hp8⟩ := HP2.out.look; clear hi2 hb2 hk2)
  | (go_at_call 18; go_loud (refine (qib.calls g _ _ _ _ _ _ w0 _ HP2.out.hi HP2.out.hb HIS.out).mono ?_); rintro e w3 ⟨rfl, hi3, hb3, hk3⟩; have HP3 := qa.mk (HP2.out.call hi3 hb3 hk3); clear hi3 hb3 hk3))
 clear hp0 hp1 hp2 hp3 hp4 hp5 hp6 hp7 hp8 hx1
 obtain ⟨hp0, hp1, hp2, hp3, hp4, hp5, hp6, hp7, hp8⟩ := HP3.out.look
 go_cut [] (fun wc => qa (PC w0 w bx g w2.heap.size s4 b4 nm v gv wc))
 case first =>
  cases ok
  ·have hq := HTX.out
   rw [if_neg Bool.false_ne_true] at hq
   simp only [Option.some.injEq, Prod.mk.injEq] at hq
   obtain ⟨rfl, rfl, rfl, rfl⟩ := hq
   go_wp2_with fail
   go_meet
   exact HP3
  ·have hq := HTX.out
   rw [if_pos rfl] at hq
   obtain ⟨⟨z1, z2, z3⟩, hz, hq⟩ := Option.bind_eq_some_iff.1 hq
   simp only [Option.some.injEq, Prod.mk.injEq] at hq
   obtain ⟨rfl, rfl, rfl, rfl⟩ := hq
   have HZ := qa.mk hz
   clear hz
   go_wp2_with (first
    | (go_at_call 29; go_loud (refine (qvc.calls g _ _ _ _ _ w0 _ HG.out HP3.out.hi HP3.out.hb HZ.out).mono ?_); rintro e w4 ⟨rfl, hi4, hb4, hk4⟩; have HP4 := qa.mk (HP3.out.call hi4 hb4 hk4); obtain ⟨hq0, hq1, hq2, hq3, hq4, hq5, hq6, hq7, hq8⟩ := HP4.out.look; clear hi4 hb4 hk4))
   go_meet
   exact ⟨(HP4.out.set2 true).set1 _⟩
 case rest =>
  clear hp0 hp1 hp2 hp3 hp4 hp5 hp6 hp7 hp8
  obtain ⟨hp0, hp1, hp2, hp3, hp4, hp5, hp6, hp7, hp8⟩ := hcut.out.look
  cases b4
  ·have hq := HH.out
   rw [if_neg Bool.false_ne_true] at hq
   obtain ⟨⟨z1, z2, z3⟩, hz, hq⟩ := Option.bind_eq_some_iff.1 hq
   simp only [Option.some.injEq, Prod.mk.injEq] at hq
   obtain ⟨rfl, rfl, rfl⟩ := hq
   have HZ := qa.mk hz
   clear hz
   clear hq HH HTX HRUN HIS
   go_wp2_with fail
   go_cut [] (fun wd => qa (PC w0 w bx g w2.heap.size z2 (!z1) nm v gv wd))
   case first =>
    go_region_with (first | (go_at_call 18; refine (qib.calls g _ _ _ _ _ _ w0 _ hcut.out.drew.hi hcut.out.drew.hb HZ.out).mono ?_; rintro e w5 ⟨rfl, hi5, hb5, hk5⟩; have HP5 := qa.mk (hcut.out.drew.call hi5 hb5 hk5); obtain ⟨hr0, hr1, hr2, hr3, hr4, hr5, hr6, hr7, hr8⟩ := HP5.out.look; clear hi5 hb5 hk5))
    all_goals go_wp2_with fail
    all_goals go_meet
    all_goals exact ⟨HP5.out.bad (!z1)⟩
   case rest =>
    have HP6 := hcut
    clear hp0 hp1 hp2 hp3 hp4 hp5 hp6 hp7 hp8
    obtain ⟨hp0, hp1, hp2, hp3, hp4, hp5, hp6, hp7, hp8⟩ := HP6.out.look
    have hz0 := qf HP6.out.hr 0
    have hz1 := qf HP6.out.hr 1
    have hz2 := qf HP6.out.hr 2
    have hz3 : _ = some (Value.string ⟨#[]⟩) := qh HP6.out.hr 0
    have hz4 : _ = some (Value.string ⟨#[]⟩) := qh HP6.out.hr 1
    have hz5 : _ = some (Value.bool false) := qh HP6.out.hr 2
    go_wp2_with fail
    (try simp only [Exit.inBlock, Exit.then])
    refine bodyPost_ret (v := .agg #[.string nm, .string v, .bool gv]) ?_ rfl ?_
    exact results_cell_row rfl _ _ w.heap.size 33 #[.string nm, .string v, .bool gv] (0, 0) _ rfl (qq (qq (qq HP6.out.hr 0 _ rfl) 1 _ rfl) 2 _ rfl) Tryd.underlying33 rfl (by kernel_rfl)
    exact ⟨rfl, HP6.out.end _ _ _⟩
  ·have hq := HH.out
   rw [if_pos rfl] at hq
   simp only [Option.some.injEq, Prod.mk.injEq] at hq
   obtain ⟨rfl, rfl, rfl⟩ := hq
   clear HH HTX HRUN HIS
   go_wp2_with fail
   go_cut [] (fun wd => qa (PC w0 w bx g w2.heap.size s4 true nm v gv wd))
   case first =>
    go_region_with fail
    all_goals go_wp2_with fail
    all_goals go_meet
    all_goals exact ⟨hcut.out.drew.bad true⟩
   case rest =>
    have HP6 := hcut
    clear hp0 hp1 hp2 hp3 hp4 hp5 hp6 hp7 hp8
    obtain ⟨hp0, hp1, hp2, hp3, hp4, hp5, hp6, hp7, hp8⟩ := HP6.out.look
    have hz0 := qf HP6.out.hr 0
    have hz1 := qf HP6.out.hr 1
    have hz2 := qf HP6.out.hr 2
    have hz3 : _ = some (Value.string ⟨#[]⟩) := qh HP6.out.hr 0
    have hz4 : _ = some (Value.string ⟨#[]⟩) := qh HP6.out.hr 1
    have hz5 : _ = some (Value.bool false) := qh HP6.out.hr 2
    go_wp2_with fail
    (try simp only [Exit.inBlock, Exit.then])
    refine bodyPost_ret (v := .agg #[.string nm, .string v, .bool gv]) ?_ rfl ?_
    exact results_cell_row rfl _ _ w.heap.size 33 #[.string nm, .string v, .bool gv] (0, 0) _ rfl (qq (qq (qq HP6.out.hr 0 _ rfl) 1 _ rfl) 2 _ rfl) Tryd.underlying33 rfl (by kernel_rfl)
    exact ⟨rfl, HP6.out.end _ _ _⟩
structure PP (w0 w : World) (g : Nat) (s : ByteArray) (b : Bool) (p1 : Bool) (p2 p3 : ByteArray) (vs : Value) (cs : List S33) (W : World) : Prop where
 hx : W.heap[w.heap.size]? = some (.cells #[.pointer (some ⟨g, 0, none⟩)] 53 (0, 0))
 hr : W.heap[w.heap.size + 1]? = some (.cells #[.bool false, .bool false, .string ⟨#[]⟩, .string ⟨#[]⟩, .slice none 0 0] 41 (0, 0))
 hp : W.heap[w.heap.size + 1 + 1]? = some (.cells #[.bool false, .bool p1, .string p2, .string p3, vs] 41 (0, 0))
 ho : Kd.R k33 33 W w.heap.size (fun _ => True) vs cs
 hl : w0.heap.size ≤ w.heap.size
 hi : IsS55 w0 W g s b
 hb : Below w0.heap.size w0 W
 hk : KeepBut w W g none
section
variable {w0 w W W1 : World} {g : Nat} {s s1 : ByteArray} {b b1 : Bool} {p1 : Bool} {p2 p3 : ByteArray} {vs : Value} {cs : List S33}
theorem PP.ne (h : PP w0 w g s b p1 p2 p3 vs cs W) : w.heap.size ≠ g ∧ w.heap.size + 1 ≠ g ∧ w.heap.size + 1 + 1 ≠ g := ⟨blk_ne h.hx h.hi.1 (by decide), blk_ne h.hr h.hi.1 (by decide), blk_ne h.hp h.hi.1 (by decide)⟩
theorem PP.call (h : PP w0 w g s b p1 p2 p3 vs cs W) (hi : IsS55 w0 W1 g s1 b1) (hb : Below w0.heap.size w0 W1) (hk : KeepBut W W1 g none) : PP w0 w g s1 b1 p1 p2 p3 vs cs W1 :=
 ⟨hk.blk h.hx h.ne.1 (by simp), hk.blk h.hr h.ne.2.1 (by simp), hk.blk h.hp h.ne.2.2 (by simp), Kd.R_mono (Kd.R_keep (Kd.R_types h.ho h.hi.1 (by decide)) hk (fun _ hh => hh.2)) (fun _ _ => trivial), h.hl, hi, hb, h.hk.trans hk (.inl rfl)⟩
theorem PP.drew (h : PP w0 w g s b p1 p2 p3 vs cs W) : PP w0 w g s b p1 p2 p3 vs cs W.drew := ⟨h.hx, h.hr, h.hp, Kd.R_drew h.ho, h.hl, h.hi.drew, h.hb.drew, keep_drew h.hk⟩
theorem PP.bad (h : PP w0 w g s b p1 p2 p3 vs cs W) (x : Bool) : PP w0 w g s x p1 p2 p3 vs cs (W.setCell ⟨g, 1, none⟩ (.bool x)) :=
 ⟨qpb h.hx h.ne.1 _, qpb h.hr h.ne.2.1 _, qpb h.hp h.ne.2.2 _, Kd.R_set h.ho h.hi.1 (by decide) _ _, h.hl, h.hi.set_1 x, qm h.hb h.hi.2, h.hk.set_ 1 _⟩
theorem PP.set1 (h : PP w0 w g s b p1 p2 p3 vs cs W) (x : Bool) : PP w0 w g s b x p2 p3 vs cs (W.setCell ⟨w.heap.size + 1 + 1, 1, none⟩ (.bool x)) :=
 ⟨qpb h.hx zz1 _, qpb h.hr zz1 _, qq h.hp 1 _ rfl, Kd.R_set h.ho h.hp (by decide) _ _, h.hl, h.hi.far (Ne.symm h.ne.2.2) _, qm h.hb (by have := h.hl; omega), keep_new h.hk (by omega) _⟩
theorem PP.set2 (h : PP w0 w g s b p1 p2 p3 vs cs W) (x : ByteArray) : PP w0 w g s b p1 x p3 vs cs (W.setCell ⟨w.heap.size + 1 + 1, 2, none⟩ (.string x)) :=
 ⟨qpb h.hx zz1 _, qpb h.hr zz1 _, qq h.hp 2 _ rfl, Kd.R_set h.ho h.hp (by decide) _ _, h.hl, h.hi.far (Ne.symm h.ne.2.2) _, qm h.hb (by have := h.hl; omega), keep_new h.hk (by omega) _⟩
theorem PP.set3 (h : PP w0 w g s b p1 p2 p3 vs cs W) (x : ByteArray) : PP w0 w g s b p1 p2 x vs cs (W.setCell ⟨w.heap.size + 1 + 1, 3, none⟩ (.string x)) :=
 ⟨qpb h.hx zz1 _, qpb h.hr zz1 _, qq h.hp 3 _ rfl, Kd.R_set h.ho h.hp (by decide) _ _, h.hl, h.hi.far (Ne.symm h.ne.2.2) _, qm h.hb (by have := h.hl; omega), keep_new h.hk (by omega) _⟩
theorem PP.grow (h : PP w0 w g s b p1 p2 p3 vs cs W) {v1 : Value} {cs1 : List S33} (ho : Kd.R k33 33 W1 w.heap.size (fun _ => True) v1 cs1) (hb : Below w.heap.size W W1) (hg : W.grownBy W1 vs.ownBlock) : PP w0 w g s b p1 p2 p3 v1 cs1 (W1.setCell ⟨w.heap.size + 1 + 1, 4, none⟩ v1) := by
 have e1 := blk_grown h.hx hg (Kd.R_ne h.ho h.hx (by decide))
 have e2 := blk_grown h.hr hg (Kd.R_ne h.ho h.hr (by decide))
 have e3 := blk_grown h.hp hg (Kd.R_ne h.ho h.hp (by decide))
 exact ⟨qpb e1 zz1 _, qpb e2 zz1 _, qq e3 4 _ rfl, Kd.R_set ho e3 (by decide) _ _, h.hl, (h.hi.grown hg (Kd.R_ne h.ho h.hi.1 (by decide))).far (Ne.symm h.ne.2.2) _, qm (h.hb.trans (hb.mono h.hl)) (by have := h.hl; omega), keep_new ⟨Nat.le_trans h.hk.1 hg.size, fun i hi hgi hn => (hb.block i hi).trans (h.hk.2 i hi hgi hn)⟩ (by omega) _⟩
theorem PP.look (h : PP w0 w g s b p1 p2 p3 vs cs W) : W.cell? ⟨w.heap.size, 0, none⟩ = some (.pointer (some ⟨g, 0, none⟩)) ∧ W.cell? ⟨g, 1, none⟩ = some (.bool b) ∧ W.cell? ⟨w.heap.size + 1 + 1, 0, none⟩ = some (.bool false) ∧ W.cell? ⟨w.heap.size + 1 + 1, 1, none⟩ = some (.bool p1) ∧ W.cell? ⟨w.heap.size + 1 + 1, 2, none⟩ = some (.string p2) ∧ W.cell? ⟨w.heap.size + 1 + 1, 3, none⟩ = some (.string p3) ∧ W.cell? ⟨w.heap.size + 1 + 1, 4, none⟩ = some vs :=
 ⟨(qh h.hx 0).trans rfl, (qh h.hi.1 1).trans rfl, (qh h.hp 0).trans rfl, (qh h.hp 1).trans rfl, (qh h.hp 2).trans rfl, (qh h.hp 3).trans rfl, (qh h.hp 4).trans rfl⟩
theorem PP.free (h : PP w0 w g s b p1 p2 p3 vs cs W) : W.frozen? ⟨g, 1, none⟩ = false ∧ W.frozen? ⟨w.heap.size + 1 + 1, 1, none⟩ = false ∧ W.frozen? ⟨w.heap.size + 1 + 1, 2, none⟩ = false ∧ W.frozen? ⟨w.heap.size + 1 + 1, 3, none⟩ = false ∧ W.frozen? ⟨w.heap.size + 1 + 1, 4, none⟩ = false :=
 ⟨qf h.hi.1 1, qf h.hp 1, qf h.hp 2, qf h.hp 3, qf h.hp 4⟩
end
structure PE (w0 w : World) (g : Nat) (s : ByteArray) (b : Bool) (vs : Value) (cs : List S33) (r : Array Value) (W : World) : Prop where
 hr : W.heap[w.heap.size + 1]? = some (.cells r 41 (0, 0))
 ho : Kd.R k33 33 W w.heap.size (fun _ => True) vs cs
 hl : w0.heap.size ≤ w.heap.size
 hi : IsS55 w0 W g s b
 hb : Below w0.heap.size w0 W
 hk : KeepBut w W g none
theorem PE.put {w0 w W : World} {g : Nat} {s : ByteArray} {b : Bool} {vs : Value} {cs : List S33} {r : Array Value} (h : PE w0 w g s b vs cs r W) (j : Nat) (u : Value) : PE w0 w g s b vs cs (r.setIfInBounds j u) (W.setCell ⟨w.heap.size + 1, j, none⟩ u) :=
 ⟨qq h.hr j u rfl, Kd.R_set h.ho h.hr (by decide) _ _, h.hl, h.hi.far (Ne.symm (blk_ne h.hr h.hi.1 (by decide))) _, qm h.hb (by have := h.hl; omega), keep_new h.hk (by omega) _⟩
theorem PP.last {w0 w W : World} {g : Nat} {s : ByteArray} {b : Bool} {p1 : Bool} {p2 p3 : ByteArray} {vs : Value} {cs : List S33} (h : PP w0 w g s b p1 p2 p3 vs cs W) :
  PE w0 w g s b vs cs #[.bool false, .bool p1, .string p2, .string p3, vs] (((((W.setCell ⟨w.heap.size + 1, 0, none⟩ (.bool false)).setCell ⟨w.heap.size + 1, 1, none⟩ (.bool p1)).setCell ⟨w.heap.size + 1, 2, none⟩ (.string p2)).setCell ⟨w.heap.size + 1, 3, none⟩ (.string p3)).setCell ⟨w.heap.size + 1, 4, none⟩ vs) :=
 ((((PE.put ⟨h.hr, h.ho, h.hl, h.hi, h.hb, h.hk⟩ 0 _).put 1 _).put 2 _).put 3 _).put 4 _
theorem PP.back {w0 w W : World} {g : Nat} {s : ByteArray} {b : Bool} {p1 : Bool} {p2 p3 : ByteArray} {vs : Value} {cs : List S33} (h : PP w0 w g s b p1 p2 p3 vs cs W) :
  W.frozen? ⟨w.heap.size + 1, 0, none⟩ = false ∧ W.frozen? ⟨w.heap.size + 1, 1, none⟩ = false ∧ W.frozen? ⟨w.heap.size + 1, 2, none⟩ = false ∧ W.frozen? ⟨w.heap.size + 1, 3, none⟩ = false ∧ W.frozen? ⟨w.heap.size + 1, 4, none⟩ = false ∧ W.cell? ⟨w.heap.size + 1, 0, none⟩ = some (.bool false) ∧ W.cell? ⟨w.heap.size + 1, 1, none⟩ = some (.bool false) ∧ W.cell? ⟨w.heap.size + 1, 2, none⟩ = some (.string ⟨#[]⟩) ∧ W.cell? ⟨w.heap.size + 1, 3, none⟩ = some (.string ⟨#[]⟩) ∧ W.cell? ⟨w.heap.size + 1, 4, none⟩ = some (.slice none 0 0) :=
 ⟨qf h.hr 0, qf h.hr 1, qf h.hr 2, qf h.hr 3, qf h.hr 4, qh h.hr 0, qh h.hr 1, qh h.hr 2, qh h.hr 3, qh h.hr 4⟩
set_option maxHeartbeats 8000000 in
set_option maxRecDepth 100000 in
theorem qac.calls (g : Nat) (s0_0 : ByteArray) (s0_1 : Bool) (r1 r2 : Bool) (r3 r4 : ByteArray) (r5 : List S33) (r6 : ByteArray) (r7 : Bool) (w0 w : World) (hG : Glob w0) (hI : IsS55 w0 w g s0_0 s0_1) (hB : Below w0.heap.size w0 w) (h : qac.f s0_0 s0_1 = some (r1, r2, r3, r4, r5, r6, r7)) :
  Calls Tryd.prog 17 #[.pointer (some ⟨g, 0, none⟩)] w fun e w' => ∃ v : Value, e = .returned (.agg #[.bool r1, .bool r2, .string r3, .string r4, v]) ∧ Kd.R k33 33 w' w.heap.size (fun _ => True) v r5 ∧ IsS55 w0 w' g r6 r7 ∧ Below w0.heap.size w0 w' ∧ KeepBut w w' g none := by
 obtain ⟨⟨st, s2, b2⟩, his, h2⟩ := Option.bind_eq_some_iff.1 h
 obtain ⟨⟨tg, s3, b3⟩, htg, h3⟩ := Option.bind_eq_some_iff.1 h2
 obtain ⟨⟨kd, s4, b4⟩, his2, h4⟩ := Option.bind_eq_some_iff.1 h3
 obtain ⟨⟨ky, s5, b5⟩, hky, h5⟩ := Option.bind_eq_some_iff.1 h4
 obtain ⟨⟨cs, s6, b6⟩, hcs, h6⟩ := Option.bind_eq_some_iff.1 h5
 clear h h2 h3 h4 h5
 dsimp only at his htg his2 hky hcs h6
 simp only [Option.some.injEq, Prod.mk.injEq] at h6
 obtain ⟨rfl, rfl, rfl, rfl, rfl, rfl, rfl⟩ := h6
 have HIS := qa.mk his
 have HTG := qa.mk htg
 have HIS2 := qa.mk his2
 have HKY := qa.mk hky
 have HCS := qa.mk hcs
 have HG := qa.mk hG
 have HI := qa.mk hI
 have HB := qa.mk hB
 have hs := hB.size
 have hu1 := Tryd.underlying41
 have hu2 := Tryd.underlying33
 clear his htg his2 hky hcs hG hI hB
 go_enter Tryd.func17, Tryd.ntmps17
 go_upto_region 2 with fail
 have HP0 := qa.mk (show PP w0 w g s0_0 s0_1 false ⟨#[]⟩ ⟨#[]⟩ (.slice none 0 0) [] (((w.alloc (.cells #[.pointer (some ⟨g, 0, none⟩)] 53)).alloc (.cells #[.bool false, .bool false, .string ⟨#[]⟩, .string ⟨#[]⟩, .slice none 0 0] 41)).alloc (.cells #[.bool false, .bool false, .string ⟨#[]⟩, .string ⟨#[]⟩, .slice none 0 0] 41)) from
  ⟨qj (qj (blk_new _ _) _) _, by simpa using qj (blk_new (w.alloc (.cells #[.pointer (some ⟨g, 0, none⟩)] 53)) (.cells #[.bool false, .bool false, .string ⟨#[]⟩, .string ⟨#[]⟩, .slice none 0 0] 41)) (.cells #[.bool false, .bool false, .string ⟨#[]⟩, .string ⟨#[]⟩, .slice none 0 0] 41), by simpa using blk_new ((w.alloc (.cells #[.pointer (some ⟨g, 0, none⟩)] 53)).alloc (.cells #[.bool false, .bool false, .string ⟨#[]⟩, .string ⟨#[]⟩, .slice none 0 0] 41)) (.cells #[.bool false, .bool false, .string ⟨#[]⟩, .string ⟨#[]⟩, .slice none 0 0] 41), Kd.R_nil _ _ _ _ _, hs, ((HI.out.alloc _).alloc _).alloc _, qc (qc (qc HB.out _) _) _, keep_alloc (keep_alloc (keep_alloc (KeepBut.refl _ _ _) _) _) _⟩)
 generalize ((w.alloc (.cells #[.pointer (some ⟨g, 0, none⟩)] 53)).alloc (.cells #[.bool false, .bool false, .string ⟨#[]⟩, .string ⟨#[]⟩, .slice none 0 0] 41)).alloc (.cells #[.bool false, .bool false, .string ⟨#[]⟩, .string ⟨#[]⟩, .slice none 0 0] 41) = W0 at *
 obtain ⟨ha0, ha1, ha2, ha3, ha4, ha5, ha6⟩ := HP0.out.look
 go_upto_if 7 with (first
  | (go_at_call 18; refine (qib.calls g _ _ _ _ _ _ w0 _ HP0.out.hi HP0.out.hb HIS.out).mono ?_; rintro e w1 ⟨rfl, hi1, hb1, hk1⟩; have HP1 := qa.mk (HP0.out.call hi1 hb1 hk1); clear hi1 hb1 hk1))
 clear ha0 ha1 ha2 ha3 ha4 ha5 ha6
 obtain ⟨ha0, ha1, ha2, ha3, ha4, ha5, ha6⟩ := HP1.out.look
 go_cut [] (fun wc => qa (PP w0 w g s3 b3 false tg ⟨#[]⟩ (.slice none 0 0) [] wc))
 case first =>
  have hq := HTG.out
  clear HTG HIS
  cases st
  ·rw [Bool.not_false]
   rw [if_neg Bool.false_ne_true] at hq
   obtain ⟨⟨z1, z2, z3⟩, hz, hq2⟩ := Option.bind_eq_some_iff.1 hq
   simp only [Option.some.injEq, Prod.mk.injEq] at hq2
   obtain ⟨rfl, rfl, hq3⟩ := hq2
   have HZ := qa.mk hz
   have HQ := qa.mk hq3
   clear hz hq hq3
   go_upto_if 13 with (first
    | (go_at_call 28; refine (qpc.calls g _ _ _ _ _ _ w0 _ HP1.out.hi HP1.out.hb HZ.out).mono ?_; rintro e w2 ⟨rfl, hi2, hb2, hk2⟩; have HP2 := qa.mk (HP1.out.call hi2 hb2 hk2); have HP3 := qa.mk (HP2.out.set2 z1); obtain ⟨hb0, hb1, hb2, hb3, hb4, hb5, hb6⟩ := HP2.out.look; obtain ⟨hf0, hf1, hf2, hf3, hf4⟩ := HP2.out.free; clear hi2 hk2))
   have HQ2 := qa.mk (show (z3 || z1.toList.isEmpty) = b3 from by rw [Lib.toList_data]; exact HQ.out)
   clear hb0 hb1 hb2 hb3 hb4 hb5 hb6 hf0 hf1 hf2 hf3 hf4 ha0 ha1 ha2 ha3 ha4 ha5 ha6
   obtain ⟨ha0, ha1, ha2, ha3, ha4, ha5, ha6⟩ := HP3.out.look
   obtain ⟨hf0, hf1, hf2, hf3, hf4⟩ := HP3.out.free
   generalize w2.setCell ⟨w.heap.size + 1 + 1, 2, none⟩ (.string z1) = w3 at *
   generalize z1.toList.isEmpty = em at *
   cases em
   ·have e3 : z3 = b3 := by simpa using HQ2.out
    subst e3
    go_wp2_with fail
    go_meet
    exact HP3
   ·have e3 : true = b3 := by simpa using HQ2.out
    subst e3
    go_wp2_with fail
    go_meet
    exact ⟨HP3.out.bad true⟩
  ·rw [Bool.not_true]
   rw [if_pos rfl] at hq
   simp only [Option.some.injEq, Prod.mk.injEq] at hq
   obtain ⟨rfl, rfl, rfl⟩ := hq
   go_wp2_with fail
   go_meet
   exact HP1
 case rest =>
  clear ha0 ha1 ha2 ha3 ha4 ha5 ha6 HTG HIS HP0 HP1
  obtain ⟨ha0, ha1, ha2, ha3, ha4, ha5, ha6⟩ := hcut.out.look
  go_upto_if 18 with (first
   | (go_at_call 18; refine (qib.calls g _ _ _ _ _ _ w0 _ hcut.out.hi hcut.out.hb HIS2.out).mono ?_; rintro e w1 ⟨rfl, hi1, hb1, hk1⟩; have HP1 := qa.mk (hcut.out.call hi1 hb1 hk1); clear hi1 hb1 hk1))
  clear ha0 ha1 ha2 ha3 ha4 ha5 ha6 hcut HIS2
  obtain ⟨ha0, ha1, ha2, ha3, ha4, ha5, ha6⟩ := HP1.out.look
  go_cut [] (fun wc => qa (PP w0 w g s5 b5 kd tg ky (.slice none 0 0) [] wc))
  case first =>
   have hq := HKY.out
   clear HKY HCS
   cases kd
   ·rw [if_neg Bool.false_ne_true] at hq
    simp only [Option.some.injEq, Prod.mk.injEq] at hq
    obtain ⟨rfl, rfl, rfl⟩ := hq
    go_wp2_with fail
    go_meet
    exact HP1
   ·rw [if_pos rfl] at hq
    have HZ := qa.mk hq
    clear hq
    go_wp2_with (first
     | (go_at_call 29; refine (qvc.calls g _ _ _ _ _ w0 _ HG.out HP1.out.hi HP1.out.hb HZ.out).mono ?_; rintro e w4 ⟨rfl, hi4, hb4, hk4⟩; have HP4 := qa.mk (HP1.out.call hi4 hb4 hk4); obtain ⟨hb0, hb1, hb2, hb3, hb4, hb5, hb6⟩ := HP4.out.look; obtain ⟨hf0, hf1, hf2, hf3, hf4⟩ := HP4.out.free; clear hi4 hk4))
    go_meet
    exact ⟨(HP4.out.set1 true).set3 _⟩
  case rest =>
   clear ha0 ha1 ha2 ha3 ha4 ha5 ha6 HP1 HKY
   go_wp2_with fail
   go_loopg [] 10 (fun kq w' => ∃ (s : ByteArray) (b : Bool) (vs : Value) (acc : List S33), qa (part_conds.f kq acc s b = some (cs, s6, b6)) ∧ qa (PP w0 w g s b kd tg ky vs acc w'))
   case atStart => exact ⟨_, _, _, _, HCS, hcut⟩
   case round =>
    clear HCS
    obtain ⟨s, b, vs, acc, HC, HP⟩ := hrel
    obtain ⟨A, cp, rfl⟩ := Kd.R_slice HP.out.ho
    cases gk with
    | zero => exact absurd HC.out (by simp [part_conds.f])
    | succ k =>
     have hc := HC.out
     unfold part_conds.f at hc
     clear HC
     cases b
     ·rw [if_neg Bool.false_ne_true] at hc
      by_cases h8 : acc.length ≤ 8
      ·rw [if_pos h8] at hc
       obtain ⟨⟨y1, y2, y3⟩, hy, hc⟩ := Option.bind_eq_some_iff.1 hc
       have HY := qa.mk hy
       dsimp only at hc
       have HC := qa.mk hc
       clear hy hc
       have h8a : decide ((acc.length : Int) ≤ 8) = true := by simp; omega
       obtain ⟨ha0, ha1, ha2, ha3, ha4, ha5, ha6⟩ := HP.out.look
       go_upto_if 38 with (first
        | (go_at_call 18; refine (qib.calls g _ _ _ _ _ _ w0 _ HP.out.hi HP.out.hb HY.out).mono ?_; rintro e w1 ⟨rfl, hi1, hb1, hk1⟩; have HP1 := qa.mk (HP.out.call hi1 hb1 hk1); clear hi1 hb1 hk1))
       clear ha0 ha1 ha2 ha3 ha4 ha5 ha6 HY
       obtain ⟨ha0, ha1, ha2, ha3, ha4, ha5, ha6⟩ := HP1.out.look
       have hc := HC.out
       clear HC
       cases y1
       ·rw [if_neg Bool.false_ne_true] at hc
        simp only [Option.some.injEq, Prod.mk.injEq] at hc
        obtain ⟨rfl, rfl, rfl⟩ := hc
        obtain ⟨hk0, hk1, hk2, hk3, hk4, hk5, hk6, hk7, hk8, hk9⟩ := HP1.out.back
        go_wp2_with fail
        refine bodyPost_ret (v := .agg #[.bool false, .bool kd, .string tg, .string ky, .slice A acc.length cp]) ?_ rfl ?_
        exact results_cell_row rfl _ _ (w.heap.size + 1) 41 #[.bool false, .bool kd, .string tg, .string ky, .slice A acc.length cp] (0, 0) _ rfl HP1.out.last.hr Tryd.underlying41 rfl (by kernel_rfl)
        exact ⟨_, rfl, HP1.out.last.ho, HP1.out.last.hi, HP1.out.last.hb, HP1.out.last.hk⟩
       ·rw [if_pos rfl] at hc
        obtain ⟨⟨c, z2, z3⟩, hz, hc⟩ := Option.bind_eq_some_iff.1 hc
        have HZ := qa.mk hz
        have HC := qa.mk hc
        clear hz hc
        have HIN := qa.mk (show (Tryd.prog.info? 33).map (fun i => (i.zero, i.size, i.bytes)) = some (some (.agg #[.string ⟨#[]⟩, .string ⟨#[]⟩, .bool false]), Kd.sz k33, 40) from by kernel_rfl)
        have HA8 := qa.mk (show (acc.length + 1) * 40 ≤ 140737488355328 from by omega)
        go_wp2_with fail
        go_region_law (first
         | (refine Kd.R_append_step k33 (w0 := w5) w.heap.size rfl (.tmp 40) (.tmp 43) 39 33 (.agg #[.string ⟨#[]⟩, .string ⟨#[]⟩, .bool false]) 40 rfl Tryd.underlying39 HIN.out rfl (by decide) (by decide) (.slice A acc.length cp) acc c [.string c.f0, .string c.f1, .bool c.f2] (fun _ => True) (fun _ => False) rfl rfl (k33_mkM _ _ _ _) (fun _ h => h.elim) (fun _ _ => trivial) HP5.out.ho (Below.refl _ _) (Nat.le_of_lt (Nat.lt_of_le_of_lt (Nat.le_add_right _ _) (qbc HP5.out.hr))) HA8.out ?_; intro v1 w6 ho6 hb6 hg6 _; obtain ⟨A6, c6, e6⟩ := Kd.R_slice ho6; subst e6; have HP6 := qa.mk (HP5.out.grow ho6 hb6 hg6); rw [show (acc ++ [c]).length = acc.length + 1 from by simp] at HP6; have hp6 := blk_grown HP5.out.hp hg6 (Kd.R_ne HP5.out.ho HP5.out.hp (by decide)); have hc6 : _ = some (Value.slice A acc.length cp) := qh hp6 4; have hf6 := qf hp6 4; clear ho6 hb6 hg6 hp6)
         | (go_simp; go_at_call 30; refine (qac.cond _ g _ _ c z2 z3 w0 _ HG.out HP1.out.drew.hi HP1.out.drew.hb HP1.out.drew.hx HZ.out).mono ?_; rintro e w5 ⟨rfl, hi5, hb5, hk5⟩; have HP5 := qa.mk (HP1.out.drew.call hi5 hb5 hk5); obtain ⟨hb0, hb1, hb2, hb3, hb4, hb5, hb6⟩ := HP5.out.look; obtain ⟨hf0, hf1, hf2, hf3, hf4⟩ := HP5.out.free; have hb7 : _ = some (Value.slice A acc.length cp) := qh (qj HP5.out.hp (.cells #[.string c.f0, .string c.f1, .bool c.f2] 33)) 4; clear hi5 hk5))
        all_goals go_wp2_with fail
        all_goals go_roundg k
        all_goals first | exact ⟨_, _, _, _, HC, HP6⟩ | omega
      ·rw [if_neg h8] at hc
       simp only [Option.some.injEq, Prod.mk.injEq] at hc
       obtain ⟨rfl, rfl, rfl⟩ := hc
       have h8a : decide ((acc.length : Int) ≤ 8) = false := by simp; omega
       obtain ⟨ha0, ha1, ha2, ha3, ha4, ha5, ha6⟩ := HP.out.look
       obtain ⟨hk0, hk1, hk2, hk3, hk4, hk5, hk6, hk7, hk8, hk9⟩ := HP.out.back
       go_wp2_with fail
       refine bodyPost_ret (v := .agg #[.bool false, .bool kd, .string tg, .string ky, .slice A acc.length cp]) ?_ rfl ?_
       exact results_cell_row rfl _ _ (w.heap.size + 1) 41 #[.bool false, .bool kd, .string tg, .string ky, .slice A acc.length cp] (0, 0) _ rfl HP.out.last.hr Tryd.underlying41 rfl (by kernel_rfl)
       exact ⟨_, rfl, HP.out.last.ho, HP.out.last.hi, HP.out.last.hb, HP.out.last.hk⟩
     ·rw [if_pos rfl] at hc
      simp only [Option.some.injEq, Prod.mk.injEq] at hc
      obtain ⟨rfl, rfl, rfl⟩ := hc
      obtain ⟨ha0, ha1, ha2, ha3, ha4, ha5, ha6⟩ := HP.out.look
      obtain ⟨hk0, hk1, hk2, hk3, hk4, hk5, hk6, hk7, hk8, hk9⟩ := HP.out.back
      go_wp2_with fail
      refine bodyPost_ret (v := .agg #[.bool false, .bool kd, .string tg, .string ky, .slice A acc.length cp]) ?_ rfl ?_
      exact results_cell_row rfl _ _ (w.heap.size + 1) 41 #[.bool false, .bool kd, .string tg, .string ky, .slice A acc.length cp] (0, 0) _ rfl HP.out.last.hr Tryd.underlying41 rfl (by kernel_rfl)
      exact ⟨_, rfl, HP.out.last.ho, HP.out.last.hi, HP.out.last.hb, HP.out.last.hk⟩
mutual
def qz.l0 : Nat → List (S41) → ByteArray → Bool → Option ((List (S41)) × Int)
 | 0, _, _, _ => none
 | k + 1, x5, x130000, x130001 => if x130001 = true then (qz.j1 k x5 false x130000 x130001) else (qz.j1 k x5 (decide ((x5.length : Int) ≤ 8)) x130000 x130001)
def qz.j1 : Nat → List (S41) → Bool → ByteArray → Bool → Option ((List (S41)) × Int)
 | 0, _, _, _, _ => none
 | k + 1, x5, x23, x130000, x130001 => if x23 = true then ((qib.f x130000 x130001 (⟨#[62]⟩ : ByteArray)).bind fun bt143 => (if bt143.1 = true then ((qac.f bt143.2.1 bt143.2.2).bind fun bt146 => (if x5.length < 2199023255552 then (qz.l0 k (x5 ++ [(⟨bt143.1, bt146.2.1, bt146.2.2.1, bt146.2.2.2.1, bt146.2.2.2.2.1⟩ : S41)]) bt146.2.2.2.2.2.1 bt146.2.2.2.2.2.2) else (none))) else ((qib.f bt143.2.1 bt143.2.2 (⟨#[32]⟩ : ByteArray)).bind fun bt159 => (if bt159.1 = true then ((qac.f bt159.2.1 bt159.2.2).bind fun bt162 => (if x5.length < 2199023255552 then (qz.l0 k (x5 ++ [(⟨bt143.1, bt162.2.1, bt162.2.2.1, bt162.2.2.2.1, bt162.2.2.2.2.1⟩ : S41)]) bt162.2.2.2.2.2.1 bt162.2.2.2.2.2.2) else (none))) else (if bt159.2.2 = true then (some (([] : List (S41)), 2)) else (if bt159.2.1.toList = ([] : List UInt8) then ((qx.f k x5).bind fun t175 => (if t175 = 0 then (some (x5, 0)) else (some (([] : List (S41)), 2)))) else (some (([] : List (S41)), 2)))))))) else (if x130001 = true then (some (([] : List (S41)), 2)) else (if x130000.toList = ([] : List UInt8) then ((qx.f k x5).bind fun t142 => (if t142 = 0 then (some (x5, 0)) else (some (([] : List (S41)), 2)))) else (some (([] : List (S41)), 2))))
end
def qz.f (k : Nat) (a0 : ByteArray) : Option ((List (S41)) × Int) := (qac.f a0 false).bind fun bt130 => (qz.l0 k (([(⟨bt130.1, bt130.2.1, bt130.2.2.1, bt130.2.2.2.1, bt130.2.2.2.2.1⟩ : S41)] : List (S41))) bt130.2.2.2.2.2.1 bt130.2.2.2.2.2.2)
theorem qz.mono_l : ∀ k, (∀ y0 y1 y2, LeO (qz.l0 k y0 y1 y2) (qz.l0 (k + 1) y0 y1 y2)) ∧ (∀ y0 y1 y2 y3, LeO (qz.j1 k y0 y1 y2 y3) (qz.j1 (k + 1) y0 y1 y2 y3))
 | 0 => ⟨fun _ _ _ r h => by simp [qz.l0] at h, fun _ _ _ _ r h => by simp [qz.j1] at h⟩
 | k + 1 => by
  obtain ⟨ih0, ih1⟩ := qz.mono_l k
  refine ⟨?_, ?_⟩
  ·intro y0 y1 y2
   unfold qz.l0
   repeat' first
   | (with_reducible exact ih0 _ _ _)
   | (with_reducible exact ih1 _ _ _ _)
   | (with_reducible exact qx.mono _ _)
   | (with_reducible exact LeO.refl _)
   | (with_reducible exact LeO.none _)
   | (with_reducible refine LeO.ite ?_ ?_)
   | (with_reducible refine LeO.bind ?_ (fun _ => ?_))
   | exact ih0 _ _ _
   | exact ih1 _ _ _ _
   | exact qx.mono _ _
   | exact LeO.none _
   | refine LeO.ite ?_ ?_
   | refine LeO.bind ?_ (fun _ => ?_)
  ·intro y0 y1 y2 y3
   unfold qz.j1
   repeat' first
   | (with_reducible exact ih0 _ _ _)
   | (with_reducible exact ih1 _ _ _ _)
   | (with_reducible exact qx.mono _ _)
   | (with_reducible exact LeO.refl _)
   | (with_reducible exact LeO.none _)
   | (with_reducible refine LeO.ite ?_ ?_)
   | (with_reducible refine LeO.bind ?_ (fun _ => ?_))
   | exact ih0 _ _ _
   | exact ih1 _ _ _ _
   | exact qx.mono _ _
   | exact LeO.none _
   | refine LeO.ite ?_ ?_
   | refine LeO.bind ?_ (fun _ => ?_)
theorem qz.mono : ∀ a0 k, LeO (qz.f k a0) (qz.f (k + 1) a0) := by
 intro a0 k
 obtain ⟨ih0, ih1⟩ := qz.mono_l k
 unfold qz.f
 repeat' first
   | (with_reducible exact ih0 _ _ _)
   | (with_reducible exact ih1 _ _ _ _)
   | (with_reducible exact qx.mono _ _)
   | (with_reducible exact LeO.refl _)
   | (with_reducible exact LeO.none _)
   | (with_reducible refine LeO.ite ?_ ?_)
   | (with_reducible refine LeO.bind ?_ (fun _ => ?_))
   | exact ih0 _ _ _
   | exact ih1 _ _ _ _
   | exact qx.mono _ _
   | exact LeO.none _
   | refine LeO.ite ?_ ?_
   | refine LeO.bind ?_ (fun _ => ?_)
set_option maxHeartbeats 8000000 in
set_option maxRecDepth 100000 in
theorem qz.calls (k : Nat) (a0 : ByteArray) (r1 : List (S41)) (r2 : Int) (w : World) (hG : Glob w) (h : qz.f k a0 = some (r1, r2)) :
  Calls Tryd.prog 6 #[.string a0] w fun e w' => ∃ v0_ : Value, e = .returned (.tuple #[v0_, .int .i64 r2]) ∧ Kd.N k41 41 w' w.heap.size (fun k_ => (w.heap.size ≤ k_)) v0_ r1 ∧ Below w.heap.size w w' := by
 have hu55 := Tryd.underlying55
 have hu41 := Tryd.underlying41
 have HG := qa.mk hG
 clear hG
 have HB := qa.mk (Below.refl w.heap.size w)
 have H : ((qac.f a0 false).bind fun bt130 => (qz.l0 k (([(⟨bt130.1, bt130.2.1, bt130.2.2.1, bt130.2.2.2.1, bt130.2.2.2.2.1⟩ : S41)] : List (S41))) bt130.2.2.2.2.2.1 bt130.2.2.2.2.2.2)) = some (r1, r2) := h
 clear h
 replace H := Option.bind_eq_some_iff.mp H
 obtain ⟨⟨t130, t131, t132, t133, t134, t137, t138⟩, A20, H⟩ := H
 replace H : (qz.l0 k (([(⟨t130, t131, t132, t133, t134⟩ : S41)] : List (S41))) t137 t138) = some (r1, r2) := H
 have A2 := qa.mk A20
 clear A20
 obtain ⟨y139, hy139⟩ : ∃ y_ : List (S41), y_ = (([(⟨t130, t131, t132, t133, t134⟩ : S41)] : List (S41))) := ⟨_, rfl⟩
 replace H : (qz.l0 k y139 t137 t138) = some (r1, r2) := by first | (rw [hy139]; with_reducible exact H) | (have H2_ := (Option.bind_some _ _).symm.trans H; rw [hy139]; with_reducible exact H2_) | (have H2_ := (Option.bind_some _ _).symm.trans H; with_reducible exact H2_) | with_reducible exact H | (rw [hy139]; exact H) | exact H
 have Ny139 := qa.mk hy139
 clear hy139
 have H' := qa.mk H
 clear H
 go_enter Tryd.func6, Tryd.ntmps6
 go_wp2_with (first | ((with_reducible refine qeb (N := 10) rfl ?_); (try (refine qkc (by rfl) ?_; dsimp only)); refine qjb ?hg (N := 10) ?hd (cs := #[.string a0, .bool false]) (t := 55) ?hr ?_; (case hd => rfl); (case hg => rfl); (case hr => exact zz6); intro gb129 hg w3 hbox hb; have n0_ := qa.mk (qp zz53 hb); have n1_ := qa.mk ((show IsS55 w w3 gb129 a0 false from ⟨hbox, (by rw [hg]; exact (qo zz53))⟩)); clear HB; have HB := n0_; have HI129 := n1_; clear n0_ n1_; clear hb hbox hg) | ((with_reducible refine qy (f := 17) rfl ?_); refine qqb (some 12) rfl rfl Tryd.func17 (by kernel_rfl) rfl #[.pointer (some ⟨gb129, 0, none⟩)] rfl zz94 ?_; (with_reducible refine (qac.calls gb129 a0 false t130 t131 t132 t133 t134 t137 t138 w _ ?side1 ?side2 ?side3 A2.out).mono ?_); (case side1 => exact HG.out); (case side2 => exact zz129); (case side3 => exact zz93); rintro e w4 ⟨v135, rfl, ho0, hi, hb, hk⟩; refine ⟨_, rfl, ?_⟩; have n0_ := qa.mk (Kd.R_lower (Kd.R_newM (M := fun k_ => (w.heap.size ≤ k_)) ho0 (qo zz93) (fun k_ h_ => h_)) (qo zz93)); have n1_ := qa.mk (hb); have n2_ := qa.mk (hi); clear HB; clear HI129; have HO136 := n0_; have HB := n1_; have HI129 := n2_; clear n0_ n1_ n2_; (try clear hb); (try clear hb2); (try clear hk); (try clear hi); (try clear ho0); obtain ⟨Ao5, co5, eo5⟩ := Kd.R_slice HO136.out; subst eo5) | ((with_reducible refine qeb (N := 13) rfl ?_); (try (refine qkc (by rfl) ?_; dsimp only)); refine Kd.N_lit k41 _ 41 ?hg (N' := 13) ?hd (xs := ([(⟨t130, t131, t132, t133, t134⟩ : S41)] : List (S41))) (inner := [.bool t130, .bool t131, .string t132, .string t133, .slice Ao5 t134.length co5]) (ok := (fun k_ => (w.heap.size ≤ k_) ∧ k_ ≠ gb129)) (okp := (fun k_ => (w.heap.size ≤ k_) ∧ k_ ≠ gb129)) ?hr ?hp (fun _ hk => hk) ((show ∀ k_, w4.heap.size ≤ k_ → (fun k_ => (w.heap.size ≤ k_) ∧ k_ ≠ gb129) k_ from fun k_ hk => ⟨(Nat.le_trans (qo zz93) hk), IsS55.fresh zz129 k_ hk⟩) _ (Nat.le_refl _)) (Below.refl _ _) (Nat.le_refl _) (by simp) ?_; (case hd => rfl); (case hg => rfl); (case hr => exact zz6); (case hp => exact (Reps.c5 (show Kd.FK k41 _ _ (⟨t130, t131, t132, t133, t134⟩ : S41) [.bool t130, .bool t131, .string t132, .string t133, .slice Ao5 t134.length co5] from (k41_mkF _ _ (⟨t130, t131, t132, t133, t134⟩ : S41) (Kd.R_reads' (Kd.R_mono (ok' := (fun k_ => (w.heap.size ≤ k_) ∧ k_ ≠ gb129)) (IsS55.apart HI129.out (HO136.out) (by decide)) (fun k_ hk => ⟨hk.1.1, hk.2⟩))).2.1 (Kd.R_F (Kd.R_mono (ok' := (fun k_ => (w.heap.size ≤ k_) ∧ k_ ≠ gb129)) (IsS55.apart HI129.out (HO136.out) (by decide)) (fun k_ hk => ⟨hk.1.1, hk.2⟩))))) (Reps.none _ _))); intro v140 w6 ho7 hb hg_ hnew_; clear hg_ hnew_; (first | rw [← Ny139.out] at ho7 | (simp only [Int.reduceToNat] at ho7; rw [← Ny139.out] at ho7)); have n0_ := qa.mk (Kd.N_lower ho7 (qo zz93)); have n1_ := qa.mk (IsS55.below zz129 hb); have n2_ := qa.mk (qp zz93 hb); clear HI129; clear HB; clear HO136; have HO141 := n0_; have HI129 := n1_; have HB := n2_; clear n0_ n1_ n2_; clear hb ho7))
 go_loopg [5] k (fun kq v5 w' => ∃ (x5_1 : List (S41)) (x130000_1 : ByteArray) (x130001_1 : Bool), qa (qz.l0 kq x5_1 x130000_1 x130001_1 = some (r1, r2)) ∧ qa (kq ≤ k) ∧ qa (Kd.N k41 41 w' w.heap.size (fun k_ => (w.heap.size ≤ k_) ∧ k_ ≠ gb129) v5 x5_1) ∧ qa (IsS55 w w' gb129 x130000_1 x130001_1) ∧ qa (Below w.heap.size w w'))
 case atStart => exact ⟨(y139), (t137), (t138), H', ⟨Nat.le_refl _⟩, ⟨by (with_reducible repeat (first | apply Kd.N_alloc | apply Kd.N_drewN | apply Kd.N_drew)); exact HO141.out⟩, ⟨zz129⟩, ⟨zz93⟩⟩
 case round =>
  clear H'
  try clear c1
  try clear p2
  try clear c5
  try clear c6
  obtain ⟨x5_1, x130000_1, x130001_1, HA, HK1, HO_5, HI129, HB⟩ := hrel
  cases gk with
  | zero => exact absurd HA.out (by simp [qz.l0])
  | succ k1 =>
   have H := HA.out
   clear HA
   simp only [qz.l0] at H
   have HC8 := qa.mk H
   clear H
   go_upto_region 3 with (fail)
   go_cut [23] (fun v23 wc => ∃ (kq : Nat) (x23_7 : Bool), v23 = .bool x23_7 ∧ qa (qz.j1 kq x5_1 x23_7 x130000_1 x130001_1 = some (r1, r2)) ∧ qa (kq ≤ k1) ∧ qa (Kd.N k41 41 wc w.heap.size (fun k_ => (w.heap.size ≤ k_) ∧ k_ ≠ gb129) u5 x5_1) ∧ qa (IsS55 w wc gb129 x130000_1 x130001_1) ∧ qa (Below w.heap.size w wc))
   case first =>
    have H := HC8.out
    clear HC8
    by_cases c9 : x130001_1 = true
    ·subst c9
     have H1 : (qz.j1 k1 x5_1 false x130000_1 true) = some (r1, r2) := by rw [if_pos rfl] at H; exact H
     clear H
     have H := H1
     clear H1
     have H' := qa.mk H
     clear H
     obtain ⟨HGz10, hgz10⟩ := HI129.out
     have hcz10_0 := cellS55_0 HGz10
     have hcz10_1 := cellS55_1 HGz10
     have hfz10_0 := qf HGz10 0
     have hfz10_1 := qf HGz10 1
     clear HGz10 hgz10
     go_wp2
     go_meet
     case rel => exact ⟨_, (false), zz7, H', ⟨zz13⟩, ⟨zz55⟩, ⟨zz129⟩, ⟨zz93⟩⟩
    ·replace c9 := Bool.eq_false_iff.mpr c9
     subst c9
     have H1 : (qz.j1 k1 x5_1 (decide ((x5_1.length : Int) ≤ 8)) x130000_1 false) = some (r1, r2) := by rw [if_neg (show ¬ (false = true) by decide)] at H; exact H
     clear H
     have H := H1
     clear H1
     have H' := qa.mk H
     clear H
     obtain ⟨HGz11, hgz11⟩ := HI129.out
     have hcz11_0 := cellS55_0 HGz11
     have hcz11_1 := cellS55_1 HGz11
     have hfz11_0 := qf HGz11 0
     have hfz11_1 := qf HGz11 1
     clear HGz11 hgz11
     obtain ⟨Ao12, co12, eo12⟩ := Kd.N_slice HO_5.out
     subst eo12
     go_wp2
     go_meet
     case rel => exact ⟨_, (decide ((x5_1.length : Int) ≤ 8)), zz7, H', ⟨zz13⟩, ⟨zz55⟩, ⟨zz129⟩, ⟨zz93⟩⟩
   case rest =>
    clear HC8
    try clear c1
    try clear p2
    try clear c5
    try clear c6
    try clear c9
    try clear hcz10_0
    try clear hcz10_1
    try clear hcz11_0
    try clear hcz11_1
    try clear hfz10_0
    try clear hfz10_1
    try clear hfz11_0
    try clear hfz11_1
    try clear p2
    obtain ⟨kq, x23_7, rfl, HA, HJ7, HO_5, HI129, HB⟩ := hcut
    cases kq with
    | zero => exact absurd HA.out (by simp [qz.j1])
    | succ kj7 =>
     have H := HA.out
     clear HA
     simp only [qz.j1] at H
     by_cases c13 : x23_7 = true
     ·subst c13
      have H1 : ((qib.f x130000_1 x130001_1 (⟨#[62]⟩ : ByteArray)).bind fun bt143 => (if bt143.1 = true then ((qac.f bt143.2.1 bt143.2.2).bind fun bt146 => (if x5_1.length < 2199023255552 then (qz.l0 kj7 (x5_1 ++ [(⟨bt143.1, bt146.2.1, bt146.2.2.1, bt146.2.2.2.1, bt146.2.2.2.2.1⟩ : S41)]) bt146.2.2.2.2.2.1 bt146.2.2.2.2.2.2) else (none))) else ((qib.f bt143.2.1 bt143.2.2 (⟨#[32]⟩ : ByteArray)).bind fun bt159 => (if bt159.1 = true then ((qac.f bt159.2.1 bt159.2.2).bind fun bt162 => (if x5_1.length < 2199023255552 then (qz.l0 kj7 (x5_1 ++ [(⟨bt143.1, bt162.2.1, bt162.2.2.1, bt162.2.2.2.1, bt162.2.2.2.2.1⟩ : S41)]) bt162.2.2.2.2.2.1 bt162.2.2.2.2.2.2) else (none))) else (if bt159.2.2 = true then (some (([] : List (S41)), 2)) else (if bt159.2.1.toList = ([] : List UInt8) then ((qx.f kj7 x5_1).bind fun t175 => (if t175 = 0 then (some (x5_1, 0)) else (some (([] : List (S41)), 2)))) else (some (([] : List (S41)), 2)))))))) = some (r1, r2) := by rw [if_pos rfl] at H; exact H
      clear H
      have H := H1
      clear H1
      replace H := Option.bind_eq_some_iff.mp H
      obtain ⟨⟨t143, t144, t145⟩, A140, H⟩ := H
      replace H : (if t143 = true then ((qac.f t144 t145).bind fun bt146 => (if x5_1.length < 2199023255552 then (qz.l0 kj7 (x5_1 ++ [(⟨t143, bt146.2.1, bt146.2.2.1, bt146.2.2.2.1, bt146.2.2.2.2.1⟩ : S41)]) bt146.2.2.2.2.2.1 bt146.2.2.2.2.2.2) else (none))) else ((qib.f t144 t145 (⟨#[32]⟩ : ByteArray)).bind fun bt159 => (if bt159.1 = true then ((qac.f bt159.2.1 bt159.2.2).bind fun bt162 => (if x5_1.length < 2199023255552 then (qz.l0 kj7 (x5_1 ++ [(⟨t143, bt162.2.1, bt162.2.2.1, bt162.2.2.2.1, bt162.2.2.2.2.1⟩ : S41)]) bt162.2.2.2.2.2.1 bt162.2.2.2.2.2.2) else (none))) else (if bt159.2.2 = true then (some (([] : List (S41)), 2)) else (if bt159.2.1.toList = ([] : List UInt8) then ((qx.f kj7 x5_1).bind fun t175 => (if t175 = 0 then (some (x5_1, 0)) else (some (([] : List (S41)), 2)))) else (some (([] : List (S41)), 2))))))) = some (r1, r2) := H
      have A14 := qa.mk A140
      clear A140
      by_cases c15 : t143 = true
      ·subst c15
       have H1 : ((qac.f t144 t145).bind fun bt146 => (if x5_1.length < 2199023255552 then (qz.l0 kj7 (x5_1 ++ [(⟨true, bt146.2.1, bt146.2.2.1, bt146.2.2.2.1, bt146.2.2.2.2.1⟩ : S41)]) bt146.2.2.2.2.2.1 bt146.2.2.2.2.2.2) else (none))) = some (r1, r2) := by rw [if_pos rfl] at H; exact H
       clear H
       have H := H1
       clear H1
       replace H := Option.bind_eq_some_iff.mp H
       obtain ⟨⟨t146, t147, t148, t149, t150, t153, t154⟩, A160, H⟩ := H
       replace H : (if x5_1.length < 2199023255552 then (qz.l0 kj7 (x5_1 ++ [(⟨true, t147, t148, t149, t150⟩ : S41)]) t153 t154) else (none)) = some (r1, r2) := H
       have A16 := qa.mk A160
       clear A160
       by_cases c17 : x5_1.length < 2199023255552
       ·rw [if_pos c17] at H
        have LMc17 := qa.mk c17
        clear c17
        obtain ⟨y156, hy156⟩ : ∃ y_ : List (S41), y_ = (x5_1 ++ [(⟨true, t147, t148, t149, t150⟩ : S41)]) := ⟨_, rfl⟩
        replace H : (qz.l0 kj7 y156 t153 t154) = some (r1, r2) := by first | (rw [hy156]; with_reducible exact H) | (have H2_ := (Option.bind_some _ _).symm.trans H; rw [hy156]; with_reducible exact H2_) | (have H2_ := (Option.bind_some _ _).symm.trans H; with_reducible exact H2_) | with_reducible exact H | (rw [hy156]; exact H) | exact H
        have Ny156 := qa.mk hy156
        clear hy156
        have H' := qa.mk H
        clear H
        go_wp2_with (first | ((with_reducible refine qy (f := 18) rfl ?_); refine qqb (some 25) rfl rfl Tryd.func18 (by kernel_rfl) rfl #[.pointer (some ⟨gb129, 0, none⟩), .string (⟨#[62]⟩ : ByteArray)] rfl zz94 ?_; (with_reducible refine (qib.calls gb129 x130000_1 x130001_1 (⟨#[62]⟩ : ByteArray) true t144 t145 w _ ?side1 ?side2 A14.out).mono ?_); (case side1 => exact zz129); (case side2 => exact zz93); rintro e w18 ⟨rfl, hi, hb, hk⟩; refine ⟨_, rfl, ?_⟩; have n0_ := qa.mk (Kd.N_mono (Kd.N_keep (Kd.N_mono (ok := fun k_ => (((w.heap.size ≤ k_)) ∧ k_ ≠ gb129)) zz55 (fun k_ hk_ => (⟨hk_, hk_.2⟩ : _ ∧ k_ ≠ gb129))) hk (fun _ h => h.2)) (fun _ h => h.1)); have n1_ := qa.mk (hb); have n2_ := qa.mk (hi); clear HO_5; clear HB; clear HI129; have HO_5 := n0_; have HB := n1_; have HI129 := n2_; clear n0_ n1_ n2_; (try clear hb); (try clear hb2); (try clear hk); (try clear hi)) | ((with_reducible refine qy (f := 17) rfl ?_); refine qqb (some 34) rfl rfl Tryd.func17 (by kernel_rfl) rfl #[.pointer (some ⟨gb129, 0, none⟩)] rfl zz94 ?_; (with_reducible refine (qac.calls gb129 t144 t145 t146 t147 t148 t149 t150 t153 t154 w _ ?side1 ?side2 ?side3 A16.out).mono ?_); (case side1 => exact HG.out); (case side2 => exact zz129); (case side3 => exact zz93); rintro e w19 ⟨v151, rfl, ho0, hi, hb, hk⟩; refine ⟨_, rfl, ?_⟩; have n0_ := qa.mk (Kd.N_mono (Kd.N_told (Kd.N_oldK (Kd.N_mono (ok := fun k_ => (((w.heap.size ≤ k_)) ∧ k_ ≠ gb129)) zz55 (fun k_ hk_ => (⟨hk_, hk_.2⟩ : _ ∧ k_ ≠ gb129))) hk) (Kd.R_base ho0)) (fun _ h_ => h_.1)); have n1_ := qa.mk (Kd.R_lower (Kd.R_newM (M := fun k_ => (w.heap.size ≤ k_)) ho0 (qo zz93) (fun k_ h_ => h_)) (qo zz93)); have n2_ := qa.mk (hb); have n3_ := qa.mk (hi); clear HO_5; clear HB; clear HI129; have HO_5 := n0_; have HO152 := n1_; have HB := n2_; have HI129 := n3_; clear n0_ n1_ n2_ n3_; (try clear hb); (try clear hb2); (try clear hk); (try clear hi); (try clear ho0)) | ((with_reducible refine qeb (N := 7) rfl ?_); (try (refine qkc (by rfl) ?_; dsimp only)); refine qjb ?hg (N := 7) ?hd (cs := #[.bool false, .bool false, .string (⟨#[]⟩ : ByteArray), .string (⟨#[]⟩ : ByteArray), .slice none 0 0]) (t := 41) ?hr ?_; (case hd => rfl); (case hg => rfl); (case hr => exact zz6); intro gb155 hg w20 hbox hb; have n0_ := qa.mk (Kd.N_below (Kd.N_elderB zz55 gb155 (Nat.le_of_eq hg.symm)) hb); have n1_ := qa.mk (Kd.R_below (by (with_reducible repeat (first | apply Kd.R_alloc | apply Kd.R_drewN | apply Kd.R_drew)); exact HO152.out) hb); have n2_ := qa.mk (IsS55.below zz129 hb); have n3_ := qa.mk (qp zz93 hb); have n4_ := qa.mk (hbox); have n5_ := qa.mk ((by rw [hg]; exact (qo zz93) : w.heap.size ≤ gb155)); have n6_ := qa.mk ((by rw [hg]; exact (qo zz93) : w.heap.size ≤ gb155)); have n7_ := qa.mk ((by rw [hg]; exact qyc (IsS55.lt (show IsS55 w _ gb129 t153 t154 from by repeat (first | (with_reducible first | exact HI129.out | apply IsS55.alloc | apply IsS55.drewN | apply IsS55.drew | apply IsS55.set_0 | apply IsS55.set_1) | exact HI129.out))) : gb129 ≠ gb155)); have n8_ := qa.mk ((by rw [hg]; exact Nat.ne_of_gt (IsS55.lt (show IsS55 w _ gb129 t153 t154 from by repeat (first | (with_reducible first | exact HI129.out | apply IsS55.alloc | apply IsS55.drewN | apply IsS55.drew | apply IsS55.set_0 | apply IsS55.set_1) | exact HI129.out))) : gb155 ≠ gb129)); clear HO_5; clear HO152; clear HI129; clear HB; have HO_5 := n0_; have HO152 := n1_; have HI129 := n2_; have HB := n3_; have BK155 := n4_; have GW155 := n5_; have GE155 := n6_; have NB129_155 := n7_; have NB155_129 := n8_; clear n0_ n1_ n2_ n3_ n4_ n5_ n6_ n7_ n8_; clear hb hbox hg; have hnb21 := NB155_129.out; have hnc21 := NB129_155.out; have hcz22_0 : w20.cell? ⟨gb155, 0, none⟩ = some (.bool false) := (qh BK155.out 0).trans rfl; have hcz22_1 : w20.cell? ⟨gb155, 1, none⟩ = some (.bool false) := (qh BK155.out 1).trans rfl; have hcz22_2 : w20.cell? ⟨gb155, 2, none⟩ = some (.string (⟨#[]⟩ : ByteArray)) := (qh BK155.out 2).trans rfl; have hcz22_3 : w20.cell? ⟨gb155, 3, none⟩ = some (.string (⟨#[]⟩ : ByteArray)) := (qh BK155.out 3).trans rfl; have hcz22_4 : w20.cell? ⟨gb155, 4, none⟩ = some (.slice none 0 0) := (qh BK155.out 4).trans rfl; have hfz22_0 := qf BK155.out 0; have hfz22_1 := qf BK155.out 1; have hfz22_2 := qf BK155.out 2; have hfz22_3 := qf BK155.out 3; have hfz22_4 := qf BK155.out 4; obtain ⟨Ao23, co23, eo23⟩ := Kd.R_slice HO152.out; subst eo23) | ((with_reducible refine gate_store (t := 41) (p := 7) rfl ?_); refine store_event (t := 41) (p := 7) (v := ?vo_w24) (w1 := (((((w20.setCell ⟨gb155, 0, none⟩ (.bool t146)).setCell ⟨gb155, 1, none⟩ (.bool t147)).setCell ⟨gb155, 2, none⟩ (.string t148)).setCell ⟨gb155, 3, none⟩ (.string t149)).setCell ⟨gb155, 4, none⟩ (.slice Ao23 t150.length co23))) ?hg ?ho ?hn ?hr ?_; (case ho => rfl); (case hg => rfl); (case hn => rfl); (case hr => exact zz6); intro w24 hw; have n0_ : qa (Kd.N k41 41 w24 w.heap.size (fun k_ => (w.heap.size ≤ k_) ∧ some k_ ≠ (.slice Ao23 t150.length co23 : Value).ownBlock ∧ k_ ≠ gb129 ∧ k_ ≠ gb155) u5 x5_1) := ⟨(by rw [hw]; exact (by (with_reducible repeat (first | apply Kd.N_alloc | apply Kd.N_drewN | apply Kd.N_drew)); exact Kd.N_mono (Kd.N_far (p := ⟨gb155, 4, none⟩) (Kd.N_far (p := ⟨gb155, 3, none⟩) (Kd.N_far (p := ⟨gb155, 2, none⟩) (Kd.N_far (p := ⟨gb155, 1, none⟩) (Kd.N_far (p := ⟨gb155, 0, none⟩) (Kd.N_mono HO_5.out (fun k_ hk => (⟨hk, hk.2⟩ : _ ∧ k_ ≠ gb155))) (fun _ hk => hk.2) (.bool t146)) (fun _ hk => hk.2) (.bool t147)) (fun _ hk => hk.2) (.string t148)) (fun _ hk => hk.2) (.string t149)) (fun _ hk => hk.2) (.slice Ao23 t150.length co23)) (fun _ hk => ⟨hk.1.1.1.1, ⟨hk.1.1.2, ⟨hk.1.1.1.2, hk.1.2⟩⟩⟩)))⟩; have n1_ : qa (Kd.R k33 33 w24 w.heap.size (fun k_ => (w.heap.size ≤ k_)) (.slice Ao23 t150.length co23) t150) := ⟨(by rw [hw]; exact (by (with_reducible repeat (first | apply Kd.R_alloc | apply Kd.R_drewN | apply Kd.R_drew)); exact Kd.R_mono (Kd.R_far (p := ⟨gb155, 4, none⟩) (Kd.R_far (p := ⟨gb155, 3, none⟩) (Kd.R_far (p := ⟨gb155, 2, none⟩) (Kd.R_far (p := ⟨gb155, 1, none⟩) (Kd.R_far (p := ⟨gb155, 0, none⟩) (Kd.R_types HO152.out BK155.out (by decide)) (fun _ hk => hk.2) (.bool t146)) (fun _ hk => hk.2) (.bool t147)) (fun _ hk => hk.2) (.string t148)) (fun _ hk => hk.2) (.string t149)) (fun _ hk => hk.2) (.slice Ao23 t150.length co23)) (fun _ hk => hk.1.1)))⟩; have n2_ : qa (w24.heap[gb155]? = some (.cells #[.bool t146, .bool t147, .string t148, .string t149, .slice Ao23 t150.length co23] 41 (0, 0))) := ⟨(by rw [hw]; exact (by (with_reducible repeat (first | refine qk ?_ _ | refine ql ?_ | refine qj ?_ _)); refine qq (cs := #[.bool t146, .bool t147, .string t148, .string t149, .slice none 0 0]) ?_ 4 _ rfl; (with_reducible repeat (first | refine qk ?_ _ | refine ql ?_ | refine qj ?_ _)); refine qq (cs := #[.bool t146, .bool t147, .string t148, .string (⟨#[]⟩ : ByteArray), .slice none 0 0]) ?_ 3 _ rfl; (with_reducible repeat (first | refine qk ?_ _ | refine ql ?_ | refine qj ?_ _)); refine qq (cs := #[.bool t146, .bool t147, .string (⟨#[]⟩ : ByteArray), .string (⟨#[]⟩ : ByteArray), .slice none 0 0]) ?_ 2 _ rfl; (with_reducible repeat (first | refine qk ?_ _ | refine ql ?_ | refine qj ?_ _)); refine qq (cs := #[.bool t146, .bool false, .string (⟨#[]⟩ : ByteArray), .string (⟨#[]⟩ : ByteArray), .slice none 0 0]) ?_ 1 _ rfl; (with_reducible repeat (first | refine qk ?_ _ | refine ql ?_ | refine qj ?_ _)); refine qq (cs := #[.bool false, .bool false, .string (⟨#[]⟩ : ByteArray), .string (⟨#[]⟩ : ByteArray), .slice none 0 0]) ?_ 0 _ rfl; (with_reducible repeat (first | refine qk ?_ _ | refine ql ?_ | refine qj ?_ _)); exact BK155.out))⟩; have n3_ : qa (IsS55 w w24 gb129 t153 t154) := ⟨(by rw [hw]; exact zz141)⟩; have n4_ : qa (Below w.heap.size w w24) := ⟨(by rw [hw]; exact zz115)⟩; clear hw; clear HO_5; clear HO152; clear BK155; clear HI129; clear HB; have HO_5 := n0_; have HO152 := n1_; have BK155 := n2_; have HI129 := n3_; have HB := n4_; clear n0_ n1_ n2_ n3_ n4_; have hcz25_0 : w24.cell? ⟨gb155, 0, none⟩ = some (.bool t146) := (qh BK155.out 0).trans rfl; have hcz25_1 : w24.cell? ⟨gb155, 1, none⟩ = some (.bool t147) := (qh BK155.out 1).trans rfl; have hcz25_2 : w24.cell? ⟨gb155, 2, none⟩ = some (.string t148) := (qh BK155.out 2).trans rfl; have hcz25_3 : w24.cell? ⟨gb155, 3, none⟩ = some (.string t149) := (qh BK155.out 3).trans rfl; have hcz25_4 : w24.cell? ⟨gb155, 4, none⟩ = some (.slice Ao23 t150.length co23) := (qh BK155.out 4).trans rfl; have hfz25_0 := qf BK155.out 0; have hfz25_1 := qf BK155.out 1; have hfz25_2 := qf BK155.out 2; have hfz25_3 := qf BK155.out 3; have hfz25_4 := qf BK155.out 4) | ((with_reducible refine gate_store (t := 4) (p := 36) rfl ?_); refine store_event (t := 4) (p := 36) (v := ?vo_w26) (w1 := (w24.setCell ⟨gb155, 0, none⟩ (.bool true))) ?hg ?ho ?hn ?hr ?_; (case ho => rfl); (case hg => rfl); (case hn => rfl); (case hr => exact zz6); intro w26 hw; have n0_ : qa (Kd.N k41 41 w26 w.heap.size (fun k_ => (w.heap.size ≤ k_) ∧ some k_ ≠ (.slice Ao23 t150.length co23 : Value).ownBlock ∧ k_ ≠ gb129 ∧ k_ ≠ gb155) u5 x5_1) := ⟨(by rw [hw]; exact (by (with_reducible repeat (first | apply Kd.N_alloc | apply Kd.N_drewN | apply Kd.N_drew)); exact Kd.N_mono (Kd.N_far (p := ⟨gb155, 0, none⟩) (Kd.N_mono HO_5.out (fun k_ hk => (⟨hk, hk.2.2.2⟩ : _ ∧ k_ ≠ gb155))) (fun _ hk => hk.2) (.bool true)) (fun _ hk => ⟨hk.1.1, ⟨hk.1.2.1, ⟨hk.1.2.2.1, hk.1.2.2.2⟩⟩⟩)))⟩; have n1_ : qa (Kd.R k33 33 w26 w.heap.size (fun k_ => (w.heap.size ≤ k_)) (.slice Ao23 t150.length co23) t150) := ⟨(by rw [hw]; exact (by (with_reducible repeat (first | apply Kd.R_alloc | apply Kd.R_drewN | apply Kd.R_drew)); exact Kd.R_mono (Kd.R_far (p := ⟨gb155, 0, none⟩) (Kd.R_types HO152.out BK155.out (by decide)) (fun _ hk => hk.2) (.bool true)) (fun _ hk => hk.1)))⟩; have n2_ : qa (w26.heap[gb155]? = some (.cells #[.bool true, .bool t147, .string t148, .string t149, .slice Ao23 t150.length co23] 41 (0, 0))) := ⟨(by rw [hw]; exact (by (with_reducible repeat (first | refine qk ?_ _ | refine ql ?_ | refine qj ?_ _)); refine qq (cs := #[.bool t146, .bool t147, .string t148, .string t149, .slice Ao23 t150.length co23]) ?_ 0 _ rfl; (with_reducible repeat (first | refine qk ?_ _ | refine ql ?_ | refine qj ?_ _)); exact BK155.out))⟩; have n3_ : qa (IsS55 w w26 gb129 t153 t154) := ⟨(by rw [hw]; exact zz141)⟩; have n4_ : qa (Below w.heap.size w w26) := ⟨(by rw [hw]; exact zz115)⟩; clear hw; clear HO_5; clear HO152; clear BK155; clear HI129; clear HB; have HO_5 := n0_; have HO152 := n1_; have BK155 := n2_; have HI129 := n3_; have HB := n4_; clear n0_ n1_ n2_ n3_ n4_; have hcz27_0 : w26.cell? ⟨gb155, 0, none⟩ = some (.bool true) := (qh BK155.out 0).trans rfl; have hcz27_1 : w26.cell? ⟨gb155, 1, none⟩ = some (.bool t147) := (qh BK155.out 1).trans rfl; have hcz27_2 : w26.cell? ⟨gb155, 2, none⟩ = some (.string t148) := (qh BK155.out 2).trans rfl; have hcz27_3 : w26.cell? ⟨gb155, 3, none⟩ = some (.string t149) := (qh BK155.out 3).trans rfl; have hcz27_4 : w26.cell? ⟨gb155, 4, none⟩ = some (.slice Ao23 t150.length co23) := (qh BK155.out 4).trans rfl; have hfz27_0 := qf BK155.out 0; have hfz27_1 := qf BK155.out 1; have hfz27_2 := qf BK155.out 2; have hfz27_3 := qf BK155.out 3; have hfz27_4 := qf BK155.out 4) | ((with_reducible refine gate_builtin (b := .append) (xs := #[.tmp 37, .tmp 39]) rfl ?_); (try (refine qkc (by rfl) ?_; dsimp only)); at_builtin; refine Kd.N_append k41 (w0 := w) w.heap.size rfl (.tmp 37) (.tmp 39) 23 41 (.agg #[(.bool false), (.bool false), (.string ⟨#[]⟩), (.string ⟨#[]⟩), (.slice none 0 0)]) 64 rfl Tryd.underlying23 info41 rfl (by decide) (by omega) u5 x5_1 (⟨true, t147, t148, t149, t150⟩ : S41) [.bool true, .bool t147, .string t148, .string t149, .slice Ao23 t150.length co23] (fun k_ => (w.heap.size ≤ k_) ∧ k_ ≠ gb155 ∧ k_ ≠ gb129) (fun k_ => ((fun k_ => (w.heap.size ≤ k_) ∧ k_ ≠ gb155 ∧ k_ ≠ gb129)) k_ ∧ some k_ ≠ (u5 : Value).ownBlock) rfl rfl ?aP (fun _ hk => hk) ?aF ?aO ?aB ?aS ?aL ?_; (case aP => exact (k41_mkF _ _ (⟨true, t147, t148, t149, t150⟩ : S41) (Kd.R_reads' (Kd.R_mono (ok' := (fun k_ => ((fun k_ => (w.heap.size ≤ k_) ∧ k_ ≠ gb155 ∧ k_ ≠ gb129)) k_ ∧ some k_ ≠ (u5 : Value).ownBlock)) (IsS55.apart HI129.out (Kd.R_types (Kd.R_apart' (HO152.out) (Kd.N_typed HO_5.out) (by decide)) BK155.out (by decide)) (by decide)) (fun k_ hk => ⟨⟨hk.1.1.1, ⟨hk.1.2, hk.2⟩⟩, hk.1.1.2⟩))).2.1 (Kd.R_F (Kd.R_mono (ok' := (fun k_ => ((fun k_ => (w.heap.size ≤ k_) ∧ k_ ≠ gb155 ∧ k_ ≠ gb129)) k_ ∧ some k_ ≠ (u5 : Value).ownBlock)) (IsS55.apart HI129.out (Kd.R_types (Kd.R_apart' (HO152.out) (Kd.N_typed HO_5.out) (by decide)) BK155.out (by decide)) (by decide)) (fun k_ hk => ⟨⟨hk.1.1.1, ⟨hk.1.2, hk.2⟩⟩, hk.1.1.2⟩))))); (case aB => exact zz115); (case aF => exact (fun k_ hk => ⟨(Nat.le_trans (qo zz115) hk), Kd.freshB (g := gb155) (o := .cells #[.bool true, .bool t147, .string t148, .string t149, .slice Ao23 t150.length co23] 41 (0, 0)) (by (with_reducible repeat (first | refine qk ?_ _ | refine ql ?_ | refine qj ?_ _)); exact BK155.out) k_ hk, IsS55.fresh zz141 k_ hk⟩)); (case aO => exact zz113); (case aS => exact (qo zz115)); (case aL => have := LMc17.out; omega); intro v157 w28 ho hb hg hat; rw [← Ny156.out] at ho; have n0_ := qa.mk (IsS55.grown zz141 hg (IsS55.own_neN HI129.out HO_5.out (by decide))); have n1_ := qa.mk (blk_grown (g := gb155) (o := .cells #[.bool true, .bool t147, .string t148, .string t149, .slice Ao23 t150.length co23] 41 (0, 0)) (by (with_reducible repeat (first | refine qk ?_ _ | refine ql ?_ | refine qj ?_ _)); exact BK155.out) hg (Kd.N_away HO_5.out (fun _ hk => hk.2.2.2))); have n2_ := qa.mk (hb); have n3_ := qa.mk (ho); clear HI129; clear BK155; clear HB; clear HO_5; clear HO152; have HI129 := n0_; have BK155 := n1_; have HB := n2_; have HO158 := n3_; clear n0_ n1_ n2_ n3_; clear ho hb hg hat))
        go_roundg kj7
        case measure => have := HK1.out; have := HJ7.out; omega
        case rel => exact ⟨(y156), (t153), (t154), H', ⟨by have := HK1.out; have := HJ7.out; omega⟩, ⟨by (with_reducible repeat (first | apply Kd.N_alloc | apply Kd.N_drewN | apply Kd.N_drew)); exact Kd.N_mono HO158.out (fun _ hk => ⟨hk.1, hk.2.2⟩)⟩, ⟨zz141⟩, ⟨zz115⟩⟩
       ·rw [if_neg c17] at H
        exact absurd H (by simp)
      ·replace c15 := Bool.eq_false_iff.mpr c15
       subst c15
       have H1 : ((qib.f t144 t145 (⟨#[32]⟩ : ByteArray)).bind fun bt159 => (if bt159.1 = true then ((qac.f bt159.2.1 bt159.2.2).bind fun bt162 => (if x5_1.length < 2199023255552 then (qz.l0 kj7 (x5_1 ++ [(⟨false, bt162.2.1, bt162.2.2.1, bt162.2.2.2.1, bt162.2.2.2.2.1⟩ : S41)]) bt162.2.2.2.2.2.1 bt162.2.2.2.2.2.2) else (none))) else (if bt159.2.2 = true then (some (([] : List (S41)), 2)) else (if bt159.2.1.toList = ([] : List UInt8) then ((qx.f kj7 x5_1).bind fun t175 => (if t175 = 0 then (some (x5_1, 0)) else (some (([] : List (S41)), 2)))) else (some (([] : List (S41)), 2)))))) = some (r1, r2) := by rw [if_neg (show ¬ (false = true) by decide)] at H; exact H
       clear H
       have H := H1
       clear H1
       replace H := Option.bind_eq_some_iff.mp H
       obtain ⟨⟨t159, t160, t161⟩, A290, H⟩ := H
       replace H : (if t159 = true then ((qac.f t160 t161).bind fun bt162 => (if x5_1.length < 2199023255552 then (qz.l0 kj7 (x5_1 ++ [(⟨false, bt162.2.1, bt162.2.2.1, bt162.2.2.2.1, bt162.2.2.2.2.1⟩ : S41)]) bt162.2.2.2.2.2.1 bt162.2.2.2.2.2.2) else (none))) else (if t161 = true then (some (([] : List (S41)), 2)) else (if t160.toList = ([] : List UInt8) then ((qx.f kj7 x5_1).bind fun t175 => (if t175 = 0 then (some (x5_1, 0)) else (some (([] : List (S41)), 2)))) else (some (([] : List (S41)), 2))))) = some (r1, r2) := H
       have A29 := qa.mk A290
       clear A290
       by_cases c30 : t159 = true
       ·subst c30
        have H1 : ((qac.f t160 t161).bind fun bt162 => (if x5_1.length < 2199023255552 then (qz.l0 kj7 (x5_1 ++ [(⟨false, bt162.2.1, bt162.2.2.1, bt162.2.2.2.1, bt162.2.2.2.2.1⟩ : S41)]) bt162.2.2.2.2.2.1 bt162.2.2.2.2.2.2) else (none))) = some (r1, r2) := by rw [if_pos rfl] at H; exact H
        clear H
        have H := H1
        clear H1
        replace H := Option.bind_eq_some_iff.mp H
        obtain ⟨⟨t162, t163, t164, t165, t166, t169, t170⟩, A310, H⟩ := H
        replace H : (if x5_1.length < 2199023255552 then (qz.l0 kj7 (x5_1 ++ [(⟨false, t163, t164, t165, t166⟩ : S41)]) t169 t170) else (none)) = some (r1, r2) := H
        have A31 := qa.mk A310
        clear A310
        by_cases c32 : x5_1.length < 2199023255552
        ·rw [if_pos c32] at H
         have LMc32 := qa.mk c32
         clear c32
         obtain ⟨y172, hy172⟩ : ∃ y_ : List (S41), y_ = (x5_1 ++ [(⟨false, t163, t164, t165, t166⟩ : S41)]) := ⟨_, rfl⟩
         replace H : (qz.l0 kj7 y172 t169 t170) = some (r1, r2) := by first | (rw [hy172]; with_reducible exact H) | (have H2_ := (Option.bind_some _ _).symm.trans H; rw [hy172]; with_reducible exact H2_) | (have H2_ := (Option.bind_some _ _).symm.trans H; with_reducible exact H2_) | with_reducible exact H | (rw [hy172]; exact H) | exact H
         have Ny172 := qa.mk hy172
         clear hy172
         have H' := qa.mk H
         clear H
         go_wp2_with (first | ((with_reducible refine qy (f := 18) rfl ?_); refine qqb (some 25) rfl rfl Tryd.func18 (by kernel_rfl) rfl #[.pointer (some ⟨gb129, 0, none⟩), .string (⟨#[62]⟩ : ByteArray)] rfl zz94 ?_; (with_reducible refine (qib.calls gb129 x130000_1 x130001_1 (⟨#[62]⟩ : ByteArray) false t144 t145 w _ ?side1 ?side2 A14.out).mono ?_); (case side1 => exact zz129); (case side2 => exact zz93); rintro e w33 ⟨rfl, hi, hb, hk⟩; refine ⟨_, rfl, ?_⟩; have n0_ := qa.mk (Kd.N_mono (Kd.N_keep (Kd.N_mono (ok := fun k_ => (((w.heap.size ≤ k_)) ∧ k_ ≠ gb129)) zz55 (fun k_ hk_ => (⟨hk_, hk_.2⟩ : _ ∧ k_ ≠ gb129))) hk (fun _ h => h.2)) (fun _ h => h.1)); have n1_ := qa.mk (hb); have n2_ := qa.mk (hi); clear HO_5; clear HB; clear HI129; have HO_5 := n0_; have HB := n1_; have HI129 := n2_; clear n0_ n1_ n2_; (try clear hb); (try clear hb2); (try clear hk); (try clear hi)) | (go_at_call 18; (with_reducible refine (qib.calls gb129 t144 t145 (⟨#[32]⟩ : ByteArray) true t160 t161 w _ ?side1 ?side2 A29.out).mono ?_); (case side1 => exact zz129); (case side2 => exact zz93); rintro e w34 ⟨rfl, hi, hb, hk⟩; have n0_ := qa.mk (Kd.N_mono (Kd.N_keep (Kd.N_mono (ok := fun k_ => (((w.heap.size ≤ k_)) ∧ k_ ≠ gb129)) zz55 (fun k_ hk_ => (⟨hk_, hk_.2⟩ : _ ∧ k_ ≠ gb129))) hk (fun _ h => h.2)) (fun _ h => h.1)); have n1_ := qa.mk (hb); have n2_ := qa.mk (hi); clear HO_5; clear HB; clear HI129; have HO_5 := n0_; have HB := n1_; have HI129 := n2_; clear n0_ n1_ n2_; (try clear hb); (try clear hb2); (try clear hk); (try clear hi)) | ((with_reducible refine qy (f := 17) rfl ?_); refine qqb (some 34) rfl rfl Tryd.func17 (by kernel_rfl) rfl #[.pointer (some ⟨gb129, 0, none⟩)] rfl zz94 ?_; (with_reducible refine (qac.calls gb129 t160 t161 t162 t163 t164 t165 t166 t169 t170 w _ ?side1 ?side2 ?side3 A31.out).mono ?_); (case side1 => exact HG.out); (case side2 => exact zz129); (case side3 => exact zz93); rintro e w35 ⟨v167, rfl, ho0, hi, hb, hk⟩; refine ⟨_, rfl, ?_⟩; have n0_ := qa.mk (Kd.N_mono (Kd.N_told (Kd.N_oldK (Kd.N_mono (ok := fun k_ => (((w.heap.size ≤ k_)) ∧ k_ ≠ gb129)) zz55 (fun k_ hk_ => (⟨hk_, hk_.2⟩ : _ ∧ k_ ≠ gb129))) hk) (Kd.R_base ho0)) (fun _ h_ => h_.1)); have n1_ := qa.mk (Kd.R_lower (Kd.R_newM (M := fun k_ => (w.heap.size ≤ k_)) ho0 (qo zz93) (fun k_ h_ => h_)) (qo zz93)); have n2_ := qa.mk (hb); have n3_ := qa.mk (hi); clear HO_5; clear HB; clear HI129; have HO_5 := n0_; have HO168 := n1_; have HB := n2_; have HI129 := n3_; clear n0_ n1_ n2_ n3_; (try clear hb); (try clear hb2); (try clear hk); (try clear hi); (try clear ho0)) | ((with_reducible refine qeb (N := 7) rfl ?_); (try (refine qkc (by rfl) ?_; dsimp only)); refine qjb ?hg (N := 7) ?hd (cs := #[.bool false, .bool false, .string (⟨#[]⟩ : ByteArray), .string (⟨#[]⟩ : ByteArray), .slice none 0 0]) (t := 41) ?hr ?_; (case hd => rfl); (case hg => rfl); (case hr => exact zz6); intro gb171 hg w36 hbox hb; have n0_ := qa.mk (Kd.N_below (Kd.N_elderB zz55 gb171 (Nat.le_of_eq hg.symm)) hb); have n1_ := qa.mk (Kd.R_below (by (with_reducible repeat (first | apply Kd.R_alloc | apply Kd.R_drewN | apply Kd.R_drew)); exact HO168.out) hb); have n2_ := qa.mk (IsS55.below zz129 hb); have n3_ := qa.mk (qp zz93 hb); have n4_ := qa.mk (hbox); have n5_ := qa.mk ((by rw [hg]; exact (qo zz93) : w.heap.size ≤ gb171)); have n6_ := qa.mk ((by rw [hg]; exact (qo zz93) : w.heap.size ≤ gb171)); have n7_ := qa.mk ((by rw [hg]; exact qyc (IsS55.lt (show IsS55 w _ gb129 t169 t170 from by repeat (first | (with_reducible first | exact HI129.out | apply IsS55.alloc | apply IsS55.drewN | apply IsS55.drew | apply IsS55.set_0 | apply IsS55.set_1) | exact HI129.out))) : gb129 ≠ gb171)); have n8_ := qa.mk ((by rw [hg]; exact Nat.ne_of_gt (IsS55.lt (show IsS55 w _ gb129 t169 t170 from by repeat (first | (with_reducible first | exact HI129.out | apply IsS55.alloc | apply IsS55.drewN | apply IsS55.drew | apply IsS55.set_0 | apply IsS55.set_1) | exact HI129.out))) : gb171 ≠ gb129)); clear HO_5; clear HO168; clear HI129; clear HB; have HO_5 := n0_; have HO168 := n1_; have HI129 := n2_; have HB := n3_; have BK171 := n4_; have GW171 := n5_; have GE171 := n6_; have NB129_171 := n7_; have NB171_129 := n8_; clear n0_ n1_ n2_ n3_ n4_ n5_ n6_ n7_ n8_; clear hb hbox hg; have hnb37 := NB171_129.out; have hnc37 := NB129_171.out; have hcz38_0 : w36.cell? ⟨gb171, 0, none⟩ = some (.bool false) := (qh BK171.out 0).trans rfl; have hcz38_1 : w36.cell? ⟨gb171, 1, none⟩ = some (.bool false) := (qh BK171.out 1).trans rfl; have hcz38_2 : w36.cell? ⟨gb171, 2, none⟩ = some (.string (⟨#[]⟩ : ByteArray)) := (qh BK171.out 2).trans rfl; have hcz38_3 : w36.cell? ⟨gb171, 3, none⟩ = some (.string (⟨#[]⟩ : ByteArray)) := (qh BK171.out 3).trans rfl; have hcz38_4 : w36.cell? ⟨gb171, 4, none⟩ = some (.slice none 0 0) := (qh BK171.out 4).trans rfl; have hfz38_0 := qf BK171.out 0; have hfz38_1 := qf BK171.out 1; have hfz38_2 := qf BK171.out 2; have hfz38_3 := qf BK171.out 3; have hfz38_4 := qf BK171.out 4; obtain ⟨Ao39, co39, eo39⟩ := Kd.R_slice HO168.out; subst eo39) | ((with_reducible refine gate_store (t := 41) (p := 7) rfl ?_); refine store_event (t := 41) (p := 7) (v := ?vo_w40) (w1 := (((((w36.setCell ⟨gb171, 0, none⟩ (.bool t162)).setCell ⟨gb171, 1, none⟩ (.bool t163)).setCell ⟨gb171, 2, none⟩ (.string t164)).setCell ⟨gb171, 3, none⟩ (.string t165)).setCell ⟨gb171, 4, none⟩ (.slice Ao39 t166.length co39))) ?hg ?ho ?hn ?hr ?_; (case ho => rfl); (case hg => rfl); (case hn => rfl); (case hr => exact zz6); intro w40 hw; have n0_ : qa (Kd.N k41 41 w40 w.heap.size (fun k_ => (w.heap.size ≤ k_) ∧ some k_ ≠ (.slice Ao39 t166.length co39 : Value).ownBlock ∧ k_ ≠ gb129 ∧ k_ ≠ gb171) u5 x5_1) := ⟨(by rw [hw]; exact (by (with_reducible repeat (first | apply Kd.N_alloc | apply Kd.N_drewN | apply Kd.N_drew)); exact Kd.N_mono (Kd.N_far (p := ⟨gb171, 4, none⟩) (Kd.N_far (p := ⟨gb171, 3, none⟩) (Kd.N_far (p := ⟨gb171, 2, none⟩) (Kd.N_far (p := ⟨gb171, 1, none⟩) (Kd.N_far (p := ⟨gb171, 0, none⟩) (Kd.N_mono HO_5.out (fun k_ hk => (⟨hk, hk.2⟩ : _ ∧ k_ ≠ gb171))) (fun _ hk => hk.2) (.bool t162)) (fun _ hk => hk.2) (.bool t163)) (fun _ hk => hk.2) (.string t164)) (fun _ hk => hk.2) (.string t165)) (fun _ hk => hk.2) (.slice Ao39 t166.length co39)) (fun _ hk => ⟨hk.1.1.1.1, ⟨hk.1.1.2, ⟨hk.1.1.1.2, hk.1.2⟩⟩⟩)))⟩; have n1_ : qa (Kd.R k33 33 w40 w.heap.size (fun k_ => (w.heap.size ≤ k_)) (.slice Ao39 t166.length co39) t166) := ⟨(by rw [hw]; exact (by (with_reducible repeat (first | apply Kd.R_alloc | apply Kd.R_drewN | apply Kd.R_drew)); exact Kd.R_mono (Kd.R_far (p := ⟨gb171, 4, none⟩) (Kd.R_far (p := ⟨gb171, 3, none⟩) (Kd.R_far (p := ⟨gb171, 2, none⟩) (Kd.R_far (p := ⟨gb171, 1, none⟩) (Kd.R_far (p := ⟨gb171, 0, none⟩) (Kd.R_types HO168.out BK171.out (by decide)) (fun _ hk => hk.2) (.bool t162)) (fun _ hk => hk.2) (.bool t163)) (fun _ hk => hk.2) (.string t164)) (fun _ hk => hk.2) (.string t165)) (fun _ hk => hk.2) (.slice Ao39 t166.length co39)) (fun _ hk => hk.1.1)))⟩; have n2_ : qa (w40.heap[gb171]? = some (.cells #[.bool t162, .bool t163, .string t164, .string t165, .slice Ao39 t166.length co39] 41 (0, 0))) := ⟨(by rw [hw]; exact (by (with_reducible repeat (first | refine qk ?_ _ | refine ql ?_ | refine qj ?_ _)); refine qq (cs := #[.bool t162, .bool t163, .string t164, .string t165, .slice none 0 0]) ?_ 4 _ rfl; (with_reducible repeat (first | refine qk ?_ _ | refine ql ?_ | refine qj ?_ _)); refine qq (cs := #[.bool t162, .bool t163, .string t164, .string (⟨#[]⟩ : ByteArray), .slice none 0 0]) ?_ 3 _ rfl; (with_reducible repeat (first | refine qk ?_ _ | refine ql ?_ | refine qj ?_ _)); refine qq (cs := #[.bool t162, .bool t163, .string (⟨#[]⟩ : ByteArray), .string (⟨#[]⟩ : ByteArray), .slice none 0 0]) ?_ 2 _ rfl; (with_reducible repeat (first | refine qk ?_ _ | refine ql ?_ | refine qj ?_ _)); refine qq (cs := #[.bool t162, .bool false, .string (⟨#[]⟩ : ByteArray), .string (⟨#[]⟩ : ByteArray), .slice none 0 0]) ?_ 1 _ rfl; (with_reducible repeat (first | refine qk ?_ _ | refine ql ?_ | refine qj ?_ _)); refine qq (cs := #[.bool false, .bool false, .string (⟨#[]⟩ : ByteArray), .string (⟨#[]⟩ : ByteArray), .slice none 0 0]) ?_ 0 _ rfl; (with_reducible repeat (first | refine qk ?_ _ | refine ql ?_ | refine qj ?_ _)); exact BK171.out))⟩; have n3_ : qa (IsS55 w w40 gb129 t169 t170) := ⟨(by rw [hw]; exact zz142)⟩; have n4_ : qa (Below w.heap.size w w40) := ⟨(by rw [hw]; exact zz116)⟩; clear hw; clear HO_5; clear HO168; clear BK171; clear HI129; clear HB; have HO_5 := n0_; have HO168 := n1_; have BK171 := n2_; have HI129 := n3_; have HB := n4_; clear n0_ n1_ n2_ n3_ n4_; have hcz41_0 : w40.cell? ⟨gb171, 0, none⟩ = some (.bool t162) := (qh BK171.out 0).trans rfl; have hcz41_1 : w40.cell? ⟨gb171, 1, none⟩ = some (.bool t163) := (qh BK171.out 1).trans rfl; have hcz41_2 : w40.cell? ⟨gb171, 2, none⟩ = some (.string t164) := (qh BK171.out 2).trans rfl; have hcz41_3 : w40.cell? ⟨gb171, 3, none⟩ = some (.string t165) := (qh BK171.out 3).trans rfl; have hcz41_4 : w40.cell? ⟨gb171, 4, none⟩ = some (.slice Ao39 t166.length co39) := (qh BK171.out 4).trans rfl; have hfz41_0 := qf BK171.out 0; have hfz41_1 := qf BK171.out 1; have hfz41_2 := qf BK171.out 2; have hfz41_3 := qf BK171.out 3; have hfz41_4 := qf BK171.out 4) | ((with_reducible refine gate_store (t := 4) (p := 36) rfl ?_); refine store_event (t := 4) (p := 36) (v := ?vo_w42) (w1 := (w40.setCell ⟨gb171, 0, none⟩ (.bool false))) ?hg ?ho ?hn ?hr ?_; (case ho => rfl); (case hg => rfl); (case hn => rfl); (case hr => exact zz6); intro w42 hw; have n0_ : qa (Kd.N k41 41 w42 w.heap.size (fun k_ => (w.heap.size ≤ k_) ∧ some k_ ≠ (.slice Ao39 t166.length co39 : Value).ownBlock ∧ k_ ≠ gb129 ∧ k_ ≠ gb171) u5 x5_1) := ⟨(by rw [hw]; exact (by (with_reducible repeat (first | apply Kd.N_alloc | apply Kd.N_drewN | apply Kd.N_drew)); exact Kd.N_mono (Kd.N_far (p := ⟨gb171, 0, none⟩) (Kd.N_mono HO_5.out (fun k_ hk => (⟨hk, hk.2.2.2⟩ : _ ∧ k_ ≠ gb171))) (fun _ hk => hk.2) (.bool false)) (fun _ hk => ⟨hk.1.1, ⟨hk.1.2.1, ⟨hk.1.2.2.1, hk.1.2.2.2⟩⟩⟩)))⟩; have n1_ : qa (Kd.R k33 33 w42 w.heap.size (fun k_ => (w.heap.size ≤ k_)) (.slice Ao39 t166.length co39) t166) := ⟨(by rw [hw]; exact (by (with_reducible repeat (first | apply Kd.R_alloc | apply Kd.R_drewN | apply Kd.R_drew)); exact Kd.R_mono (Kd.R_far (p := ⟨gb171, 0, none⟩) (Kd.R_types HO168.out BK171.out (by decide)) (fun _ hk => hk.2) (.bool false)) (fun _ hk => hk.1)))⟩; have n2_ : qa (w42.heap[gb171]? = some (.cells #[.bool false, .bool t163, .string t164, .string t165, .slice Ao39 t166.length co39] 41 (0, 0))) := ⟨(by rw [hw]; exact (by (with_reducible repeat (first | refine qk ?_ _ | refine ql ?_ | refine qj ?_ _)); refine qq (cs := #[.bool t162, .bool t163, .string t164, .string t165, .slice Ao39 t166.length co39]) ?_ 0 _ rfl; (with_reducible repeat (first | refine qk ?_ _ | refine ql ?_ | refine qj ?_ _)); exact BK171.out))⟩; have n3_ : qa (IsS55 w w42 gb129 t169 t170) := ⟨(by rw [hw]; exact zz142)⟩; have n4_ : qa (Below w.heap.size w w42) := ⟨(by rw [hw]; exact zz116)⟩; clear hw; clear HO_5; clear HO168; clear BK171; clear HI129; clear HB; have HO_5 := n0_; have HO168 := n1_; have BK171 := n2_; have HI129 := n3_; have HB := n4_; clear n0_ n1_ n2_ n3_ n4_; have hcz43_0 : w42.cell? ⟨gb171, 0, none⟩ = some (.bool false) := (qh BK171.out 0).trans rfl; have hcz43_1 : w42.cell? ⟨gb171, 1, none⟩ = some (.bool t163) := (qh BK171.out 1).trans rfl; have hcz43_2 : w42.cell? ⟨gb171, 2, none⟩ = some (.string t164) := (qh BK171.out 2).trans rfl; have hcz43_3 : w42.cell? ⟨gb171, 3, none⟩ = some (.string t165) := (qh BK171.out 3).trans rfl; have hcz43_4 : w42.cell? ⟨gb171, 4, none⟩ = some (.slice Ao39 t166.length co39) := (qh BK171.out 4).trans rfl; have hfz43_0 := qf BK171.out 0; have hfz43_1 := qf BK171.out 1; have hfz43_2 := qf BK171.out 2; have hfz43_3 := qf BK171.out 3; have hfz43_4 := qf BK171.out 4) | ((with_reducible refine gate_builtin (b := .append) (xs := #[.tmp 37, .tmp 39]) rfl ?_); (try (refine qkc (by rfl) ?_; dsimp only)); at_builtin; refine Kd.N_append k41 (w0 := w) w.heap.size rfl (.tmp 37) (.tmp 39) 23 41 (.agg #[(.bool false), (.bool false), (.string ⟨#[]⟩), (.string ⟨#[]⟩), (.slice none 0 0)]) 64 rfl Tryd.underlying23 info41 rfl (by decide) (by omega) u5 x5_1 (⟨false, t163, t164, t165, t166⟩ : S41) [.bool false, .bool t163, .string t164, .string t165, .slice Ao39 t166.length co39] (fun k_ => (w.heap.size ≤ k_) ∧ k_ ≠ gb171 ∧ k_ ≠ gb129) (fun k_ => ((fun k_ => (w.heap.size ≤ k_) ∧ k_ ≠ gb171 ∧ k_ ≠ gb129)) k_ ∧ some k_ ≠ (u5 : Value).ownBlock) rfl rfl ?aP (fun _ hk => hk) ?aF ?aO ?aB ?aS ?aL ?_; (case aP => exact (k41_mkF _ _ (⟨false, t163, t164, t165, t166⟩ : S41) (Kd.R_reads' (Kd.R_mono (ok' := (fun k_ => ((fun k_ => (w.heap.size ≤ k_) ∧ k_ ≠ gb171 ∧ k_ ≠ gb129)) k_ ∧ some k_ ≠ (u5 : Value).ownBlock)) (IsS55.apart HI129.out (Kd.R_types (Kd.R_apart' (HO168.out) (Kd.N_typed HO_5.out) (by decide)) BK171.out (by decide)) (by decide)) (fun k_ hk => ⟨⟨hk.1.1.1, ⟨hk.1.2, hk.2⟩⟩, hk.1.1.2⟩))).2.1 (Kd.R_F (Kd.R_mono (ok' := (fun k_ => ((fun k_ => (w.heap.size ≤ k_) ∧ k_ ≠ gb171 ∧ k_ ≠ gb129)) k_ ∧ some k_ ≠ (u5 : Value).ownBlock)) (IsS55.apart HI129.out (Kd.R_types (Kd.R_apart' (HO168.out) (Kd.N_typed HO_5.out) (by decide)) BK171.out (by decide)) (by decide)) (fun k_ hk => ⟨⟨hk.1.1.1, ⟨hk.1.2, hk.2⟩⟩, hk.1.1.2⟩))))); (case aB => exact zz116); (case aF => exact (fun k_ hk => ⟨(Nat.le_trans (qo zz116) hk), Kd.freshB (g := gb171) (o := .cells #[.bool false, .bool t163, .string t164, .string t165, .slice Ao39 t166.length co39] 41 (0, 0)) (by (with_reducible repeat (first | refine qk ?_ _ | refine ql ?_ | refine qj ?_ _)); exact BK171.out) k_ hk, IsS55.fresh zz142 k_ hk⟩)); (case aO => exact zz113); (case aS => exact (qo zz116)); (case aL => have := LMc32.out; omega); intro v173 w44 ho hb hg hat; rw [← Ny172.out] at ho; have n0_ := qa.mk (IsS55.grown zz142 hg (IsS55.own_neN HI129.out HO_5.out (by decide))); have n1_ := qa.mk (blk_grown (g := gb171) (o := .cells #[.bool false, .bool t163, .string t164, .string t165, .slice Ao39 t166.length co39] 41 (0, 0)) (by (with_reducible repeat (first | refine qk ?_ _ | refine ql ?_ | refine qj ?_ _)); exact BK171.out) hg (Kd.N_away HO_5.out (fun _ hk => hk.2.2.2))); have n2_ := qa.mk (hb); have n3_ := qa.mk (ho); clear HI129; clear BK171; clear HB; clear HO_5; clear HO168; have HI129 := n0_; have BK171 := n1_; have HB := n2_; have HO174 := n3_; clear n0_ n1_ n2_ n3_; clear ho hb hg hat))
         go_roundg kj7
         case measure => have := HK1.out; have := HJ7.out; omega
         case rel => exact ⟨(y172), (t169), (t170), H', ⟨by have := HK1.out; have := HJ7.out; omega⟩, ⟨by (with_reducible repeat (first | apply Kd.N_alloc | apply Kd.N_drewN | apply Kd.N_drew)); exact Kd.N_mono HO174.out (fun _ hk => ⟨hk.1, hk.2.2⟩)⟩, ⟨zz142⟩, ⟨zz116⟩⟩
        ·rw [if_neg c32] at H
         exact absurd H (by simp)
       ·replace c30 := Bool.eq_false_iff.mpr c30
        subst c30
        have H1 : (if t161 = true then (some (([] : List (S41)), 2)) else (if t160.toList = ([] : List UInt8) then ((qx.f kj7 x5_1).bind fun t175 => (if t175 = 0 then (some (x5_1, 0)) else (some (([] : List (S41)), 2)))) else (some (([] : List (S41)), 2)))) = some (r1, r2) := by rw [if_neg (show ¬ (false = true) by decide)] at H; exact H
        clear H
        have H := H1
        clear H1
        by_cases c45 : t161 = true
        ·subst c45
         have H1 : (some (([] : List (S41)), 2)) = some (r1, r2) := by rw [if_pos rfl] at H; exact H
         clear H
         have H := H1
         clear H1
         simp only [Option.some.injEq, Prod.mk.injEq] at H
         obtain ⟨rfl, rfl⟩ := H
         go_wp2_with (first | ((with_reducible refine qy (f := 18) rfl ?_); refine qqb (some 25) rfl rfl Tryd.func18 (by kernel_rfl) rfl #[.pointer (some ⟨gb129, 0, none⟩), .string (⟨#[62]⟩ : ByteArray)] rfl zz94 ?_; (with_reducible refine (qib.calls gb129 x130000_1 x130001_1 (⟨#[62]⟩ : ByteArray) false t144 t145 w _ ?side1 ?side2 A14.out).mono ?_); (case side1 => exact zz129); (case side2 => exact zz93); rintro e w46 ⟨rfl, hi, hb, hk⟩; refine ⟨_, rfl, ?_⟩; have n0_ := qa.mk (Kd.N_mono (Kd.N_keep (Kd.N_mono (ok := fun k_ => (((w.heap.size ≤ k_)) ∧ k_ ≠ gb129)) zz55 (fun k_ hk_ => (⟨hk_, hk_.2⟩ : _ ∧ k_ ≠ gb129))) hk (fun _ h => h.2)) (fun _ h => h.1)); have n1_ := qa.mk (hb); have n2_ := qa.mk (hi); clear HO_5; clear HB; clear HI129; have HO_5 := n0_; have HB := n1_; have HI129 := n2_; clear n0_ n1_ n2_; (try clear hb); (try clear hb2); (try clear hk); (try clear hi)) | (go_at_call 18; (with_reducible refine (qib.calls gb129 t144 t145 (⟨#[32]⟩ : ByteArray) false t160 true w _ ?side1 ?side2 A29.out).mono ?_); (case side1 => exact zz129); (case side2 => exact zz93); rintro e w47 ⟨rfl, hi, hb, hk⟩; have n0_ := qa.mk (Kd.N_mono (Kd.N_keep (Kd.N_mono (ok := fun k_ => (((w.heap.size ≤ k_)) ∧ k_ ≠ gb129)) zz55 (fun k_ hk_ => (⟨hk_, hk_.2⟩ : _ ∧ k_ ≠ gb129))) hk (fun _ h => h.2)) (fun _ h => h.1)); have n1_ := qa.mk (hb); have n2_ := qa.mk (hi); clear HO_5; clear HB; clear HI129; have HO_5 := n0_; have HB := n1_; have HI129 := n2_; clear n0_ n1_ n2_; (try clear hb); (try clear hb2); (try clear hk); (try clear hi); obtain ⟨HGz48, hgz48⟩ := HI129.out; have hcz48_0 := cellS55_0 HGz48; have hcz48_1 := cellS55_1 HGz48; have hfz48_0 := qf HGz48 0; have hfz48_1 := qf HGz48 1; clear HGz48 hgz48))
         go_ret2
         exact ⟨_, zz103, zz95, zz93⟩
        ·replace c45 := Bool.eq_false_iff.mpr c45
         subst c45
         have H1 : (if t160.toList = ([] : List UInt8) then ((qx.f kj7 x5_1).bind fun t175 => (if t175 = 0 then (some (x5_1, 0)) else (some (([] : List (S41)), 2)))) else (some (([] : List (S41)), 2))) = some (r1, r2) := by rw [if_neg (show ¬ (false = true) by decide)] at H; exact H
         clear H
         have H := H1
         clear H1
         by_cases c49 : t160.toList = ([] : List UInt8)
         ·rw [if_pos c49] at H
          have c49b0 : (t160.toList == ([] : List UInt8)) = true := beq_iff_eq.mpr c49
          have c49b1 : (t160.toList != ([] : List UInt8)) = false := bne_eq_false_iff_eq.mpr c49
          (try (have c49b2 : List.isEmpty (t160.toList) = true := by simpa using c49))
          clear c49
          replace H := Option.bind_eq_some_iff.mp H
          obtain ⟨t175, A500, H⟩ := H
          replace H : (if t175 = 0 then (some (x5_1, 0)) else (some (([] : List (S41)), 2))) = some (r1, r2) := H
          have A50 := qa.mk A500
          clear A500
          by_cases c51 : t175 = 0
          ·rw [if_pos c51] at H
           have c51b0 : (t175 == 0) = true := beq_iff_eq.mpr c51
           have c51b1 : (t175 != 0) = false := bne_eq_false_iff_eq.mpr c51
           clear c51
           simp only [Option.some.injEq, Prod.mk.injEq] at H
           obtain ⟨rfl, rfl⟩ := H
           go_wp2_with (first | ((with_reducible refine qy (f := 18) rfl ?_); refine qqb (some 25) rfl rfl Tryd.func18 (by kernel_rfl) rfl #[.pointer (some ⟨gb129, 0, none⟩), .string (⟨#[62]⟩ : ByteArray)] rfl zz94 ?_; (with_reducible refine (qib.calls gb129 x130000_1 x130001_1 (⟨#[62]⟩ : ByteArray) false t144 t145 w _ ?side1 ?side2 A14.out).mono ?_); (case side1 => exact zz129); (case side2 => exact zz93); rintro e w52 ⟨rfl, hi, hb, hk⟩; refine ⟨_, rfl, ?_⟩; have n0_ := qa.mk (Kd.N_mono (Kd.N_keep (Kd.N_mono (ok := fun k_ => (((w.heap.size ≤ k_)) ∧ k_ ≠ gb129)) zz55 (fun k_ hk_ => (⟨hk_, hk_.2⟩ : _ ∧ k_ ≠ gb129))) hk (fun _ h => h.2)) (fun _ h => h.1)); have n1_ := qa.mk (hb); have n2_ := qa.mk (hi); clear HO_5; clear HB; clear HI129; have HO_5 := n0_; have HB := n1_; have HI129 := n2_; clear n0_ n1_ n2_; (try clear hb); (try clear hb2); (try clear hk); (try clear hi)) | (go_at_call 18; (with_reducible refine (qib.calls gb129 t144 t145 (⟨#[32]⟩ : ByteArray) false t160 false w _ ?side1 ?side2 A29.out).mono ?_); (case side1 => exact zz129); (case side2 => exact zz93); rintro e w53 ⟨rfl, hi, hb, hk⟩; have n0_ := qa.mk (Kd.N_mono (Kd.N_keep (Kd.N_mono (ok := fun k_ => (((w.heap.size ≤ k_)) ∧ k_ ≠ gb129)) zz55 (fun k_ hk_ => (⟨hk_, hk_.2⟩ : _ ∧ k_ ≠ gb129))) hk (fun _ h => h.2)) (fun _ h => h.1)); have n1_ := qa.mk (hb); have n2_ := qa.mk (hi); clear HO_5; clear HB; clear HI129; have HO_5 := n0_; have HB := n1_; have HI129 := n2_; clear n0_ n1_ n2_; (try clear hb); (try clear hb2); (try clear hk); (try clear hi); obtain ⟨HGz54, hgz54⟩ := HI129.out; have hcz54_0 := cellS55_0 HGz54; have hcz54_1 := cellS55_1 HGz54; have hfz54_0 := qf HGz54 0; have hfz54_1 := qf HGz54 1; clear HGz54 hgz54; obtain ⟨Ao55, co55, eo55⟩ := Kd.N_slice HO_5.out; subst eo55) | (go_at_call 19; (with_reducible refine (qx.calls kj7 _ _ x5_1 t175 _ ?side1 ?side2 A50.out).mono ?_); (case side1 => exact zz121); (case side2 => exact (Kd.N_reads' HO_5.out).2.1); rintro e w56 ⟨rfl, hb⟩; have n0_ := qa.mk (Kd.N_below zz55 hb); have n1_ := qa.mk (IsS55.below zz129 hb); have n2_ := qa.mk (qp zz93 hb); clear HO_5; clear HI129; clear HB; have HO_5 := n0_; have HI129 := n1_; have HB := n2_; clear n0_ n1_ n2_; (try clear hb); (try clear hb2); (try clear hk); (try clear hi)))
           go_ret2
           exact ⟨_, zz103, zz91, zz93⟩
          ·rw [if_neg c51] at H
           have c51b0 : (t175 == 0) = false := beq_eq_false_iff_ne.mpr c51
           have c51b1 : (t175 != 0) = true := bne_iff_ne.mpr c51
           simp only [Option.some.injEq, Prod.mk.injEq] at H
           obtain ⟨rfl, rfl⟩ := H
           go_wp2_with (first | ((with_reducible refine qy (f := 18) rfl ?_); refine qqb (some 25) rfl rfl Tryd.func18 (by kernel_rfl) rfl #[.pointer (some ⟨gb129, 0, none⟩), .string (⟨#[62]⟩ : ByteArray)] rfl zz94 ?_; (with_reducible refine (qib.calls gb129 x130000_1 x130001_1 (⟨#[62]⟩ : ByteArray) false t144 t145 w _ ?side1 ?side2 A14.out).mono ?_); (case side1 => exact zz129); (case side2 => exact zz93); rintro e w57 ⟨rfl, hi, hb, hk⟩; refine ⟨_, rfl, ?_⟩; have n0_ := qa.mk (Kd.N_mono (Kd.N_keep (Kd.N_mono (ok := fun k_ => (((w.heap.size ≤ k_)) ∧ k_ ≠ gb129)) zz55 (fun k_ hk_ => (⟨hk_, hk_.2⟩ : _ ∧ k_ ≠ gb129))) hk (fun _ h => h.2)) (fun _ h => h.1)); have n1_ := qa.mk (hb); have n2_ := qa.mk (hi); clear HO_5; clear HB; clear HI129; have HO_5 := n0_; have HB := n1_; have HI129 := n2_; clear n0_ n1_ n2_; (try clear hb); (try clear hb2); (try clear hk); (try clear hi)) | (go_at_call 18; (with_reducible refine (qib.calls gb129 t144 t145 (⟨#[32]⟩ : ByteArray) false t160 false w _ ?side1 ?side2 A29.out).mono ?_); (case side1 => exact zz129); (case side2 => exact zz93); rintro e w58 ⟨rfl, hi, hb, hk⟩; have n0_ := qa.mk (Kd.N_mono (Kd.N_keep (Kd.N_mono (ok := fun k_ => (((w.heap.size ≤ k_)) ∧ k_ ≠ gb129)) zz55 (fun k_ hk_ => (⟨hk_, hk_.2⟩ : _ ∧ k_ ≠ gb129))) hk (fun _ h => h.2)) (fun _ h => h.1)); have n1_ := qa.mk (hb); have n2_ := qa.mk (hi); clear HO_5; clear HB; clear HI129; have HO_5 := n0_; have HB := n1_; have HI129 := n2_; clear n0_ n1_ n2_; (try clear hb); (try clear hb2); (try clear hk); (try clear hi); obtain ⟨HGz59, hgz59⟩ := HI129.out; have hcz59_0 := cellS55_0 HGz59; have hcz59_1 := cellS55_1 HGz59; have hfz59_0 := qf HGz59 0; have hfz59_1 := qf HGz59 1; clear HGz59 hgz59; obtain ⟨Ao60, co60, eo60⟩ := Kd.N_slice HO_5.out; subst eo60) | (go_at_call 19; (with_reducible refine (qx.calls kj7 _ _ x5_1 t175 _ ?side1 ?side2 A50.out).mono ?_); (case side1 => exact zz121); (case side2 => exact (Kd.N_reads' HO_5.out).2.1); rintro e w61 ⟨rfl, hb⟩; have n0_ := qa.mk (Kd.N_below zz55 hb); have n1_ := qa.mk (IsS55.below zz129 hb); have n2_ := qa.mk (qp zz93 hb); clear HO_5; clear HI129; clear HB; have HO_5 := n0_; have HI129 := n1_; have HB := n2_; clear n0_ n1_ n2_; (try clear hb); (try clear hb2); (try clear hk); (try clear hi)))
           go_ret2
           exact ⟨_, zz103, zz95, zz93⟩
         ·rw [if_neg c49] at H
          have c49b0 : (t160.toList == ([] : List UInt8)) = false := beq_eq_false_iff_ne.mpr c49
          have c49b1 : (t160.toList != ([] : List UInt8)) = true := bne_iff_ne.mpr c49
          (try (have c49b2 : List.isEmpty (t160.toList) = false := by simpa using c49))
          simp only [Option.some.injEq, Prod.mk.injEq] at H
          obtain ⟨rfl, rfl⟩ := H
          go_wp2_with (first | ((with_reducible refine qy (f := 18) rfl ?_); refine qqb (some 25) rfl rfl Tryd.func18 (by kernel_rfl) rfl #[.pointer (some ⟨gb129, 0, none⟩), .string (⟨#[62]⟩ : ByteArray)] rfl zz94 ?_; (with_reducible refine (qib.calls gb129 x130000_1 x130001_1 (⟨#[62]⟩ : ByteArray) false t144 t145 w _ ?side1 ?side2 A14.out).mono ?_); (case side1 => exact zz129); (case side2 => exact zz93); rintro e w62 ⟨rfl, hi, hb, hk⟩; refine ⟨_, rfl, ?_⟩; have n0_ := qa.mk (Kd.N_mono (Kd.N_keep (Kd.N_mono (ok := fun k_ => (((w.heap.size ≤ k_)) ∧ k_ ≠ gb129)) zz55 (fun k_ hk_ => (⟨hk_, hk_.2⟩ : _ ∧ k_ ≠ gb129))) hk (fun _ h => h.2)) (fun _ h => h.1)); have n1_ := qa.mk (hb); have n2_ := qa.mk (hi); clear HO_5; clear HB; clear HI129; have HO_5 := n0_; have HB := n1_; have HI129 := n2_; clear n0_ n1_ n2_; (try clear hb); (try clear hb2); (try clear hk); (try clear hi)) | (go_at_call 18; (with_reducible refine (qib.calls gb129 t144 t145 (⟨#[32]⟩ : ByteArray) false t160 false w _ ?side1 ?side2 A29.out).mono ?_); (case side1 => exact zz129); (case side2 => exact zz93); rintro e w63 ⟨rfl, hi, hb, hk⟩; have n0_ := qa.mk (Kd.N_mono (Kd.N_keep (Kd.N_mono (ok := fun k_ => (((w.heap.size ≤ k_)) ∧ k_ ≠ gb129)) zz55 (fun k_ hk_ => (⟨hk_, hk_.2⟩ : _ ∧ k_ ≠ gb129))) hk (fun _ h => h.2)) (fun _ h => h.1)); have n1_ := qa.mk (hb); have n2_ := qa.mk (hi); clear HO_5; clear HB; clear HI129; have HO_5 := n0_; have HB := n1_; have HI129 := n2_; clear n0_ n1_ n2_; (try clear hb); (try clear hb2); (try clear hk); (try clear hi); obtain ⟨HGz64, hgz64⟩ := HI129.out; have hcz64_0 := cellS55_0 HGz64; have hcz64_1 := cellS55_1 HGz64; have hfz64_0 := qf HGz64 0; have hfz64_1 := qf HGz64 1; clear HGz64 hgz64))
          go_ret2
          exact ⟨_, zz103, zz95, zz93⟩
     ·replace c13 := Bool.eq_false_iff.mpr c13
      subst c13
      have H1 : (if x130001_1 = true then (some (([] : List (S41)), 2)) else (if x130000_1.toList = ([] : List UInt8) then ((qx.f kj7 x5_1).bind fun t142 => (if t142 = 0 then (some (x5_1, 0)) else (some (([] : List (S41)), 2)))) else (some (([] : List (S41)), 2)))) = some (r1, r2) := by rw [if_neg (show ¬ (false = true) by decide)] at H; exact H
      clear H
      have H := H1
      clear H1
      by_cases c65 : x130001_1 = true
      ·subst c65
       have H1 : (some (([] : List (S41)), 2)) = some (r1, r2) := by rw [if_pos rfl] at H; exact H
       clear H
       have H := H1
       clear H1
       simp only [Option.some.injEq, Prod.mk.injEq] at H
       obtain ⟨rfl, rfl⟩ := H
       obtain ⟨HGz66, hgz66⟩ := HI129.out
       have hcz66_0 := cellS55_0 HGz66
       have hcz66_1 := cellS55_1 HGz66
       have hfz66_0 := qf HGz66 0
       have hfz66_1 := qf HGz66 1
       clear HGz66 hgz66
       go_wp2
       go_ret2
       exact ⟨_, zz103, zz95, zz93⟩
      ·replace c65 := Bool.eq_false_iff.mpr c65
       subst c65
       have H1 : (if x130000_1.toList = ([] : List UInt8) then ((qx.f kj7 x5_1).bind fun t142 => (if t142 = 0 then (some (x5_1, 0)) else (some (([] : List (S41)), 2)))) else (some (([] : List (S41)), 2))) = some (r1, r2) := by rw [if_neg (show ¬ (false = true) by decide)] at H; exact H
       clear H
       have H := H1
       clear H1
       by_cases c67 : x130000_1.toList = ([] : List UInt8)
       ·rw [if_pos c67] at H
        have c67b0 : (x130000_1.toList == ([] : List UInt8)) = true := beq_iff_eq.mpr c67
        have c67b1 : (x130000_1.toList != ([] : List UInt8)) = false := bne_eq_false_iff_eq.mpr c67
        (try (have c67b2 : List.isEmpty (x130000_1.toList) = true := by simpa using c67))
        clear c67
        replace H := Option.bind_eq_some_iff.mp H
        obtain ⟨t142, A680, H⟩ := H
        replace H : (if t142 = 0 then (some (x5_1, 0)) else (some (([] : List (S41)), 2))) = some (r1, r2) := H
        have A68 := qa.mk A680
        clear A680
        by_cases c69 : t142 = 0
        ·rw [if_pos c69] at H
         have c69b0 : (t142 == 0) = true := beq_iff_eq.mpr c69
         have c69b1 : (t142 != 0) = false := bne_eq_false_iff_eq.mpr c69
         clear c69
         simp only [Option.some.injEq, Prod.mk.injEq] at H
         obtain ⟨rfl, rfl⟩ := H
         obtain ⟨HGz70, hgz70⟩ := HI129.out
         have hcz70_0 := cellS55_0 HGz70
         have hcz70_1 := cellS55_1 HGz70
         have hfz70_0 := qf HGz70 0
         have hfz70_1 := qf HGz70 1
         clear HGz70 hgz70
         obtain ⟨Ao71, co71, eo71⟩ := Kd.N_slice HO_5.out
         subst eo71
         go_wp2_with (first | (go_at_call 19; (with_reducible refine (qx.calls kj7 _ _ x5_1 t142 _ ?side1 ?side2 A68.out).mono ?_); (case side1 => exact zz121); (case side2 => exact (Kd.N_reads' HO_5.out).2.1); rintro e w72 ⟨rfl, hb⟩; have n0_ := qa.mk (Kd.N_below zz55 hb); have n1_ := qa.mk (IsS55.below zz129 hb); have n2_ := qa.mk (qp zz93 hb); clear HO_5; clear HI129; clear HB; have HO_5 := n0_; have HI129 := n1_; have HB := n2_; clear n0_ n1_ n2_; (try clear hb); (try clear hb2); (try clear hk); (try clear hi)))
         go_ret2
         exact ⟨_, zz103, zz91, zz93⟩
        ·rw [if_neg c69] at H
         have c69b0 : (t142 == 0) = false := beq_eq_false_iff_ne.mpr c69
         have c69b1 : (t142 != 0) = true := bne_iff_ne.mpr c69
         simp only [Option.some.injEq, Prod.mk.injEq] at H
         obtain ⟨rfl, rfl⟩ := H
         obtain ⟨HGz73, hgz73⟩ := HI129.out
         have hcz73_0 := cellS55_0 HGz73
         have hcz73_1 := cellS55_1 HGz73
         have hfz73_0 := qf HGz73 0
         have hfz73_1 := qf HGz73 1
         clear HGz73 hgz73
         obtain ⟨Ao74, co74, eo74⟩ := Kd.N_slice HO_5.out
         subst eo74
         go_wp2_with (first | (go_at_call 19; (with_reducible refine (qx.calls kj7 _ _ x5_1 t142 _ ?side1 ?side2 A68.out).mono ?_); (case side1 => exact zz121); (case side2 => exact (Kd.N_reads' HO_5.out).2.1); rintro e w75 ⟨rfl, hb⟩; have n0_ := qa.mk (Kd.N_below zz55 hb); have n1_ := qa.mk (IsS55.below zz129 hb); have n2_ := qa.mk (qp zz93 hb); clear HO_5; clear HI129; clear HB; have HO_5 := n0_; have HI129 := n1_; have HB := n2_; clear n0_ n1_ n2_; (try clear hb); (try clear hb2); (try clear hk); (try clear hi)))
         go_ret2
         exact ⟨_, zz103, zz95, zz93⟩
       ·rw [if_neg c67] at H
        have c67b0 : (x130000_1.toList == ([] : List UInt8)) = false := beq_eq_false_iff_ne.mpr c67
        have c67b1 : (x130000_1.toList != ([] : List UInt8)) = true := bne_iff_ne.mpr c67
        (try (have c67b2 : List.isEmpty (x130000_1.toList) = false := by simpa using c67))
        simp only [Option.some.injEq, Prod.mk.injEq] at H
        obtain ⟨rfl, rfl⟩ := H
        obtain ⟨HGz76, hgz76⟩ := HI129.out
        have hcz76_0 := cellS55_0 HGz76
        have hcz76_1 := cellS55_1 HGz76
        have hfz76_0 := qf HGz76 0
        have hfz76_1 := qf HGz76 1
        clear HGz76 hgz76
        go_wp2
        go_ret2
        exact ⟨_, zz103, zz95, zz93⟩
end Go.Proofs.YtjbobecnlpiejaaDoor.Q
namespace Go.Proofs.YtjbobecnlpiejaaDoor.Q.P
open Go.Proofs.YtjbobecnlpiejaaDoorZ
open Go.RowKit Go.Proofs.YtjbobecnlpiejaaDoorW.PrintWords Go.Proofs.YtjbobecnlpiejaaDoorW.PrintLast Go.Proofs.YtjbobecnlpiejaaDoorW.PrintMore
def mk (l : List UInt8) : ByteArray := ⟨l.toArray⟩
theorem mk_list (l : List UInt8) : (mk l).data.toList = l := rfl
theorem mk_toList (l : List UInt8) : (mk l).toList = l := by rw [Lib.toList_data]; rfl
theorem mk_size (l : List UInt8) : (mk l).size = l.length := ba_size l
theorem mk_of (s : ByteArray) : mk s.data.toList = s := ba_self s
theorem mk_eq {s : ByteArray} {l : List UInt8} (h : s.data.toList = l) : s = mk l := by rw [← h, mk_of]
theorem extract_list (s : ByteArray) (a b : Nat) : (s.extract a b).data.toList = (s.data.toList.take b).drop a := by
 rw [ByteArray.data_extract, Array.toList_extract, List.extract_eq_drop_take', ]
theorem is_spec (s t : List UInt8) (b : Bool) : qib.f (mk s) b (mk t) = some (if t.isPrefixOf s = true then (true, mk (s.drop t.length), b) else (false, mk s, b)) := by
 unfold qib.f strings_CutPrefix.f stringslite_CutPrefix.f qmc.f
 rw [mk_size, mk_size]
 by_cases hl : t.length ≤ s.length
 ·rw [if_pos (by omega), if_pos (by omega), if_pos (by omega)]
  simp only [Option.bind_some]
  have e1 : ((mk s).extract 0 ((t.length : Int)).toNat).toList = s.take t.length := by
   rw [Lib.toList_data, extract_list, mk_list, Int.toNat_natCast, List.drop_zero]
  have e2 : (t.isPrefixOf s) = (s.take t.length == t) := by
   rw [Bool.eq_iff_iff, List.isPrefixOf_iff_prefix, beq_iff_eq, List.prefix_iff_eq_take]
   exact eq_comm
  rw [e1, mk_toList, ← e2]
  cases hp : t.isPrefixOf s
  ·simp
  ·simp only [if_true]
   rw [if_pos (by omega), if_pos (by omega)]
   simp only [Option.bind_some]
   have e3 : (mk s).extract ((t.length : Int)).toNat s.length = mk (s.drop t.length) := by
    apply mk_eq
    rw [extract_list, mk_list, Int.toNat_natCast, List.take_length]
   rw [e3]
 ·rw [if_neg (by omega)]
  simp only [Option.bind_some]
  have : t.isPrefixOf s = false := by
   rw [Bool.eq_false_iff]
   intro h
   rw [List.isPrefixOf_iff_prefix] at h
   exact hl h.length_le
  rw [this]
  simp
def toS (st s : List UInt8) : List UInt8 := s.takeWhile fun c => !st.contains c
def fromS (st s : List UInt8) : List UInt8 := s.dropWhile fun c => !st.contains c
theorem to_from (st s : List UInt8) : toS st s ++ fromS st s = s := List.takeWhile_append_dropWhile
theorem indexAny_spec (st : List UInt8) : ∀ s : List UInt8, Lib.indexAny s st = if fromS st s = [] then -1 else ((toS st s).length : Int)
 | [] => rfl
 | b :: l => by
  have ih := indexAny_spec st l
  unfold Lib.indexAny
  unfold fromS toS at *
  cases hb : st.contains b
  ·simp only [Bool.false_eq_true, if_false, List.takeWhile_cons, List.dropWhile_cons, hb, Bool.not_false, if_true]
   by_cases h : l.dropWhile (fun c => !st.contains c) = []
   ·rw [if_pos h] at ih
    rw [if_pos h, ih]
    rfl
   ·rw [if_neg h] at ih
    rw [if_neg h, if_neg (by rw [beq_iff_eq, ih]; omega), ih, List.length_cons]
    omega
  ·simp only [if_true, List.takeWhile_cons, List.dropWhile_cons, hb, Bool.not_true, Bool.false_eq_true, if_false]
   rw [if_neg (by simp)]
   rfl
theorem run_spec (s st : List UInt8) (b : Bool) (h : st.all (fun b => decide (b.toNat < 128)) = true) : qpc.f (mk s) b (mk st) = some (mk (toS st s), mk (fromS st s), b) := by
 unfold qpc.f query_anyAt.f
 rw [mk_list, mk_list, if_pos h]
 simp only [Option.bind_some]
 rw [indexAny_spec]
 have ht := to_from st s
 by_cases hf : fromS st s = []
 ·rw [if_pos hf, if_pos (by decide)]
  rw [hf, List.append_nil] at ht
  rw [ht, hf]
  rfl
 ·rw [if_neg hf, if_neg (by omega)]
  have hlen : (toS st s).length ≤ s.length := by
   have := congrArg List.length ht
   rw [List.length_append] at this
   omega
  rw [if_pos (by rw [mk_size]; omega)]
  have e1 : (mk s).extract 0 (((toS st s).length : Int)).toNat = mk (toS st s) := by
   apply mk_eq
   rw [extract_list, mk_list, Int.toNat_natCast, List.drop_zero]
   have e := List.take_left (l₁ := toS st s) (l₂ := fromS st s)
   rw [ht] at e
   exact e
  have e2 : (mk s).extract (((toS st s).length : Int)).toNat (mk s).size = mk (fromS st s) := by
   apply mk_eq
   rw [extract_list, mk_list, Int.toNat_natCast, mk_size, List.take_length]
   have e := List.drop_left (l₁ := toS st s) (l₂ := fromS st s)
   rw [ht] at e
   exact e
  rw [e1, e2]
def condT (c : S33) : List UInt8 := c.f0.data.toList ++ ((if c.f2 = true then [61, 34] ++ escL c.f1.data.toList ++ [34] else []) ++ [93])
theorem condL_eq (c : S33) : condL c = 91 :: condT c := by unfold condL condT; simp
def bodyL (p : S41) : List UInt8 := tagL p ++ keyL p ++ p.f4.flatMap condL
theorem partL_eq (b : Bool) (p : S41) : partL b p = headL b p ++ bodyL p := by unfold partL bodyL; simp only [List.append_assoc]
theorem ref_forms (s : List UInt8) : ∀ (cs : List Int) (c n : Int), refForms s cs = some (c, n) → c ∈ cs ∧ n = ((formL c).length : Int) ∧ s = formL c ++ s.drop (formL c).length
 | [], c, n, h => by cases h
 | a :: r, c, n, h => by
  unfold refForms at h
  by_cases hp : (formL a).isPrefixOf s = true
  ·rw [if_pos hp] at h
   simp only [Option.some.injEq, Prod.mk.injEq] at h
   obtain ⟨rfl, rfl⟩ := h
   refine ⟨List.mem_cons_self .., rfl, ?_⟩
   rw [List.isPrefixOf_iff_prefix] at hp
   obtain ⟨q, hq⟩ := hp
   rw [← hq, List.drop_left]
  ·rw [if_neg hp] at h
   obtain ⟨h1, h2⟩ := ref_forms s r c n h
   exact ⟨List.mem_cons_of_mem _ h1, h2⟩
theorem ref_read (s : List UInt8) (h : (refC s).2 ≠ 0) : 1 ≤ (refC s).2.toNat ∧ s = putL ((refC s).1.toNat.toUInt8) ++ s.drop (refC s).2.toNat := by
 unfold refC at h ⊢
 cases hf : refForms s [38, 60, 62, 34] with
 | some x =>
  obtain ⟨c, n⟩ := x
  obtain ⟨h1, h2, h3⟩ := ref_forms s _ c n hf
  simp only [Option.getD_some]
  have hc : c = 38 ∨ c = 60 ∨ c = 62 ∨ c = 34 := by simpa using h1
  have hput : putL (c.toNat.toUInt8) = formL c ∧ 1 ≤ (formL c).length := by
   rcases hc with rfl | rfl | rfl | rfl <;> decide +kernel
  rw [h2, Int.toNat_natCast, hput.1]
  exact ⟨hput.2, h3⟩
 | none =>
  rw [hf] at h
  simp only [Option.getD_none] at h ⊢
  unfold refNum at h ⊢
  by_cases hp : [38, 35].isPrefixOf s = true
  ·rw [if_pos hp] at h ⊢
   by_cases hi : Lib.indexByte (s.take 6) 59 < 0
   ·rw [if_pos hi] at h; exact absurd rfl h
   ·rw [if_neg hi] at h ⊢
    cases ha : Lib.atoiAll ((s.take (Lib.indexByte (s.take 6) 59).toNat).drop 2) with
    | ok n =>
     rw [ha] at h
     dsimp only at h ⊢
     by_cases hn : n < 0 ∨ 127 < n ∨ formL n ≠ s.take ((Lib.indexByte (s.take 6) 59).toNat + 1)
     ·rw [if_pos hn] at h; exact absurd rfl h
     ·rw [if_neg hn] at h ⊢
      have hn0 : 0 ≤ n := by
       rcases Int.lt_or_le n 0 with h1 | h1
       ·exact absurd (.inl h1) hn
       ·exact h1
      have hn1 : n ≤ 127 := by
       rcases Int.lt_or_le 127 n with h1 | h1
       ·exact absurd (.inr (.inl h1)) hn
       ·exact h1
      have hn2 : formL n = s.take ((Lib.indexByte (s.take 6) 59).toNat + 1) := by
       rcases Decidable.em (formL n = s.take ((Lib.indexByte (s.take 6) 59).toNat + 1)) with h1 | h1
       ·exact h1
       ·exact absurd (.inr (.inr h1)) hn
      dsimp only
      have e1 : (Lib.indexByte (s.take 6) 59 + 1).toNat = (Lib.indexByte (s.take 6) 59).toNat + 1 := by omega
      have hne : formL n ≠ [] := by
       rw [hn2]
       cases s with
       | nil => simp [List.isPrefixOf] at hp
       | cons a r => simp
      have hpu : putL (n.toNat.toUInt8) = formL n := by
       have e2 : ((n.toNat.toUInt8).toNat : Int) = n := by
        have : n.toNat < 256 := by omega
        simp only [Nat.toUInt8_eq, UInt8.toNat_ofNat']
        omega
       unfold putL
       rw [e2, if_neg hne]
      rw [e1, hpu, hn2, List.take_append_drop]
      exact ⟨by omega, rfl⟩
    | _ => rw [ha] at h; exact absurd rfl h
  ·rw [if_neg hp] at h; exact absurd rfl h
theorem unesc_read : ∀ (k : Nat) (s acc : List UInt8) (i : Nat) (l : List UInt8), s.length ≤ k → unescL s k acc i = .ok l → ∃ t, l = acc ++ t ∧ s = escL t
 | 0, s, acc, i, l, hk, h => by
  have hs : s = [] := List.eq_nil_of_length_eq_zero (by omega)
  unfold unescL at h
  injection h with h
  exact ⟨[], by rw [← h, List.append_nil], by rw [hs]; rfl⟩
 | k + 1, s, acc, i, l, hk, h => by
  unfold unescL at h
  cases s with
  | nil =>
   dsimp only at h
   injection h with h
   exact ⟨[], by rw [← h, List.append_nil], rfl⟩
  | cons b r =>
   dsimp only at h
   by_cases hb : b.toNat = 38
   ·rw [if_pos hb] at h
    by_cases hz : (refC (b :: r)).2 = 0
    ·rw [if_pos hz] at h; cases h
    ·rw [if_neg hz] at h
     obtain ⟨h1, h2⟩ := ref_read (b :: r) hz
     obtain ⟨t, h3, h4⟩ := unesc_read k _ _ _ l (by rw [List.length_drop, List.length_cons]; rw [List.length_cons] at hk; omega) h
     refine ⟨(refC (b :: r)).1.toNat.toUInt8 :: t, by rw [h3, List.append_assoc]; rfl, ?_⟩
     rw [escL_cons, ← h4]
     exact h2
   ·rw [if_neg hb] at h
    by_cases hf : formL (b.toNat : Int) = []
    ·simp only [hf, ne_eq, not_true_eq_false, if_false] at h
     obtain ⟨t, h3, h4⟩ := unesc_read k r _ _ l (by rw [List.length_cons] at hk; omega) h
     refine ⟨b :: t, by rw [h3, List.append_assoc]; rfl, ?_⟩
     rw [escL_cons, ← h4]
     unfold putL
     rw [if_pos hf]
     rfl
    ·simp only [hf, ne_eq, not_false_eq_true, if_true] at h
     cases h
theorem is_read (t s : List UInt8) (b : Bool) : (∃ r, s = t ++ r ∧ qib.f (mk s) b (mk t) = some (true, mk r, b)) ∨ qib.f (mk s) b (mk t) = some (false, mk s, b) := by
 rw [is_spec]
 cases hp : t.isPrefixOf s
 ·exact .inr (by simp)
 ·rw [List.isPrefixOf_iff_prefix] at hp
  obtain ⟨q, hq⟩ := hp
  refine .inl ⟨q, hq.symm, ?_⟩
  rw [if_pos rfl, ← hq, List.drop_left]
theorem len_to (st s : List UInt8) : (toS st s).length + (fromS st s).length = s.length := by
 have := congrArg List.length (to_from st s)
 rw [List.length_append] at this
 exact this
theorem text_read (s : List UInt8) (hs : s.length ≤ 1000000) : ∃ t r b, qvc.f (mk s) false = some (mk t, mk r, b) ∧ (b = true ∨ s = escL t ++ 34 :: r) ∧ r.length ≤ s.length := by
 have hl := len_to [34] s
 have htf := to_from [34] s
 unfold qvc.f
 rw [show (⟨#[34]⟩ : ByteArray) = mk [34] from rfl, run_spec _ _ _ rfl]
 simp only [Option.bind_some]
 unfold escape_Unescape.f
 rw [mk_size, if_pos (by omega), mk_list]
 cases hu : unescL (toS [34] s) (toS [34] s).length [] 0 with
 | error i =>
  simp only [Option.bind_some]
  rw [if_neg (by decide)]
  exact ⟨[], _, true, rfl, .inl rfl, by omega⟩
 | ok l =>
  obtain ⟨t, h1, h2⟩ := unesc_read _ _ _ _ _ (Nat.le_refl _) hu
  rw [List.nil_append] at h1
  subst h1
  simp only [Option.bind_some, if_true]
  rcases is_read [34] (fromS [34] s) false with ⟨r, h3, h4⟩ | h4
  ·rw [h4]
   simp only [Option.bind_some, if_true]
   refine ⟨l, r, false, rfl, .inr ?_, ?_⟩
   ·rw [← htf, h3, h2]; rfl
   ·rw [h3, List.length_append] at hl; omega
  ·rw [h4]
   simp only [Option.bind_some, Bool.false_eq_true, if_false]
   exact ⟨l, _, true, rfl, .inl rfl, by omega⟩
theorem cond_read (s : List UInt8) (hs : s.length ≤ 1000000) : ∃ c r b, part_cond.f (mk s) false = some (c, mk r, b) ∧ (b = true ∨ s = condT c ++ r) ∧ r.length ≤ s.length := by
 have hl := len_to [61, 93] s
 have htf := to_from [61, 93] s
 unfold part_cond.f condT
 rw [show (⟨#[61, 93]⟩ : ByteArray) = mk [61, 93] from rfl, show (⟨#[61, 34]⟩ : ByteArray) = mk [61, 34] from rfl, show (⟨#[93]⟩ : ByteArray) = mk [93] from rfl, run_spec _ _ _ rfl]
 simp only [Option.bind_some]
 rcases is_read [61, 34] (fromS [61, 93] s) false with ⟨r, h3, h4⟩ | h4
 ·rw [h4]
  simp only [Option.bind_some, if_true]
  rw [h3, List.length_append] at hl
  obtain ⟨t, r2, b, h5, h6, h7⟩ := text_read r (by omega)
  rw [h5]
  simp only [Option.bind_some]
  cases b
  ·simp only [Bool.false_eq_true, if_false]
   have h8 : r = escL t ++ 34 :: r2 := h6.resolve_left Bool.false_ne_true
   rcases is_read [93] r2 false with ⟨r3, h9, h10⟩ | h10
   ·rw [h10]
    simp only [Option.bind_some, Bool.not_true]
    refine ⟨_, r3, false, rfl, .inr ?_, ?_⟩
    ·dsimp only
     have e : s = toS [61, 93] s ++ ([61, 34] ++ (escL t ++ 34 :: ([93] ++ r3))) := by rw [← h9, ← h8, ← h3, htf]
     rw [if_pos rfl, mk_list, mk_list]
     refine e.trans ?_
     simp only [List.append_assoc, List.cons_append, List.nil_append]
    ·rw [h9, List.length_append] at h7; omega
   ·rw [h10]
    simp only [Option.bind_some, Bool.not_false]
    exact ⟨_, r2, true, rfl, .inl rfl, by omega⟩
  ·simp only [if_true]
   exact ⟨_, r2, true, rfl, .inl rfl, by omega⟩
 ·rw [h4]
  simp only [Option.bind_some, Bool.false_eq_true, if_false]
  rcases is_read [93] (fromS [61, 93] s) false with ⟨r3, h9, h10⟩ | h10
  ·rw [h10]
   simp only [Option.bind_some, Bool.not_true]
   refine ⟨_, r3, false, rfl, .inr ?_, ?_⟩
   ·dsimp only
    rw [if_neg Bool.false_ne_true, mk_list, List.nil_append, List.append_assoc, ← h9, htf]
   ·rw [h9, List.length_append] at hl; omega
  ·rw [h10]
   simp only [Option.bind_some, Bool.not_false]
   exact ⟨_, _, true, rfl, .inl rfl, by omega⟩
theorem conds_read : ∀ (k : Nat) (acc : List S33) (s : List UInt8) (b : Bool), acc.length + k = 10 → 1 ≤ k → s.length ≤ 1000000 → ∃ cs r b', part_conds.f k acc (mk s) b = some (acc ++ cs, mk r, b') ∧ (b' = true ∨ b = false ∧ s = cs.flatMap condL ++ r) ∧ r.length ≤ s.length
 | 0, acc, s, b, _, h, _ => absurd h (by decide)
 | k + 1, acc, s, b, hk, _, hs => by
  rw [part_conds.f]
  cases b
  ·simp only [Bool.false_eq_true, if_false]
   by_cases h8 : acc.length ≤ 8
   ·rw [if_pos h8, show (⟨#[91]⟩ : ByteArray) = mk [91] from rfl]
    rcases is_read [91] s false with ⟨r, h1, h2⟩ | h2
    ·rw [h2]
     simp only [Option.bind_some, if_true]
     have hrl : r.length ≤ s.length := by rw [h1, List.length_append]; omega
     obtain ⟨c, r2, b2, h3, h4, h5⟩ := cond_read r (by omega)
     rw [h3]
     simp only [Option.bind_some]
     obtain ⟨cs, r3, b3, h6, h7, h8⟩ := conds_read k (acc ++ [c]) r2 b2 zz40 (by omega) (by omega)
     rw [h6]
     refine ⟨c :: cs, r3, b3, by rw [List.append_assoc]; rfl, ?_, by omega⟩
     rcases h7 with h7 | ⟨h7, h9⟩
     ·exact .inl h7
     ·refine .inr ⟨trivial, ?_⟩
      have h10 := h4.resolve_left (by rw [h7]; exact Bool.false_ne_true)
      rw [h1, h10, h9, List.flatMap_cons, condL_eq]
      simp
    ·rw [h2]
     simp only [Option.bind_some, Bool.false_eq_true, if_false]
     exact ⟨[], s, false, by rw [List.append_nil], .inr ⟨by trivial, rfl⟩, Nat.le_refl _⟩
   ·rw [if_neg h8]
    exact ⟨[], s, false, by rw [List.append_nil], .inr ⟨by trivial, rfl⟩, Nat.le_refl _⟩
  ·simp only [if_true]
   exact ⟨[], s, true, by rw [List.append_nil], .inl rfl, Nat.le_refl _⟩
theorem text_any (s : List UInt8) (b : Bool) (hs : s.length ≤ 1000000) : ∃ t r b', qvc.f (mk s) b = some (mk t, mk r, b') ∧ (b' = true ∨ b = false ∧ s = escL t ++ 34 :: r) ∧ r.length ≤ s.length := by
 cases b
 ·obtain ⟨t, r, b, h1, h2, h3⟩ := text_read s hs
  exact ⟨t, r, b, h1, h2.imp_right (fun h => ⟨rfl, h⟩), h3⟩
 ·have hl := len_to [34] s
  unfold qvc.f
  rw [show (⟨#[34]⟩ : ByteArray) = mk [34] from rfl, run_spec _ _ _ rfl]
  simp only [Option.bind_some]
  unfold escape_Unescape.f
  rw [mk_size, if_pos (by omega), mk_list]
  cases hu : unescL (toS [34] s) (toS [34] s).length [] 0 with
  | error i =>
   simp only [Option.bind_some]
   rw [if_neg (by decide)]
   exact ⟨[], _, true, rfl, .inl rfl, by omega⟩
  | ok l =>
   simp only [Option.bind_some, if_true]
   rcases is_read [34] (fromS [34] s) true with ⟨r, h3, h4⟩ | h4
   ·rw [h4]
    simp only [Option.bind_some, if_true]
    exact ⟨l, r, true, rfl, .inl rfl, by rw [h3, List.length_append] at hl; omega⟩
   ·rw [h4]
    simp only [Option.bind_some, Bool.false_eq_true, if_false]
    exact ⟨l, _, true, rfl, .inl rfl, by omega⟩
theorem part_read (s : List UInt8) (hs : s.length ≤ 1000000) : ∃ f1 f2 f3 f4 r b, qac.f (mk s) false = some (false, f1, f2, f3, f4, mk r, b) ∧ (b = true ∨ ∀ f0, s = bodyL ⟨f0, f1, f2, f3, f4⟩ ++ r) ∧ r.length ≤ s.length := by
 unfold qac.f
 rw [show (⟨#[42]⟩ : ByteArray) = mk [42] from rfl, show (⟨#[35, 91, 62, 32]⟩ : ByteArray) = mk [35, 91, 62, 32] from rfl, show (⟨#[35, 34]⟩ : ByteArray) = mk [35, 34] from rfl]
 have htag : ∃ t r b, ((qib.f (mk s) false (mk [42])).bind fun x => (if x.1 = true then some ((⟨#[]⟩ : ByteArray), x.2.1, x.2.2) else (qpc.f x.2.1 x.2.2 (mk [35, 91, 62, 32])).bind fun t => some (t.1, t.2.1, t.2.2 || t.1.data.toList.isEmpty))) = some (mk t, mk r, b) ∧ (b = true ∨ s = (if t = [] then [42] else []) ++ t ++ r) ∧ r.length ≤ s.length := by
  rcases is_read [42] s false with ⟨r, h1, h2⟩ | h2
  ·rw [h2]
   simp only [Option.bind_some, if_true]
   exact ⟨[], r, false, rfl, .inr (by rw [if_pos rfl]; exact h1), by rw [h1, List.length_append]; omega⟩
  ·rw [h2]
   have hl := len_to [35, 91, 62, 32] s
   have htf := to_from [35, 91, 62, 32] s
   simp only [Option.bind_some, Bool.false_eq_true, if_false]
   rw [run_spec _ _ _ rfl]
   simp only [Option.bind_some, mk_list, Bool.false_or]
   refine ⟨_, _, _, rfl, ?_, by omega⟩
   cases he : (toS [35, 91, 62, 32] s).isEmpty
   ·refine .inr ?_
    rw [List.isEmpty_eq_false_iff] at he
    rw [if_neg he, List.nil_append, htf]
   ·exact .inl rfl
 obtain ⟨tg, r1, b1, ht1, ht2, ht3⟩ := htag
 obtain ⟨x, hx, hx2⟩ := Option.bind_eq_some_iff.1 ht1
 rw [hx]
 simp only [Option.bind_some]
 rw [hx2]
 simp only [Option.bind_some]
 rcases is_read [35, 34] r1 b1 with ⟨r2, h1, h2⟩ | h2
 ·rw [h2]
  simp only [Option.bind_some, if_true]
  have hr2 : r2.length ≤ r1.length := by rw [h1, List.length_append]; omega
  obtain ⟨t, r3, b3, h3, h4, h5⟩ := text_any r2 b1 (by omega)
  rw [h3]
  simp only [Option.bind_some]
  obtain ⟨cs, r4, b4, h6, h7, h8⟩ := conds_read 10 [] r3 b3 rfl (by decide) (by omega)
  rw [h6]
  simp only [Option.bind_some, List.nil_append]
  refine ⟨true, mk tg, mk t, cs, r4, b4, rfl, ?_, by omega⟩
  rcases h7 with h7 | ⟨h7, h9⟩
  ·exact .inl h7
  ·refine .inr fun f0 => ?_
   obtain ⟨h10, h11⟩ := h4.resolve_left (by rw [h7]; exact Bool.false_ne_true)
   have h12 := ht2.resolve_left (by rw [h10]; exact Bool.false_ne_true)
   unfold bodyL tagL keyL
   dsimp only
   rw [if_pos rfl, mk_list, mk_list, mk_toList]
   refine h12.trans ?_
   rw [h1, h11, h9]
   simp only [List.append_assoc, List.cons_append, List.nil_append]
 ·rw [h2]
  simp only [Option.bind_some, Bool.false_eq_true, if_false]
  obtain ⟨cs, r4, b4, h6, h7, h8⟩ := conds_read 10 [] r1 b1 rfl (by decide) (by omega)
  rw [h6]
  simp only [Option.bind_some, List.nil_append]
  refine ⟨false, mk tg, ⟨#[]⟩, cs, r4, b4, rfl, ?_, by omega⟩
  rcases h7 with h7 | ⟨h7, h9⟩
  ·exact .inl h7
  ·refine .inr fun f0 => ?_
   have h12 := ht2.resolve_left (by rw [h7]; exact Bool.false_ne_true)
   unfold bodyL tagL keyL
   dsimp only
   rw [if_neg Bool.false_ne_true, mk_list, mk_toList]
   refine h12.trans ?_
   rw [h9]
   simp only [List.append_assoc, List.append_nil]
theorem selL_snoc (l : List S41) (p : S41) (h : l ≠ []) : selL (l ++ [p]) = selL l ++ partL false p := by
 cases l with
 | nil => exact absurd rfl h
 | cons a r =>
  show partL true a ++ (r ++ [p]).flatMap (partL false) = partL true a ++ r.flatMap (partL false) ++ partL false p
  rw [List.flatMap_append, List.append_assoc]
  simp
def Read (whole : List UInt8) (r : List S41 × Int) : Prop := r = ([], 2) ∨ ∃ l, r = (l, 0) ∧ selOK l = true ∧ selL l = whole
theorem parse_end (whole : List UInt8) (done : List S41) (s : List UInt8) (b : Bool) (h : b = false → selL done ++ s = whole) :
  ∃ r, Ev (fun k => if b = true then some (([] : List S41), (2 : Int)) else (if (mk s).toList = ([] : List UInt8) then ((qx.f k done).bind fun t => (if t = 0 then (some (done, 0)) else (some (([] : List S41), 2)))) else (some (([] : List S41), 2)))) r ∧ Read whole r := by
 cases b
 ·simp only [Bool.false_eq_true, if_false, mk_toList]
  by_cases hs : s = []
  ·simp only [hs, if_true]
   cases hok : selOK done
   ·refine ⟨([], 2), ⟨12, fun k hk => ?_⟩, .inl rfl⟩
    show (qx.f k done).bind _ = _
    rw [check_spec done k hk, hok]
    rfl
   ·refine ⟨(done, 0), ⟨12, fun k hk => ?_⟩, .inr ⟨done, rfl, hok, ?_⟩⟩
    ·show (qx.f k done).bind _ = _
     rw [check_spec done k hk, hok]
     rfl
    ·have := h rfl
     rw [hs, List.append_nil] at this
     exact this
  ·simp only [hs, if_false]
   exact ⟨([], 2), Ev.now _, .inl rfl⟩
 ·simp only [if_true]
  exact ⟨([], 2), Ev.now _, .inl rfl⟩
theorem parse_loop_any (whole : List UInt8) : ∀ (m : Nat) (done : List S41) (s : List UInt8) (b : Bool), done.length + m = 9 → done ≠ [] → s.length ≤ 1000000 → (b = false → selL done ++ s = whole) →
  ∃ r, Ev (fun k => qz.l0 k done (mk s) b) r ∧ Read whole r := by
 intro m
 induction m with
 | zero =>
  intro done s b hm hd hs h
  obtain ⟨r, hr, hR⟩ := parse_end whole done s b h
  refine ⟨r, Ev.late (f := fun k => qz.j1 k done false (mk s) b) 0 (fun k _ => ?_) (Ev.late 0 (fun k _ => ?_) hr), hR⟩
  ·simp only [qz.l0]
   cases b
   ·rw [if_neg Bool.false_ne_true, decide_eq_false (by omega)]
   ·rw [if_pos rfl]
  ·simp only [qz.j1, Bool.false_eq_true, if_false]
 | succ m ih =>
  intro done s b hm hd hs h
  cases b
  ·have hw := h rfl
   rcases is_read [62] s false with ⟨s1, h1, h2⟩ | h2
   ·have hs1 : s1.length ≤ s.length := by rw [h1, List.length_append]; omega
    obtain ⟨f1, f2, f3, f4, r2, b2, h3, h4, h5⟩ := part_read s1 (by omega)
    obtain ⟨r, hr, hR⟩ := ih (done ++ [⟨true, f1, f2, f3, f4⟩]) r2 b2 zz40 (by simp) (by omega) (fun hb => by
     have h6 := (h4.resolve_left (by rw [hb]; exact Bool.false_ne_true)) true
     rw [selL_snoc _ _ hd, partL_eq, ← hw, h1, h6]
     unfold headL
     simp only [if_true, List.append_assoc])
    refine ⟨r, Ev.late (f := fun k => qz.j1 k done true (mk s) false) 0 (fun k _ => ?_) (Ev.late 0 (fun k _ => ?_) hr), hR⟩
    ·simp only [qz.l0, Bool.false_eq_true, if_false]
     rw [decide_eq_true (by omega)]
    ·simp only [qz.j1, if_true]
     rw [show (⟨#[62]⟩ : ByteArray) = mk [62] from rfl, show (⟨#[32]⟩ : ByteArray) = mk [32] from rfl, h2]
     simp only [Option.bind_some, if_true]
     rw [h3]
     simp only [Option.bind_some]
     rw [if_pos (by omega)]
   ·rcases is_read [32] s false with ⟨s1, h1, h2b⟩ | h2b
    ·have hs1 : s1.length ≤ s.length := by rw [h1, List.length_append]; omega
     obtain ⟨f1, f2, f3, f4, r2, b2, h3, h4, h5⟩ := part_read s1 (by omega)
     obtain ⟨r, hr, hR⟩ := ih (done ++ [⟨false, f1, f2, f3, f4⟩]) r2 b2 zz40 (by simp) (by omega) (fun hb => by
      have h6 := (h4.resolve_left (by rw [hb]; exact Bool.false_ne_true)) false
      rw [selL_snoc _ _ hd, partL_eq, ← hw, h1, h6]
      unfold headL
      simp only [Bool.false_eq_true, if_false, List.append_assoc])
     refine ⟨r, Ev.late (f := fun k => qz.j1 k done true (mk s) false) 0 (fun k _ => ?_) (Ev.late 0 (fun k _ => ?_) hr), hR⟩
     ·simp only [qz.l0, Bool.false_eq_true, if_false]
      rw [decide_eq_true (by omega)]
     ·simp only [qz.j1, if_true]
      rw [show (⟨#[62]⟩ : ByteArray) = mk [62] from rfl, show (⟨#[32]⟩ : ByteArray) = mk [32] from rfl, h2]
      simp only [Option.bind_some, Bool.false_eq_true, if_false]
      rw [h2b]
      simp only [Option.bind_some, if_true]
      rw [h3]
      simp only [Option.bind_some]
      rw [if_pos (by omega)]
    ·obtain ⟨r, hr, hR⟩ := parse_end whole done s false h
     refine ⟨r, Ev.late (f := fun k => qz.j1 k done true (mk s) false) 0 (fun k _ => ?_) (Ev.late 0 (fun k _ => ?_) hr), hR⟩
     ·simp only [qz.l0, Bool.false_eq_true, if_false]
      rw [decide_eq_true (by omega)]
     ·simp only [qz.j1, if_true]
      rw [show (⟨#[62]⟩ : ByteArray) = mk [62] from rfl, show (⟨#[32]⟩ : ByteArray) = mk [32] from rfl, h2]
      simp only [Option.bind_some, Bool.false_eq_true, if_false]
      rw [h2b]
      simp only [Option.bind_some, Bool.false_eq_true, if_false]
  ·obtain ⟨r, hr, hR⟩ := parse_end whole done s true h
   refine ⟨r, Ev.late (f := fun k => qz.j1 k done false (mk s) true) 0 (fun k _ => ?_) (Ev.late 0 (fun k _ => ?_) hr), hR⟩
   ·simp only [qz.l0, if_true]
   ·simp only [qz.j1, Bool.false_eq_true, if_false]
theorem parse_any (s : List UInt8) (hs : s.length ≤ 1000000) : ∃ r, Ev (fun k => qz.f k (mk s)) r ∧ Read s r := by
 obtain ⟨f1, f2, f3, f4, r2, b2, h3, h4, h5⟩ := part_read s hs
 obtain ⟨r, hr, hR⟩ := parse_loop_any s 8 [⟨false, f1, f2, f3, f4⟩] r2 b2 rfl (by simp) (by omega) (fun hb => by
  have h6 := (h4.resolve_left (by rw [hb]; exact Bool.false_ne_true)) false
  show partL true _ ++ [] ++ r2 = s
  rw [partL_eq, List.append_nil]
  unfold headL
  simp only [Bool.false_eq_true, if_false, if_true, List.nil_append]
  exact h6.symm)
 refine ⟨r, Ev.congr (fun k => ?_) hr, hR⟩
 unfold qz.f
 rw [h3]
 rfl
end Go.Proofs.YtjbobecnlpiejaaDoor.Q.P
namespace Go.Proofs.YtjbobecnlpiejaaDoor.Q
open Go.Proofs.YtjbobecnlpiejaaDoorZ
open Go.RowKit Go.Proofs.YtjbobecnlpiejaaDoorW.PrintWords Go.Proofs.YtjbobecnlpiejaaDoorW.PrintLast Go.Proofs.YtjbobecnlpiejaaDoorW.PrintMore
attribute [local go_sem] qvb qwb qzb qyb
mutual
def qtb.l0 : Nat → List (S46) → List (S46) → Int → Int → Option (Bool)
 | 0, _, _, _, _ => none
 | k + 1, x0, x6, x7, x8 => if x8 < x7 then (if 0 ≤ x8 then (if x8 < (x6.length : Int) then (qtb.l1 k x0 x8 x8 x6 x7 x8 ((qi x6 x8).f0) ((qi x6 x8).f1) ((qi x6 x8).f2) ((qi x6 x8).f3) ((qi x6 x8).f4) ((qi x6 x8).f5)) else (none)) else (none)) else (some true)
def qtb.l1 : Nat → List (S46) → Int → Int → List (S46) → Int → Int → Int → Int → ByteArray → ByteArray → ByteArray → List (S48) → Option (Bool)
 | 0, _, _, _, _, _, _, _, _, _, _, _, _ => none
 | k + 1, x0, x3, x5, x6, x7, x8, x178000, x178001, x178002, x178003, x178004, x178005 => if x5 = 0 then (if x5 = x178001 then (if x3 = 0 then (qtb.l0 k x0 x6 x7 (wrap64 (x8 + 1))) else (some false)) else (some false)) else (if x5 = x178001 then (if x3 = 0 then (some false) else (qtb.l0 k x0 x6 x7 (wrap64 (x8 + 1)))) else (if 0 ≤ (wrap64 (x5 - 1)) then (if (wrap64 (x5 - 1)) < (x0.length : Int) then (qtb.l1 k x0 x3 ((qi x0 (wrap64 (x5 - 1))).f1) x6 x7 x8 x178000 x178001 x178002 x178003 x178004 x178005) else (none)) else (none)))
end
def qtb.f (k : Nat) (l0 : List (S46)) : Option (Bool) := qtb.l0 k l0 l0 (l0.length : Int) 0
theorem qtb.mono_l : ∀ k, (∀ y0 y1 y2 y3, LeO (qtb.l0 k y0 y1 y2 y3) (qtb.l0 (k + 1) y0 y1 y2 y3)) ∧ (∀ y0 y1 y2 y3 y4 y5 y6 y7 y8 y9 y10 y11, LeO (qtb.l1 k y0 y1 y2 y3 y4 y5 y6 y7 y8 y9 y10 y11) (qtb.l1 (k + 1) y0 y1 y2 y3 y4 y5 y6 y7 y8 y9 y10 y11))
 | 0 => ⟨fun _ _ _ _ r h => by simp [qtb.l0] at h, fun _ _ _ _ _ _ _ _ _ _ _ _ r h => by simp [qtb.l1] at h⟩
 | k + 1 => by
  obtain ⟨ih0, ih1⟩ := qtb.mono_l k
  refine ⟨?_, ?_⟩
  ·intro y0 y1 y2 y3
   unfold qtb.l0
   repeat' first
   | (with_reducible exact ih0 _ _ _ _)
   | (with_reducible exact ih1 _ _ _ _ _ _ _ _ _ _ _ _)
   | (with_reducible exact LeO.refl _)
   | (with_reducible exact LeO.none _)
   | (with_reducible refine LeO.ite ?_ ?_)
   | (with_reducible refine LeO.bind ?_ (fun _ => ?_))
   | exact ih0 _ _ _ _
   | exact ih1 _ _ _ _ _ _ _ _ _ _ _ _
   | exact LeO.none _
   | refine LeO.ite ?_ ?_
   | refine LeO.bind ?_ (fun _ => ?_)
  ·intro y0 y1 y2 y3 y4 y5 y6 y7 y8 y9 y10 y11
   unfold qtb.l1
   repeat' first
   | (with_reducible exact ih0 _ _ _ _)
   | (with_reducible exact ih1 _ _ _ _ _ _ _ _ _ _ _ _)
   | (with_reducible exact LeO.refl _)
   | (with_reducible exact LeO.none _)
   | (with_reducible refine LeO.ite ?_ ?_)
   | (with_reducible refine LeO.bind ?_ (fun _ => ?_))
   | exact ih0 _ _ _ _
   | exact ih1 _ _ _ _ _ _ _ _ _ _ _ _
   | exact LeO.none _
   | refine LeO.ite ?_ ?_
   | refine LeO.bind ?_ (fun _ => ?_)
theorem qtb.mono : ∀ a0 k, LeO (qtb.f k a0) (qtb.f (k + 1) a0) := by
 intro a0 k
 obtain ⟨ih0, ih1⟩ := qtb.mono_l k
 unfold qtb.f
 repeat' first
   | (with_reducible exact ih0 _ _ _ _)
   | (with_reducible exact ih1 _ _ _ _ _ _ _ _ _ _ _ _)
   | (with_reducible exact LeO.refl _)
   | (with_reducible exact LeO.none _)
   | (with_reducible refine LeO.ite ?_ ?_)
   | (with_reducible refine LeO.bind ?_ (fun _ => ?_))
   | exact ih0 _ _ _ _
   | exact ih1 _ _ _ _ _ _ _ _ _ _ _ _
   | exact LeO.none _
   | refine LeO.ite ?_ ?_
   | refine LeO.bind ?_ (fun _ => ?_)
set_option maxHeartbeats 8000000 in
set_option maxRecDepth 100000 in
theorem qtb.calls (k : Nat) (A0 : Option Addr) (c0 : Nat) (l0 : List (S46)) (r : Bool) (w : World) (hr0 : Kd.C k46 w A0 l0.length l0) (hc0 : l0.length ≤ c0) (h : qtb.f k l0 = some r) :
  Calls Tryd.prog 49 #[.slice A0 l0.length c0] w fun e w' => e = .returned (.bool r) ∧ Below w.heap.size w w' := by
 have hu46 := Tryd.underlying46
 have HR0 := qa.mk hr0
 have HC0 := qa.mk hc0
 clear hr0 hc0
 have HB := qa.mk (Below.refl w.heap.size w)
 have H : (qtb.l0 k l0 l0 (l0.length : Int) 0) = some r := h
 clear h
 have H' := qa.mk H
 clear H
 go_enter Tryd.func49, Tryd.ntmps49
 go_wp2
 go_loopg [8] k (fun kq v8 w' => ∃ (x8_1 : Int), v8 = .int .i64 x8_1 ∧ qa (qtb.l0 kq l0 l0 (l0.length : Int) x8_1 = some r) ∧ qa (kq ≤ k) ∧ qa (Below w.heap.size w w'))
 case atStart => exact ⟨(0), zz7, H', ⟨Nat.le_refl _⟩, ⟨zz53⟩⟩
 case round =>
  clear H'
  obtain ⟨x8_1, rfl, HA, HK1, HB⟩ := hrel
  cases gk with
  | zero => exact absurd HA.out (by simp [qtb.l0])
  | succ k1 =>
   have H := HA.out
   clear HA
   simp only [qtb.l0] at H
   by_cases c2 : x8_1 < (l0.length : Int)
   ·rw [if_pos c2] at H
    have c2b0 : decide (x8_1 < (l0.length : Int)) = true := decide_eq_true c2
    clear c2
    by_cases c3 : 0 ≤ x8_1
    ·rw [if_pos c3] at H
     have c3b0 : decide (0 ≤ x8_1) = true := decide_eq_true c3
     clear c3
     by_cases c4 : x8_1 < (l0.length : Int)
     ·rw [if_pos c4] at H
      have c4b0 : decide (x8_1 < (l0.length : Int)) = true := decide_eq_true c4
      clear c4
      have H' := qa.mk H
      clear H
      have p176 : 0 ≤ (x8_1 : Int) := of_decide_eq_true zz12
      have q176 : x8_1 < (l0.length : Int) := of_decide_eq_true zz12
      obtain ⟨ad176, A176_5, c176_5, e176, hx176_0, hx176_1, hx176_2, hx176_3, hx176_4, hx176_5, hl176_5, hi176_5⟩ := at_T46 HR0.out x8_1 p176 q176
      cases e176
      replace hx176_0 := (HB.out.cell (qwc w _ hx176_0)).trans hx176_0
      replace hx176_1 := (HB.out.cell (qwc w _ hx176_1)).trans hx176_1
      replace hx176_2 := (HB.out.cell (qwc w _ hx176_2)).trans hx176_2
      replace hx176_3 := (HB.out.cell (qwc w _ hx176_3)).trans hx176_3
      replace hx176_4 := (HB.out.cell (qwc w _ hx176_4)).trans hx176_4
      replace hx176_5 := (HB.out.cell (qwc w _ hx176_5)).trans hx176_5
      have HR176_5 := qa.mk hi176_5
      have HC176_5 := qa.mk hl176_5
      clear hi176_5 hl176_5
      replace p176 := eq_true p176
      replace q176 := eq_true q176
      go_wp2_with (first | ((with_reducible refine qeb (N := 4) rfl ?_); refine qjb ?hg (N := 4) ?hd (cs := #[.int .i64 0, .int .i64 0, .string (⟨#[]⟩ : ByteArray), .string (⟨#[]⟩ : ByteArray), .string (⟨#[]⟩ : ByteArray), .slice none 0 0]) (t := 46) ?hr ?_; (case hd => rfl); (case hg => rfl); (case hr => exact zz6); intro gb177 hg w5 hbox hb; have n0_ := qa.mk (qp zz53 hb); have n1_ := qa.mk (hbox); have n2_ := qa.mk ((by rw [hg]; exact (qo zz53) : w.heap.size ≤ gb177)); have n3_ := qa.mk ((by rw [hg]; exact (qo zz53) : w.heap.size ≤ gb177)); clear HB; have HB := n0_; have BK177 := n1_; have GW177 := n2_; have GE177 := n3_; clear n0_ n1_ n2_ n3_; clear hb hbox hg; have hcz6_0 : w5.cell? ⟨gb177, 0, none⟩ = some (.int .i64 0) := (qh BK177.out 0).trans rfl; have hcz6_1 : w5.cell? ⟨gb177, 1, none⟩ = some (.int .i64 0) := (qh BK177.out 1).trans rfl; have hcz6_2 : w5.cell? ⟨gb177, 2, none⟩ = some (.string (⟨#[]⟩ : ByteArray)) := (qh BK177.out 2).trans rfl; have hcz6_3 : w5.cell? ⟨gb177, 3, none⟩ = some (.string (⟨#[]⟩ : ByteArray)) := (qh BK177.out 3).trans rfl; have hcz6_4 : w5.cell? ⟨gb177, 4, none⟩ = some (.string (⟨#[]⟩ : ByteArray)) := (qh BK177.out 4).trans rfl; have hcz6_5 : w5.cell? ⟨gb177, 5, none⟩ = some (.slice none 0 0) := (qh BK177.out 5).trans rfl; have hfz6_0 := qf BK177.out 0; have hfz6_1 := qf BK177.out 1; have hfz6_2 := qf BK177.out 2; have hfz6_3 := qf BK177.out 3; have hfz6_4 := qf BK177.out 4; have hfz6_5 := qf BK177.out 5))
      go_loopg [5] k1 (fun kq v5 w' => ∃ (x5_2 : Int), v5 = .int .i64 x5_2 ∧ qa (qtb.l1 kq l0 x8_1 x5_2 l0 (l0.length : Int) x8_1 ((qi l0 x8_1).f0) ((qi l0 x8_1).f1) ((qi l0 x8_1).f2) ((qi l0 x8_1).f3) ((qi l0 x8_1).f4) ((qi l0 x8_1).f5) = some r) ∧ qa (kq ≤ k1) ∧ qa (w'.heap[gb177]? = some (.cells #[.int .i64 ((qi l0 x8_1).f0), .int .i64 ((qi l0 x8_1).f1), .string ((qi l0 x8_1).f2), .string ((qi l0 x8_1).f3), .string ((qi l0 x8_1).f4), (.slice A176_5 ((qi l0 x8_1).f5).length c176_5)] 46 (0, 0))) ∧ qa (Below w.heap.size w w'))
      case atStart => exact ⟨(x8_1), zz7, H', ⟨Nat.le_refl _⟩, ⟨by (with_reducible repeat (first | refine qk ?_ _ | refine ql ?_ | refine qj ?_ _)); refine qq (cs := #[.int .i64 ((qi l0 x8_1).f0), .int .i64 ((qi l0 x8_1).f1), .string ((qi l0 x8_1).f2), .string ((qi l0 x8_1).f3), .string ((qi l0 x8_1).f4), .slice none 0 0]) ?_ 5 _ rfl; (with_reducible repeat (first | refine qk ?_ _ | refine ql ?_ | refine qj ?_ _)); refine qq (cs := #[.int .i64 ((qi l0 x8_1).f0), .int .i64 ((qi l0 x8_1).f1), .string ((qi l0 x8_1).f2), .string ((qi l0 x8_1).f3), .string (⟨#[]⟩ : ByteArray), .slice none 0 0]) ?_ 4 _ rfl; (with_reducible repeat (first | refine qk ?_ _ | refine ql ?_ | refine qj ?_ _)); refine qq (cs := #[.int .i64 ((qi l0 x8_1).f0), .int .i64 ((qi l0 x8_1).f1), .string ((qi l0 x8_1).f2), .string (⟨#[]⟩ : ByteArray), .string (⟨#[]⟩ : ByteArray), .slice none 0 0]) ?_ 3 _ rfl; (with_reducible repeat (first | refine qk ?_ _ | refine ql ?_ | refine qj ?_ _)); refine qq (cs := #[.int .i64 ((qi l0 x8_1).f0), .int .i64 ((qi l0 x8_1).f1), .string (⟨#[]⟩ : ByteArray), .string (⟨#[]⟩ : ByteArray), .string (⟨#[]⟩ : ByteArray), .slice none 0 0]) ?_ 2 _ rfl; (with_reducible repeat (first | refine qk ?_ _ | refine ql ?_ | refine qj ?_ _)); refine qq (cs := #[.int .i64 ((qi l0 x8_1).f0), .int .i64 0, .string (⟨#[]⟩ : ByteArray), .string (⟨#[]⟩ : ByteArray), .string (⟨#[]⟩ : ByteArray), .slice none 0 0]) ?_ 1 _ rfl; (with_reducible repeat (first | refine qk ?_ _ | refine ql ?_ | refine qj ?_ _)); refine qq (cs := #[.int .i64 0, .int .i64 0, .string (⟨#[]⟩ : ByteArray), .string (⟨#[]⟩ : ByteArray), .string (⟨#[]⟩ : ByteArray), .slice none 0 0]) ?_ 0 _ rfl; (with_reducible repeat (first | refine qk ?_ _ | refine ql ?_ | refine qj ?_ _)); exact BK177.out⟩, ⟨zz76⟩⟩
      case round =>
       clear H'
       try clear c1
       try clear p1
       try clear q1
       try clear hx1
       try clear c2
       try clear c2b0
       try clear p2
       try clear c3
       try clear c3b0
       try clear c4
       try clear c4b0
       try clear hcz6_0
       try clear hcz6_1
       try clear hcz6_2
       try clear hcz6_3
       try clear hcz6_4
       try clear hcz6_5
       try clear hfz6_0
       try clear hfz6_1
       try clear hfz6_2
       try clear hfz6_3
       try clear hfz6_4
       try clear hfz6_5
       try clear hx176_0
       try clear hx176_1
       try clear hx176_2
       try clear hx176_3
       try clear hx176_4
       try clear hx176_5
       try clear p176
       try clear q176
       obtain ⟨x5_2, rfl, HA, HK2, BK177, HB⟩ := hrel
       cases gk with
       | zero => exact absurd HA.out (by simp [qtb.l1])
       | succ k2 =>
        have H := HA.out
        clear HA
        simp only [qtb.l1] at H
        by_cases c7 : x5_2 = 0
        ·rw [if_pos c7] at H
         have c7b0 : (x5_2 == 0) = true := beq_iff_eq.mpr c7
         have c7b1 : (x5_2 != 0) = false := bne_eq_false_iff_eq.mpr c7
         clear c7
         by_cases c8 : x5_2 = ((qi l0 x8_1).f1)
         ·rw [if_pos c8] at H
          have c8b0 : (x5_2 == ((qi l0 x8_1).f1)) = true := beq_iff_eq.mpr c8
          have c8b1 : (x5_2 != ((qi l0 x8_1).f1)) = false := bne_eq_false_iff_eq.mpr c8
          clear c8
          by_cases c9 : x8_1 = 0
          ·rw [if_pos c9] at H
           have c9b0 : (x8_1 == 0) = true := beq_iff_eq.mpr c9
           have c9b1 : (x8_1 != 0) = false := bne_eq_false_iff_eq.mpr c9
           clear c9
           have H' := qa.mk H
           clear H
           have hcz10_0 : wr.cell? ⟨gb177, 0, none⟩ = some (.int .i64 ((qi l0 x8_1).f0)) := (qh BK177.out 0).trans rfl
           have hcz10_1 : wr.cell? ⟨gb177, 1, none⟩ = some (.int .i64 ((qi l0 x8_1).f1)) := (qh BK177.out 1).trans rfl
           have hcz10_2 : wr.cell? ⟨gb177, 2, none⟩ = some (.string ((qi l0 x8_1).f2)) := (qh BK177.out 2).trans rfl
           have hcz10_3 : wr.cell? ⟨gb177, 3, none⟩ = some (.string ((qi l0 x8_1).f3)) := (qh BK177.out 3).trans rfl
           have hcz10_4 : wr.cell? ⟨gb177, 4, none⟩ = some (.string ((qi l0 x8_1).f4)) := (qh BK177.out 4).trans rfl
           have hcz10_5 : wr.cell? ⟨gb177, 5, none⟩ = some (.slice A176_5 ((qi l0 x8_1).f5).length c176_5) := (qh BK177.out 5).trans rfl
           have hfz10_0 := qf BK177.out 0
           have hfz10_1 := qf BK177.out 1
           have hfz10_2 := qf BK177.out 2
           have hfz10_3 := qf BK177.out 3
           have hfz10_4 := qf BK177.out 4
           have hfz10_5 := qf BK177.out 5
           go_wp2
           go_roundg k2
           case measure => have := HK1.out; have := HK2.out; omega
           case rel => exact ⟨(wrap64 (x8_1 + 1)), zz7, H', ⟨zz4⟩, ⟨zz76⟩⟩
          ·rw [if_neg c9] at H
           have c9b0 : (x8_1 == 0) = false := beq_eq_false_iff_ne.mpr c9
           have c9b1 : (x8_1 != 0) = true := bne_iff_ne.mpr c9
           obtain rfl := Option.some.inj H
           have hcz11_0 : wr.cell? ⟨gb177, 0, none⟩ = some (.int .i64 ((qi l0 x8_1).f0)) := (qh BK177.out 0).trans rfl
           have hcz11_1 : wr.cell? ⟨gb177, 1, none⟩ = some (.int .i64 ((qi l0 x8_1).f1)) := (qh BK177.out 1).trans rfl
           have hcz11_2 : wr.cell? ⟨gb177, 2, none⟩ = some (.string ((qi l0 x8_1).f2)) := (qh BK177.out 2).trans rfl
           have hcz11_3 : wr.cell? ⟨gb177, 3, none⟩ = some (.string ((qi l0 x8_1).f3)) := (qh BK177.out 3).trans rfl
           have hcz11_4 : wr.cell? ⟨gb177, 4, none⟩ = some (.string ((qi l0 x8_1).f4)) := (qh BK177.out 4).trans rfl
           have hcz11_5 : wr.cell? ⟨gb177, 5, none⟩ = some (.slice A176_5 ((qi l0 x8_1).f5).length c176_5) := (qh BK177.out 5).trans rfl
           have hfz11_0 := qf BK177.out 0
           have hfz11_1 := qf BK177.out 1
           have hfz11_2 := qf BK177.out 2
           have hfz11_3 := qf BK177.out 3
           have hfz11_4 := qf BK177.out 4
           have hfz11_5 := qf BK177.out 5
           go_wp2
           go_ret
           exact ⟨zz103, zz76⟩
         ·rw [if_neg c8] at H
          have c8b0 : (x5_2 == ((qi l0 x8_1).f1)) = false := beq_eq_false_iff_ne.mpr c8
          have c8b1 : (x5_2 != ((qi l0 x8_1).f1)) = true := bne_iff_ne.mpr c8
          obtain rfl := Option.some.inj H
          have hcz12_0 : wr.cell? ⟨gb177, 0, none⟩ = some (.int .i64 ((qi l0 x8_1).f0)) := (qh BK177.out 0).trans rfl
          have hcz12_1 : wr.cell? ⟨gb177, 1, none⟩ = some (.int .i64 ((qi l0 x8_1).f1)) := (qh BK177.out 1).trans rfl
          have hcz12_2 : wr.cell? ⟨gb177, 2, none⟩ = some (.string ((qi l0 x8_1).f2)) := (qh BK177.out 2).trans rfl
          have hcz12_3 : wr.cell? ⟨gb177, 3, none⟩ = some (.string ((qi l0 x8_1).f3)) := (qh BK177.out 3).trans rfl
          have hcz12_4 : wr.cell? ⟨gb177, 4, none⟩ = some (.string ((qi l0 x8_1).f4)) := (qh BK177.out 4).trans rfl
          have hcz12_5 : wr.cell? ⟨gb177, 5, none⟩ = some (.slice A176_5 ((qi l0 x8_1).f5).length c176_5) := (qh BK177.out 5).trans rfl
          have hfz12_0 := qf BK177.out 0
          have hfz12_1 := qf BK177.out 1
          have hfz12_2 := qf BK177.out 2
          have hfz12_3 := qf BK177.out 3
          have hfz12_4 := qf BK177.out 4
          have hfz12_5 := qf BK177.out 5
          go_wp2
          go_ret
          exact ⟨zz103, zz76⟩
        ·rw [if_neg c7] at H
         have c7b0 : (x5_2 == 0) = false := beq_eq_false_iff_ne.mpr c7
         have c7b1 : (x5_2 != 0) = true := bne_iff_ne.mpr c7
         by_cases c13 : x5_2 = ((qi l0 x8_1).f1)
         ·rw [if_pos c13] at H
          have c13b0 : (x5_2 == ((qi l0 x8_1).f1)) = true := beq_iff_eq.mpr c13
          have c13b1 : (x5_2 != ((qi l0 x8_1).f1)) = false := bne_eq_false_iff_eq.mpr c13
          clear c13
          by_cases c14 : x8_1 = 0
          ·rw [if_pos c14] at H
           have c14b0 : (x8_1 == 0) = true := beq_iff_eq.mpr c14
           have c14b1 : (x8_1 != 0) = false := bne_eq_false_iff_eq.mpr c14
           clear c14
           obtain rfl := Option.some.inj H
           have hcz15_0 : wr.cell? ⟨gb177, 0, none⟩ = some (.int .i64 ((qi l0 x8_1).f0)) := (qh BK177.out 0).trans rfl
           have hcz15_1 : wr.cell? ⟨gb177, 1, none⟩ = some (.int .i64 ((qi l0 x8_1).f1)) := (qh BK177.out 1).trans rfl
           have hcz15_2 : wr.cell? ⟨gb177, 2, none⟩ = some (.string ((qi l0 x8_1).f2)) := (qh BK177.out 2).trans rfl
           have hcz15_3 : wr.cell? ⟨gb177, 3, none⟩ = some (.string ((qi l0 x8_1).f3)) := (qh BK177.out 3).trans rfl
           have hcz15_4 : wr.cell? ⟨gb177, 4, none⟩ = some (.string ((qi l0 x8_1).f4)) := (qh BK177.out 4).trans rfl
           have hcz15_5 : wr.cell? ⟨gb177, 5, none⟩ = some (.slice A176_5 ((qi l0 x8_1).f5).length c176_5) := (qh BK177.out 5).trans rfl
           have hfz15_0 := qf BK177.out 0
           have hfz15_1 := qf BK177.out 1
           have hfz15_2 := qf BK177.out 2
           have hfz15_3 := qf BK177.out 3
           have hfz15_4 := qf BK177.out 4
           have hfz15_5 := qf BK177.out 5
           go_wp2
           go_ret
           exact ⟨zz103, zz76⟩
          ·rw [if_neg c14] at H
           have c14b0 : (x8_1 == 0) = false := beq_eq_false_iff_ne.mpr c14
           have c14b1 : (x8_1 != 0) = true := bne_iff_ne.mpr c14
           have H' := qa.mk H
           clear H
           have hcz16_0 : wr.cell? ⟨gb177, 0, none⟩ = some (.int .i64 ((qi l0 x8_1).f0)) := (qh BK177.out 0).trans rfl
           have hcz16_1 : wr.cell? ⟨gb177, 1, none⟩ = some (.int .i64 ((qi l0 x8_1).f1)) := (qh BK177.out 1).trans rfl
           have hcz16_2 : wr.cell? ⟨gb177, 2, none⟩ = some (.string ((qi l0 x8_1).f2)) := (qh BK177.out 2).trans rfl
           have hcz16_3 : wr.cell? ⟨gb177, 3, none⟩ = some (.string ((qi l0 x8_1).f3)) := (qh BK177.out 3).trans rfl
           have hcz16_4 : wr.cell? ⟨gb177, 4, none⟩ = some (.string ((qi l0 x8_1).f4)) := (qh BK177.out 4).trans rfl
           have hcz16_5 : wr.cell? ⟨gb177, 5, none⟩ = some (.slice A176_5 ((qi l0 x8_1).f5).length c176_5) := (qh BK177.out 5).trans rfl
           have hfz16_0 := qf BK177.out 0
           have hfz16_1 := qf BK177.out 1
           have hfz16_2 := qf BK177.out 2
           have hfz16_3 := qf BK177.out 3
           have hfz16_4 := qf BK177.out 4
           have hfz16_5 := qf BK177.out 5
           go_wp2
           go_roundg k2
           case measure => have := HK1.out; have := HK2.out; omega
           case rel => exact ⟨(wrap64 (x8_1 + 1)), zz7, H', ⟨zz4⟩, ⟨zz76⟩⟩
         ·rw [if_neg c13] at H
          have c13b0 : (x5_2 == ((qi l0 x8_1).f1)) = false := beq_eq_false_iff_ne.mpr c13
          have c13b1 : (x5_2 != ((qi l0 x8_1).f1)) = true := bne_iff_ne.mpr c13
          obtain ⟨ji17, hji17⟩ : ∃ j_ : Int, (wrap64 (x5_2 - 1)) = j_ := ⟨_, rfl⟩
          replace H : (if 0 ≤ (ji17) then (if (ji17) < (l0.length : Int) then (qtb.l1 k2 l0 x8_1 ((qi l0 (ji17)).f1) l0 (l0.length : Int) x8_1 ((qi l0 x8_1).f0) ((qi l0 x8_1).f1) ((qi l0 x8_1).f2) ((qi l0 x8_1).f3) ((qi l0 x8_1).f4) ((qi l0 x8_1).f5)) else (none)) else (none)) = some r := by first | (rw [hji17] at H; exact H) | (simp only [hji17] at H ⊢; exact H)
          have hji17w : (IntKind.i64.wrap (x5_2 - 1)) = ji17 := (i64_w _).trans hji17
          by_cases c18 : 0 ≤ (ji17)
          ·rw [if_pos c18] at H
           have c18b0 : decide (0 ≤ (ji17)) = true := decide_eq_true c18
           clear c18
           by_cases c19 : (ji17) < (l0.length : Int)
           ·rw [if_pos c19] at H
            have c19b0 : decide ((ji17) < (l0.length : Int)) = true := decide_eq_true c19
            clear c19
            have H' := qa.mk H
            clear H
            have hcz20_0 : wr.cell? ⟨gb177, 0, none⟩ = some (.int .i64 ((qi l0 x8_1).f0)) := (qh BK177.out 0).trans rfl
            have hcz20_1 : wr.cell? ⟨gb177, 1, none⟩ = some (.int .i64 ((qi l0 x8_1).f1)) := (qh BK177.out 1).trans rfl
            have hcz20_2 : wr.cell? ⟨gb177, 2, none⟩ = some (.string ((qi l0 x8_1).f2)) := (qh BK177.out 2).trans rfl
            have hcz20_3 : wr.cell? ⟨gb177, 3, none⟩ = some (.string ((qi l0 x8_1).f3)) := (qh BK177.out 3).trans rfl
            have hcz20_4 : wr.cell? ⟨gb177, 4, none⟩ = some (.string ((qi l0 x8_1).f4)) := (qh BK177.out 4).trans rfl
            have hcz20_5 : wr.cell? ⟨gb177, 5, none⟩ = some (.slice A176_5 ((qi l0 x8_1).f5).length c176_5) := (qh BK177.out 5).trans rfl
            have hfz20_0 := qf BK177.out 0
            have hfz20_1 := qf BK177.out 1
            have hfz20_2 := qf BK177.out 2
            have hfz20_3 := qf BK177.out 3
            have hfz20_4 := qf BK177.out 4
            have hfz20_5 := qf BK177.out 5
            have p178 : 0 ≤ ((ji17) : Int) := of_decide_eq_true zz12
            have q178 : (ji17) < (l0.length : Int) := of_decide_eq_true zz12
            obtain ⟨ad178, A178_5, c178_5, e178, hx178_0, hx178_1, hx178_2, hx178_3, hx178_4, hx178_5, hl178_5, hi178_5⟩ := at_T46 HR0.out (ji17) p178 q178
            obtain rfl : ad176 = ad178 := (by injection e178)
            replace hx178_0 := (HB.out.cell (qwc w _ hx178_0)).trans hx178_0
            replace hx178_1 := (HB.out.cell (qwc w _ hx178_1)).trans hx178_1
            replace hx178_2 := (HB.out.cell (qwc w _ hx178_2)).trans hx178_2
            replace hx178_3 := (HB.out.cell (qwc w _ hx178_3)).trans hx178_3
            replace hx178_4 := (HB.out.cell (qwc w _ hx178_4)).trans hx178_4
            replace hx178_5 := (HB.out.cell (qwc w _ hx178_5)).trans hx178_5
            have HR178_5 := qa.mk hi178_5
            have HC178_5 := qa.mk hl178_5
            clear hi178_5 hl178_5
            replace p178 := eq_true p178
            replace q178 := eq_true q178
            go_wp2
            go_roundg k2
            case measure => have := HK1.out; have := HK2.out; omega
            case rel => exact ⟨((qi l0 (ji17)).f1), (by first | rfl | (simp; done) | (simp only [← hji17] <;> (first | rfl | simp)) | (simp [*]; done)), H', ⟨zz4⟩, ⟨by (with_reducible repeat (first | refine qk ?_ _ | refine ql ?_ | refine qj ?_ _)); exact BK177.out⟩, ⟨zz76⟩⟩
           ·rw [if_neg c19] at H
            exact absurd H (by simp)
          ·rw [if_neg c18] at H
           exact absurd H (by simp)
     ·rw [if_neg c4] at H
      exact absurd H (by simp)
    ·rw [if_neg c3] at H
     exact absurd H (by simp)
   ·rw [if_neg c2] at H
    have c2b0 : decide (x8_1 < (l0.length : Int)) = false := decide_eq_false c2
    clear c2
    obtain rfl := Option.some.inj H
    go_wp2
    go_ret
    exact ⟨zz103, zz53⟩
def qhc.l0 : Nat → List (S46) → List Int → List (S46) → Int → Int → Option (Bool)
 | 0, _, _, _, _, _ => none
 | k + 1, x0, x3, x10, x11, x12 => if x12 < x11 then (if 0 ≤ x12 then (if x12 < (x10.length : Int) then (if 0 ≤ ((qi x10 x12).f1) then (if ((qi x10 x12).f1) < (x3.length : Int) then (if 0 ≤ (wrap64 (x12 + 1)) then (if (wrap64 (x12 + 1)) < (x3.length : Int) then ((some (x3.set ((wrap64 (x12 + 1)) : Int).toNat (wrap64 ((rd x3 ((qi x10 x12).f1)) + 1)) : List Int)).bind fun y185 => (if (rd y185 (wrap64 (x12 + 1))) > 64 then (some true) else (qhc.l0 k x0 y185 x10 x11 (wrap64 (x12 + 1))))) else (none)) else (none)) else (none)) else (none)) else (none)) else (none)) else (some (decide ((x0.length : Int) > 4096)))
def qhc.f (k : Nat) (l0 : List (S46)) : Option (Bool) := if 0 ≤ (wrap64 ((l0.length : Int) + 1)) then (if (wrap64 ((l0.length : Int) + 1) : Int).toNat ≤ 35184372088832 then (qhc.l0 k l0 (List.replicate (wrap64 ((l0.length : Int) + 1) : Int).toNat 0) l0 (l0.length : Int) 0) else (none)) else (none)
theorem qhc.mono_l : ∀ k, (∀ y0 y1 y2 y3 y4, LeO (qhc.l0 k y0 y1 y2 y3 y4) (qhc.l0 (k + 1) y0 y1 y2 y3 y4))
 | 0 => fun _ _ _ _ _ r h => by simp [qhc.l0] at h
 | k + 1 => by
  have ih0 := qhc.mono_l k
  ·intro y0 y1 y2 y3 y4
   unfold qhc.l0
   repeat' first
   | (with_reducible exact ih0 _ _ _ _ _)
   | (with_reducible exact LeO.refl _)
   | (with_reducible exact LeO.none _)
   | (with_reducible refine LeO.ite ?_ ?_)
   | (with_reducible refine LeO.bind ?_ (fun _ => ?_))
   | exact ih0 _ _ _ _ _
   | exact LeO.none _
   | refine LeO.ite ?_ ?_
   | refine LeO.bind ?_ (fun _ => ?_)
theorem qhc.mono : ∀ a0 k, LeO (qhc.f k a0) (qhc.f (k + 1) a0) := by
 intro a0 k
 have ih0 := qhc.mono_l k
 unfold qhc.f
 repeat' first
   | (with_reducible exact ih0 _ _ _ _ _)
   | (with_reducible exact LeO.refl _)
   | (with_reducible exact LeO.none _)
   | (with_reducible refine LeO.ite ?_ ?_)
   | (with_reducible refine LeO.bind ?_ (fun _ => ?_))
   | exact ih0 _ _ _ _ _
   | exact LeO.none _
   | refine LeO.ite ?_ ?_
   | refine LeO.bind ?_ (fun _ => ?_)
set_option maxHeartbeats 8000000 in
set_option maxRecDepth 100000 in
theorem qhc.calls (k : Nat) (A0 : Option Addr) (c0 : Nat) (l0 : List (S46)) (r : Bool) (w : World) (hr0 : Kd.C k46 w A0 l0.length l0) (hc0 : l0.length ≤ c0) (h : qhc.f k l0 = some r) :
  Calls Tryd.prog 50 #[.slice A0 l0.length c0] w fun e w' => e = .returned (.bool r) ∧ Below w.heap.size w w' := by
 have hu46 := Tryd.underlying46
 have HR0 := qa.mk hr0
 have HC0 := qa.mk hc0
 clear hr0 hc0
 have HB := qa.mk (Below.refl w.heap.size w)
 have H : (if 0 ≤ (wrap64 ((l0.length : Int) + 1)) then (if (wrap64 ((l0.length : Int) + 1) : Int).toNat ≤ 35184372088832 then (qhc.l0 k l0 (List.replicate (wrap64 ((l0.length : Int) + 1) : Int).toNat 0) l0 (l0.length : Int) 0) else (none)) else (none)) = some r := h
 clear h
 obtain ⟨ji2, hji2⟩ : ∃ j_ : Int, (wrap64 ((l0.length : Int) + 1)) = j_ := ⟨_, rfl⟩
 replace H : (if 0 ≤ (ji2) then (if (ji2 : Int).toNat ≤ 35184372088832 then (qhc.l0 k l0 (List.replicate (ji2 : Int).toNat 0) l0 (l0.length : Int) 0) else (none)) else (none)) = some r := by first | (rw [hji2] at H; exact H) | (simp only [hji2] at H ⊢; exact H)
 have hji2w : (IntKind.i64.wrap ((l0.length : Int) + 1)) = ji2 := (i64_w _).trans hji2
 by_cases c3 : 0 ≤ (ji2)
 ·rw [if_pos c3] at H
  have c3b0 := eq_true c3
  have c3b1 : decide (0 ≤ (ji2)) = true := decide_eq_true c3
  clear c3
  by_cases c4 : (ji2 : Int).toNat ≤ 35184372088832
  ·rw [if_pos c4] at H
   have c4b0 := eq_true c4
   have c4b1 : decide ((ji2 : Int).toNat ≤ 35184372088832) = true := decide_eq_true c4
   clear c4
   obtain ⟨y179, hy179⟩ : ∃ y_ : List Int, y_ = (List.replicate (ji2 : Int).toNat 0) := ⟨_, rfl⟩
   replace H : (qhc.l0 k l0 y179 l0 (l0.length : Int) 0) = some r := by first | (rw [hy179]; with_reducible exact H) | (have H2_ := (Option.bind_some _ _).symm.trans H; rw [hy179]; with_reducible exact H2_) | (have H2_ := (Option.bind_some _ _).symm.trans H; with_reducible exact H2_) | with_reducible exact H | (rw [hy179]; exact H) | exact H
   have Ny179 := qa.mk hy179
   clear hy179
   have H' := qa.mk H
   clear H
   go_enter Tryd.func50, Tryd.ntmps50
   go_wp2_with (first | ((with_reducible refine qeb (N := 9) rfl ?_); refine Kd.R_make (Kd.int .i64) _ 3 rfl (N := 9) rfl 37 _ _ rfl ji2 rfl rfl Tryd.underlying37 (.int .i64 0) 8 info3 rfl (by decide) (by omega) 0 (ok := fun _ => True) (okp := fun _ => True) rfl (fun _ hk => hk) trivial (of_decide_eq_true zz12) (Nat.le_trans (Nat.mul_le_mul_right _ (of_decide_eq_true zz12 : ji2.toNat ≤ 35184372088832)) (by omega)) (Below.refl _ _) (Nat.le_refl _) ?_; intro v180 w5 ho6 hb hg_ hnew_; clear hg_ hnew_; (first | rw [← Ny179.out] at ho6 | (simp only [Int.reduceToNat] at ho6; rw [← Ny179.out] at ho6)); have n0_ := qa.mk (Kd.R_lower ho6 (qo zz53)); have n1_ := qa.mk (qp zz53 hb); clear HB; have HO181 := n0_; have HB := n1_; clear n0_ n1_; clear hb ho6))
   go_loopg [12] k (fun kq v12 w' => ∃ (x3_1 : List Int) (x12_1 : Int), v12 = .int .i64 x12_1 ∧ qa (qhc.l0 kq l0 x3_1 l0 (l0.length : Int) x12_1 = some r) ∧ qa (kq ≤ k) ∧ qa (Kd.R (Kd.int .i64) 3 w' w.heap.size (fun _ => True) v180 x3_1) ∧ qa (Below w.heap.size w w'))
   case atStart => exact ⟨(y179), (0), zz7, H', ⟨Nat.le_refl _⟩, ⟨by (with_reducible repeat (first | apply Kd.R_alloc | apply Kd.R_drewN | apply Kd.R_drew)); exact HO181.out⟩, ⟨zz53⟩⟩
   case round =>
    clear H'
    try clear p2
    try clear c3
    try clear c3b0
    try clear c3b1
    try clear c4
    try clear c4b0
    try clear c4b1
    try clear c5
    try clear p6
    obtain ⟨x3_1, x12_1, rfl, HA, HK1, HO_3, HB⟩ := hrel
    cases gk with
    | zero => exact absurd HA.out (by simp [qhc.l0])
    | succ k1 =>
     have H := HA.out
     clear HA
     simp only [qhc.l0] at H
     by_cases c7 : x12_1 < (l0.length : Int)
     ·rw [if_pos c7] at H
      have c7b0 : decide (x12_1 < (l0.length : Int)) = true := decide_eq_true c7
      clear c7
      by_cases c8 : 0 ≤ x12_1
      ·rw [if_pos c8] at H
       have c8b0 : decide (0 ≤ x12_1) = true := decide_eq_true c8
       clear c8
       by_cases c9 : x12_1 < (l0.length : Int)
       ·rw [if_pos c9] at H
        have c9b0 : decide (x12_1 < (l0.length : Int)) = true := decide_eq_true c9
        clear c9
        by_cases c10 : 0 ≤ ((qi l0 x12_1).f1)
        ·rw [if_pos c10] at H
         have c10b0 : decide (0 ≤ ((qi l0 x12_1).f1)) = true := decide_eq_true c10
         clear c10
         by_cases c11 : ((qi l0 x12_1).f1) < (x3_1.length : Int)
         ·rw [if_pos c11] at H
          have c11b0 : decide (((qi l0 x12_1).f1) < (x3_1.length : Int)) = true := decide_eq_true c11
          clear c11
          obtain ⟨ji12, hji12⟩ : ∃ j_ : Int, (wrap64 (x12_1 + 1)) = j_ := ⟨_, rfl⟩
          replace H : (if 0 ≤ (ji12) then (if (ji12) < (x3_1.length : Int) then ((some (x3_1.set ((ji12) : Int).toNat (wrap64 ((rd x3_1 ((qi l0 x12_1).f1)) + 1)) : List Int)).bind fun y185 => (if (rd y185 (ji12)) > 64 then (some true) else (qhc.l0 k1 l0 y185 l0 (l0.length : Int) ji12))) else (none)) else (none)) = some r := by first | (rw [hji12] at H; exact H) | (simp only [hji12] at H ⊢; exact H)
          have hji12w : (IntKind.i64.wrap (x12_1 + 1)) = ji12 := (i64_w _).trans hji12
          by_cases c13 : 0 ≤ (ji12)
          ·rw [if_pos c13] at H
           have c13b0 : decide (0 ≤ (ji12)) = true := decide_eq_true c13
           clear c13
           by_cases c14 : (ji12) < (x3_1.length : Int)
           ·rw [if_pos c14] at H
            have c14b0 : decide ((ji12) < (x3_1.length : Int)) = true := decide_eq_true c14
            clear c14
            obtain ⟨y185, hy185⟩ : ∃ y_ : List Int, y_ = (x3_1.set ((ji12) : Int).toNat (wrap64 ((rd x3_1 ((qi l0 x12_1).f1)) + 1))) := ⟨_, rfl⟩
            replace H : (if (rd y185 (ji12)) > 64 then (some true) else (qhc.l0 k1 l0 y185 l0 (l0.length : Int) ji12)) = some r := by first | (rw [hy185]; with_reducible exact H) | (have H2_ := (Option.bind_some _ _).symm.trans H; rw [hy185]; with_reducible exact H2_) | (have H2_ := (Option.bind_some _ _).symm.trans H; with_reducible exact H2_) | with_reducible exact H | (rw [hy185]; exact H) | exact H
            have Ny185 := qa.mk hy185
            clear hy185
            by_cases c16 : (rd y185 (ji12)) > 64
            ·rw [if_pos c16] at H
             have c16b0 : decide (64 < (rd y185 (ji12))) = true := decide_eq_true c16
             clear c16
             obtain rfl := Option.some.inj H
             have p182 : 0 ≤ (x12_1 : Int) := of_decide_eq_true zz12
             have q182 : x12_1 < (l0.length : Int) := of_decide_eq_true zz12
             obtain ⟨ad182, A182_5, c182_5, e182, hx182_0, hx182_1, hx182_2, hx182_3, hx182_4, hx182_5, hl182_5, hi182_5⟩ := at_T46 HR0.out x12_1 p182 q182
             cases e182
             replace hx182_0 := (HB.out.cell (qwc w _ hx182_0)).trans hx182_0
             replace hx182_1 := (HB.out.cell (qwc w _ hx182_1)).trans hx182_1
             replace hx182_2 := (HB.out.cell (qwc w _ hx182_2)).trans hx182_2
             replace hx182_3 := (HB.out.cell (qwc w _ hx182_3)).trans hx182_3
             replace hx182_4 := (HB.out.cell (qwc w _ hx182_4)).trans hx182_4
             replace hx182_5 := (HB.out.cell (qwc w _ hx182_5)).trans hx182_5
             have HR182_5 := qa.mk hi182_5
             have HC182_5 := qa.mk hl182_5
             clear hi182_5 hl182_5
             replace p182 := eq_true p182
             replace q182 := eq_true q182
             go_wp2_with (first | ((with_reducible refine qeb (N := 5) rfl ?_); refine qjb ?hg (N := 5) ?hd (cs := #[.int .i64 0, .int .i64 0, .string (⟨#[]⟩ : ByteArray), .string (⟨#[]⟩ : ByteArray), .string (⟨#[]⟩ : ByteArray), .slice none 0 0]) (t := 46) ?hr ?_; (case hd => rfl); (case hg => rfl); (case hr => exact zz6); intro gb183 hg w17 hbox hb; have n0_ := qa.mk (Kd.R_below zz56 hb); have n1_ := qa.mk (qp zz53 hb); have n2_ := qa.mk (hbox); have n3_ := qa.mk ((by rw [hg]; exact (qo zz53) : w.heap.size ≤ gb183)); have n4_ := qa.mk ((by rw [hg]; exact (qo zz53) : w.heap.size ≤ gb183)); clear HO_3; clear HB; have HO_3 := n0_; have HB := n1_; have BK183 := n2_; have GW183 := n3_; have GE183 := n4_; clear n0_ n1_ n2_ n3_ n4_; clear hb hbox hg; have hcz18_0 : w17.cell? ⟨gb183, 0, none⟩ = some (.int .i64 0) := (qh BK183.out 0).trans rfl; have hcz18_1 : w17.cell? ⟨gb183, 1, none⟩ = some (.int .i64 0) := (qh BK183.out 1).trans rfl; have hcz18_2 : w17.cell? ⟨gb183, 2, none⟩ = some (.string (⟨#[]⟩ : ByteArray)) := (qh BK183.out 2).trans rfl; have hcz18_3 : w17.cell? ⟨gb183, 3, none⟩ = some (.string (⟨#[]⟩ : ByteArray)) := (qh BK183.out 3).trans rfl; have hcz18_4 : w17.cell? ⟨gb183, 4, none⟩ = some (.string (⟨#[]⟩ : ByteArray)) := (qh BK183.out 4).trans rfl; have hcz18_5 : w17.cell? ⟨gb183, 5, none⟩ = some (.slice none 0 0) := (qh BK183.out 5).trans rfl; have hfz18_0 := qf BK183.out 0; have hfz18_1 := qf BK183.out 1; have hfz18_2 := qf BK183.out 2; have hfz18_3 := qf BK183.out 3; have hfz18_4 := qf BK183.out 4; have hfz18_5 := qf BK183.out 5) | ((with_reducible refine gate_store (t := 46) (p := 5) rfl ?_); refine store_event (t := 46) (p := 5) (v := ?vo_w19) (w1 := ((((((w17.setCell ⟨gb183, 0, none⟩ (.int .i64 ((qi l0 x12_1).f0))).setCell ⟨gb183, 1, none⟩ (.int .i64 ((qi l0 x12_1).f1))).setCell ⟨gb183, 2, none⟩ (.string ((qi l0 x12_1).f2))).setCell ⟨gb183, 3, none⟩ (.string ((qi l0 x12_1).f3))).setCell ⟨gb183, 4, none⟩ (.string ((qi l0 x12_1).f4))).setCell ⟨gb183, 5, none⟩ (.slice A182_5 ((qi l0 x12_1).f5).length c182_5))) ?hg ?ho ?hn ?hr ?_; (case ho => rfl); (case hg => rfl); (case hn => rfl); (case hr => exact zz6); intro w19 hw; have n0_ : qa (Kd.R (Kd.int .i64) 3 w19 w.heap.size (fun _ => True) v180 x3_1) := ⟨(by rw [hw]; exact zz175)⟩; have n1_ : qa (w19.heap[gb183]? = some (.cells #[.int .i64 ((qi l0 x12_1).f0), .int .i64 ((qi l0 x12_1).f1), .string ((qi l0 x12_1).f2), .string ((qi l0 x12_1).f3), .string ((qi l0 x12_1).f4), .slice A182_5 ((qi l0 x12_1).f5).length c182_5] 46 (0, 0))) := ⟨(by rw [hw]; exact zz190)⟩; have n2_ : qa (Below w.heap.size w w19) := ⟨(by rw [hw]; exact zz77)⟩; clear hw; clear HO_3; clear BK183; clear HB; have HO_3 := n0_; have BK183 := n1_; have HB := n2_; clear n0_ n1_ n2_; have hcz20_0 : w19.cell? ⟨gb183, 0, none⟩ = some (.int .i64 ((qi l0 x12_1).f0)) := (qh BK183.out 0).trans rfl; have hcz20_1 : w19.cell? ⟨gb183, 1, none⟩ = some (.int .i64 ((qi l0 x12_1).f1)) := (qh BK183.out 1).trans rfl; have hcz20_2 : w19.cell? ⟨gb183, 2, none⟩ = some (.string ((qi l0 x12_1).f2)) := (qh BK183.out 2).trans rfl; have hcz20_3 : w19.cell? ⟨gb183, 3, none⟩ = some (.string ((qi l0 x12_1).f3)) := (qh BK183.out 3).trans rfl; have hcz20_4 : w19.cell? ⟨gb183, 4, none⟩ = some (.string ((qi l0 x12_1).f4)) := (qh BK183.out 4).trans rfl; have hcz20_5 : w19.cell? ⟨gb183, 5, none⟩ = some (.slice A182_5 ((qi l0 x12_1).f5).length c182_5) := (qh BK183.out 5).trans rfl; have hfz20_0 := qf BK183.out 0; have hfz20_1 := qf BK183.out 1; have hfz20_2 := qf BK183.out 2; have hfz20_3 := qf BK183.out 3; have hfz20_4 := qf BK183.out 4; have hfz20_5 := qf BK183.out 5; obtain ⟨Ao21, co21, eo21⟩ := Kd.R_slice HO_3.out; subst eo21; have p184 : 0 ≤ (((qi l0 x12_1).f1) : Int) := of_decide_eq_true zz12; have q184 : ((qi l0 x12_1).f1) < (x3_1.length : Int) := of_decide_eq_true zz12; obtain ⟨ad184, e184, hx184_0⟩ := Kd.at_int (Kd.R_reads' HO_3.out).2.2 ((qi l0 x12_1).f1) p184 q184; cases e184; replace p184 := eq_true p184; replace q184 := eq_true q184; have p15 : 0 ≤ ((ji12) : Int) := of_decide_eq_true zz12; have q15 : ((ji12) : Int) < ((x3_1.length : Int) : Int) := of_decide_eq_true zz12; obtain ⟨go15, co15, eo15, gb15, gl15, cl15, HG15⟩ := Kd.R_form HO_3.out (by omega); (first | cases eo15 | (injection eo15 with ea_ en_ ec_; (first | subst ea_ | (injection ea_ with ea_; subst ea_)); subst ec_; clear en_)); have GB15 := qa.mk gb15; have GG15 := qa.mk HG15; clear gb15 gl15 HG15; (first | simp only [add_plain] at hx184_0 | skip); obtain ⟨hx15_0, hf15_0⟩ := Kd.R_celln 0 HO_3.out ((ji12) : Int) p15 q15; replace p15 := eq_true p15; replace q15 := eq_true q15; obtain ⟨hy22_, hz22_⟩ := Kd.R_celln 0 HO_3.out ((ji12) : Int) (of_decide_eq_true zz12) (of_decide_eq_true zz12); have HP22 := Kd.R_putg HO_3.out ((ji12) : Int) (wrap64 ((rd x3_1 ((qi l0 x12_1).f1)) + 1))) | ((with_reducible refine gate_store (t := 3) (p := 26) rfl ?_); refine store_event (t := 3) (p := 26) (v := ?vo_w23) (w1 := (w19.setCell ⟨go15, ((ji12) : Int).toNat, none⟩ (.int .i64 (wrap64 ((rd x3_1 ((qi l0 x12_1).f1)) + 1))))) ?hg ?ho ?hn ?hr ?_; (case ho => rfl); (case hg => rfl); (case hn => rfl); (case hr => exact zz6); intro w23 hw; have hg : w19.grownBy w23 (some go15) := (by rw [hw]; exact HP22.2); have hp_ : Kd.R (Kd.int .i64) 3 w23 w.heap.size (fun _ => True) (.slice (some ⟨go15, 0, none⟩) x3_1.length co21) y185 := (by rw [hw, Ny185.out]; exact HP22.1); clear HP22; have n0_ := qa.mk (hp_); have n1_ := qa.mk (blk_grown (g := gb183) (o := .cells #[.int .i64 ((qi l0 x12_1).f0), .int .i64 ((qi l0 x12_1).f1), .string ((qi l0 x12_1).f2), .string ((qi l0 x12_1).f3), .string ((qi l0 x12_1).f4), .slice A182_5 ((qi l0 x12_1).f5).length c182_5] 46 (0, 0)) (by (with_reducible repeat (first | refine qk ?_ _ | refine ql ?_ | refine qj ?_ _)); exact BK183.out) hg (Kd.R_ne HO_3.out BK183.out (by decide))); have n2_ := qa.mk ((by rw [hw]; exact qm (HB.out) GB15.out : Below w.heap.size w w23)); clear HO_3; clear BK183; clear HB; have HO_3 := n0_; have BK183 := n1_; have HB := n2_; clear n0_ n1_ n2_; clear hg hw hp_; have p186 : 0 ≤ ((ji12) : Int) := of_decide_eq_true zz12; have q186 : (ji12) < (y185.length : Int) := (by have h_ : ((ji12) : Int) < ((x3_1.length : Int) : Int) := of_decide_eq_true zz12; first | (have e_ := (Kd.R_reads' HO_3.out).1; omega) | simpa only [Ny185.out, List.length_set] using h_); have ql186 : (((ji12) : Int) < ((x3_1.length : Int) : Int)) = True := eq_true (of_decide_eq_true zz12); obtain ⟨ad186, e186, hx186_0⟩ := Kd.at_int (Kd.R_reads' HO_3.out).2.2 (ji12) p186 q186; obtain rfl : (⟨go15, 0, none⟩ : Addr) = ad186 := (by injection e186); (first | simp only [add_plain] at hx186_0 | simp only [add_at] at hx186_0 | simp only [Addr.add, Nat.zero_add] at hx186_0 | skip); replace p186 := eq_true p186; replace q186 := eq_true q186))
             go_ret
             exact ⟨zz143, zz77⟩
            ·rw [if_neg c16] at H
             have c16b0 : decide (64 < (rd y185 (ji12))) = false := decide_eq_false c16
             clear c16
             have H' := qa.mk H
             clear H
             have p182 : 0 ≤ (x12_1 : Int) := of_decide_eq_true zz12
             have q182 : x12_1 < (l0.length : Int) := of_decide_eq_true zz12
             obtain ⟨ad182, A182_5, c182_5, e182, hx182_0, hx182_1, hx182_2, hx182_3, hx182_4, hx182_5, hl182_5, hi182_5⟩ := at_T46 HR0.out x12_1 p182 q182
             cases e182
             replace hx182_0 := (HB.out.cell (qwc w _ hx182_0)).trans hx182_0
             replace hx182_1 := (HB.out.cell (qwc w _ hx182_1)).trans hx182_1
             replace hx182_2 := (HB.out.cell (qwc w _ hx182_2)).trans hx182_2
             replace hx182_3 := (HB.out.cell (qwc w _ hx182_3)).trans hx182_3
             replace hx182_4 := (HB.out.cell (qwc w _ hx182_4)).trans hx182_4
             replace hx182_5 := (HB.out.cell (qwc w _ hx182_5)).trans hx182_5
             have HR182_5 := qa.mk hi182_5
             have HC182_5 := qa.mk hl182_5
             clear hi182_5 hl182_5
             replace p182 := eq_true p182
             replace q182 := eq_true q182
             go_wp2_with (first | ((with_reducible refine qeb (N := 5) rfl ?_); refine qjb ?hg (N := 5) ?hd (cs := #[.int .i64 0, .int .i64 0, .string (⟨#[]⟩ : ByteArray), .string (⟨#[]⟩ : ByteArray), .string (⟨#[]⟩ : ByteArray), .slice none 0 0]) (t := 46) ?hr ?_; (case hd => rfl); (case hg => rfl); (case hr => exact zz6); intro gb183 hg w24 hbox hb; have n0_ := qa.mk (Kd.R_below zz56 hb); have n1_ := qa.mk (qp zz53 hb); have n2_ := qa.mk (hbox); have n3_ := qa.mk ((by rw [hg]; exact (qo zz53) : w.heap.size ≤ gb183)); have n4_ := qa.mk ((by rw [hg]; exact (qo zz53) : w.heap.size ≤ gb183)); clear HO_3; clear HB; have HO_3 := n0_; have HB := n1_; have BK183 := n2_; have GW183 := n3_; have GE183 := n4_; clear n0_ n1_ n2_ n3_ n4_; clear hb hbox hg; have hcz25_0 : w24.cell? ⟨gb183, 0, none⟩ = some (.int .i64 0) := (qh BK183.out 0).trans rfl; have hcz25_1 : w24.cell? ⟨gb183, 1, none⟩ = some (.int .i64 0) := (qh BK183.out 1).trans rfl; have hcz25_2 : w24.cell? ⟨gb183, 2, none⟩ = some (.string (⟨#[]⟩ : ByteArray)) := (qh BK183.out 2).trans rfl; have hcz25_3 : w24.cell? ⟨gb183, 3, none⟩ = some (.string (⟨#[]⟩ : ByteArray)) := (qh BK183.out 3).trans rfl; have hcz25_4 : w24.cell? ⟨gb183, 4, none⟩ = some (.string (⟨#[]⟩ : ByteArray)) := (qh BK183.out 4).trans rfl; have hcz25_5 : w24.cell? ⟨gb183, 5, none⟩ = some (.slice none 0 0) := (qh BK183.out 5).trans rfl; have hfz25_0 := qf BK183.out 0; have hfz25_1 := qf BK183.out 1; have hfz25_2 := qf BK183.out 2; have hfz25_3 := qf BK183.out 3; have hfz25_4 := qf BK183.out 4; have hfz25_5 := qf BK183.out 5) | ((with_reducible refine gate_store (t := 46) (p := 5) rfl ?_); refine store_event (t := 46) (p := 5) (v := ?vo_w26) (w1 := ((((((w24.setCell ⟨gb183, 0, none⟩ (.int .i64 ((qi l0 x12_1).f0))).setCell ⟨gb183, 1, none⟩ (.int .i64 ((qi l0 x12_1).f1))).setCell ⟨gb183, 2, none⟩ (.string ((qi l0 x12_1).f2))).setCell ⟨gb183, 3, none⟩ (.string ((qi l0 x12_1).f3))).setCell ⟨gb183, 4, none⟩ (.string ((qi l0 x12_1).f4))).setCell ⟨gb183, 5, none⟩ (.slice A182_5 ((qi l0 x12_1).f5).length c182_5))) ?hg ?ho ?hn ?hr ?_; (case ho => rfl); (case hg => rfl); (case hn => rfl); (case hr => exact zz6); intro w26 hw; have n0_ : qa (Kd.R (Kd.int .i64) 3 w26 w.heap.size (fun _ => True) v180 x3_1) := ⟨(by rw [hw]; exact zz175)⟩; have n1_ : qa (w26.heap[gb183]? = some (.cells #[.int .i64 ((qi l0 x12_1).f0), .int .i64 ((qi l0 x12_1).f1), .string ((qi l0 x12_1).f2), .string ((qi l0 x12_1).f3), .string ((qi l0 x12_1).f4), .slice A182_5 ((qi l0 x12_1).f5).length c182_5] 46 (0, 0))) := ⟨(by rw [hw]; exact zz190)⟩; have n2_ : qa (Below w.heap.size w w26) := ⟨(by rw [hw]; exact zz77)⟩; clear hw; clear HO_3; clear BK183; clear HB; have HO_3 := n0_; have BK183 := n1_; have HB := n2_; clear n0_ n1_ n2_; have hcz27_0 : w26.cell? ⟨gb183, 0, none⟩ = some (.int .i64 ((qi l0 x12_1).f0)) := (qh BK183.out 0).trans rfl; have hcz27_1 : w26.cell? ⟨gb183, 1, none⟩ = some (.int .i64 ((qi l0 x12_1).f1)) := (qh BK183.out 1).trans rfl; have hcz27_2 : w26.cell? ⟨gb183, 2, none⟩ = some (.string ((qi l0 x12_1).f2)) := (qh BK183.out 2).trans rfl; have hcz27_3 : w26.cell? ⟨gb183, 3, none⟩ = some (.string ((qi l0 x12_1).f3)) := (qh BK183.out 3).trans rfl; have hcz27_4 : w26.cell? ⟨gb183, 4, none⟩ = some (.string ((qi l0 x12_1).f4)) := (qh BK183.out 4).trans rfl; have hcz27_5 : w26.cell? ⟨gb183, 5, none⟩ = some (.slice A182_5 ((qi l0 x12_1).f5).length c182_5) := (qh BK183.out 5).trans rfl; have hfz27_0 := qf BK183.out 0; have hfz27_1 := qf BK183.out 1; have hfz27_2 := qf BK183.out 2; have hfz27_3 := qf BK183.out 3; have hfz27_4 := qf BK183.out 4; have hfz27_5 := qf BK183.out 5; obtain ⟨Ao28, co28, eo28⟩ := Kd.R_slice HO_3.out; subst eo28; have p184 : 0 ≤ (((qi l0 x12_1).f1) : Int) := of_decide_eq_true zz12; have q184 : ((qi l0 x12_1).f1) < (x3_1.length : Int) := of_decide_eq_true zz12; obtain ⟨ad184, e184, hx184_0⟩ := Kd.at_int (Kd.R_reads' HO_3.out).2.2 ((qi l0 x12_1).f1) p184 q184; cases e184; replace p184 := eq_true p184; replace q184 := eq_true q184; have p15 : 0 ≤ ((ji12) : Int) := of_decide_eq_true zz12; have q15 : ((ji12) : Int) < ((x3_1.length : Int) : Int) := of_decide_eq_true zz12; obtain ⟨go15, co15, eo15, gb15, gl15, cl15, HG15⟩ := Kd.R_form HO_3.out (by omega); (first | cases eo15 | (injection eo15 with ea_ en_ ec_; (first | subst ea_ | (injection ea_ with ea_; subst ea_)); subst ec_; clear en_)); have GB15 := qa.mk gb15; have GG15 := qa.mk HG15; clear gb15 gl15 HG15; (first | simp only [add_plain] at hx184_0 | skip); obtain ⟨hx15_0, hf15_0⟩ := Kd.R_celln 0 HO_3.out ((ji12) : Int) p15 q15; replace p15 := eq_true p15; replace q15 := eq_true q15; obtain ⟨hy29_, hz29_⟩ := Kd.R_celln 0 HO_3.out ((ji12) : Int) (of_decide_eq_true zz12) (of_decide_eq_true zz12); have HP29 := Kd.R_putg HO_3.out ((ji12) : Int) (wrap64 ((rd x3_1 ((qi l0 x12_1).f1)) + 1))) | ((with_reducible refine gate_store (t := 3) (p := 26) rfl ?_); refine store_event (t := 3) (p := 26) (v := ?vo_w30) (w1 := (w26.setCell ⟨go15, ((ji12) : Int).toNat, none⟩ (.int .i64 (wrap64 ((rd x3_1 ((qi l0 x12_1).f1)) + 1))))) ?hg ?ho ?hn ?hr ?_; (case ho => rfl); (case hg => rfl); (case hn => rfl); (case hr => exact zz6); intro w30 hw; have hg : w26.grownBy w30 (some go15) := (by rw [hw]; exact HP29.2); have hp_ : Kd.R (Kd.int .i64) 3 w30 w.heap.size (fun _ => True) (.slice (some ⟨go15, 0, none⟩) x3_1.length co28) y185 := (by rw [hw, Ny185.out]; exact HP29.1); clear HP29; have n0_ := qa.mk (hp_); have n1_ := qa.mk (blk_grown (g := gb183) (o := .cells #[.int .i64 ((qi l0 x12_1).f0), .int .i64 ((qi l0 x12_1).f1), .string ((qi l0 x12_1).f2), .string ((qi l0 x12_1).f3), .string ((qi l0 x12_1).f4), .slice A182_5 ((qi l0 x12_1).f5).length c182_5] 46 (0, 0)) (by (with_reducible repeat (first | refine qk ?_ _ | refine ql ?_ | refine qj ?_ _)); exact BK183.out) hg (Kd.R_ne HO_3.out BK183.out (by decide))); have n2_ := qa.mk ((by rw [hw]; exact qm (HB.out) GB15.out : Below w.heap.size w w30)); clear HO_3; clear BK183; clear HB; have HO_3 := n0_; have BK183 := n1_; have HB := n2_; clear n0_ n1_ n2_; clear hg hw hp_; have p186 : 0 ≤ ((ji12) : Int) := of_decide_eq_true zz12; have q186 : (ji12) < (y185.length : Int) := (by have h_ : ((ji12) : Int) < ((x3_1.length : Int) : Int) := of_decide_eq_true zz12; first | (have e_ := (Kd.R_reads' HO_3.out).1; omega) | simpa only [Ny185.out, List.length_set] using h_); have ql186 : (((ji12) : Int) < ((x3_1.length : Int) : Int)) = True := eq_true (of_decide_eq_true zz12); obtain ⟨ad186, e186, hx186_0⟩ := Kd.at_int (Kd.R_reads' HO_3.out).2.2 (ji12) p186 q186; obtain rfl : (⟨go15, 0, none⟩ : Addr) = ad186 := (by injection e186); (first | simp only [add_plain] at hx186_0 | simp only [add_at] at hx186_0 | simp only [Addr.add, Nat.zero_add] at hx186_0 | skip); replace p186 := eq_true p186; replace q186 := eq_true q186))
             go_roundg k1
             case measure => have := HK1.out; omega
             case rel => exact ⟨(y185), (ji12), (by first | rfl | (simp; done) | (simp only [← hji12] <;> (first | rfl | simp)) | (simp [*]; done)), H', ⟨zz2⟩, ⟨zz56⟩, ⟨zz77⟩⟩
           ·rw [if_neg c14] at H
            exact absurd H (by simp)
          ·rw [if_neg c13] at H
           exact absurd H (by simp)
         ·rw [if_neg c11] at H
          exact absurd H (by simp)
        ·rw [if_neg c10] at H
         exact absurd H (by simp)
       ·rw [if_neg c9] at H
        exact absurd H (by simp)
      ·rw [if_neg c8] at H
       exact absurd H (by simp)
     ·rw [if_neg c7] at H
      have c7b0 : decide (x12_1 < (l0.length : Int)) = false := decide_eq_false c7
      clear c7
      obtain rfl := Option.some.inj H
      go_wp2
      go_ret
      exact ⟨zz140, zz53⟩
  ·rw [if_neg c4] at H
   exact absurd H (by simp)
 ·rw [if_neg c3] at H
  exact absurd H (by simp)
def qjc.l0 : Nat → List (S46) → List Int → List (S46) → Int → Int → Option ((List (S46)))
 | 0, _, _, _, _, _ => none
 | k + 1, x0, x3, x10, x11, x12 => if x12 < x11 then (if 0 ≤ x12 then (if x12 < (x10.length : Int) then (if 0 ≤ ((qi x10 x12).f1) then (if ((qi x10 x12).f1) < (x3.length : Int) then (if 0 ≤ (wrap64 (x12 + 1)) then (if (wrap64 (x12 + 1)) < (x3.length : Int) then ((some (x3.set ((wrap64 (x12 + 1)) : Int).toNat (wrap64 ((rd x3 ((qi x10 x12).f1)) + 1)) : List Int)).bind fun y193 => (if (rd y193 (wrap64 (x12 + 1))) > 64 then (if (wrap64 (x12 + 1)) ≤ (x0.length : Int) then (some (x0.take ((wrap64 (x12 + 1)) : Int).toNat)) else (none)) else (if x12 = 4096 then (if (wrap64 (x12 + 1)) ≤ (x0.length : Int) then (some (x0.take ((wrap64 (x12 + 1)) : Int).toNat)) else (none)) else (qjc.l0 k x0 y193 x10 x11 (wrap64 (x12 + 1)))))) else (none)) else (none)) else (none)) else (none)) else (none)) else (none)) else (some x0)
def qjc.f (k : Nat) (l0 : List (S46)) : Option ((List (S46))) := if 0 ≤ (wrap64 ((l0.length : Int) + 1)) then (if (wrap64 ((l0.length : Int) + 1) : Int).toNat ≤ 35184372088832 then (qjc.l0 k l0 (List.replicate (wrap64 ((l0.length : Int) + 1) : Int).toNat 0) l0 (l0.length : Int) 0) else (none)) else (none)
theorem qjc.mono_l : ∀ k, (∀ y0 y1 y2 y3 y4, LeO (qjc.l0 k y0 y1 y2 y3 y4) (qjc.l0 (k + 1) y0 y1 y2 y3 y4))
 | 0 => fun _ _ _ _ _ r h => by simp [qjc.l0] at h
 | k + 1 => by
  have ih0 := qjc.mono_l k
  ·intro y0 y1 y2 y3 y4
   unfold qjc.l0
   repeat' first
   | (with_reducible exact ih0 _ _ _ _ _)
   | (with_reducible exact LeO.refl _)
   | (with_reducible exact LeO.none _)
   | (with_reducible refine LeO.ite ?_ ?_)
   | (with_reducible refine LeO.bind ?_ (fun _ => ?_))
   | exact ih0 _ _ _ _ _
   | exact LeO.none _
   | refine LeO.ite ?_ ?_
   | refine LeO.bind ?_ (fun _ => ?_)
theorem qjc.mono : ∀ a0 k, LeO (qjc.f k a0) (qjc.f (k + 1) a0) := by
 intro a0 k
 have ih0 := qjc.mono_l k
 unfold qjc.f
 repeat' first
   | (with_reducible exact ih0 _ _ _ _ _)
   | (with_reducible exact LeO.refl _)
   | (with_reducible exact LeO.none _)
   | (with_reducible refine LeO.ite ?_ ?_)
   | (with_reducible refine LeO.bind ?_ (fun _ => ?_))
   | exact ih0 _ _ _ _ _
   | exact LeO.none _
   | refine LeO.ite ?_ ?_
   | refine LeO.bind ?_ (fun _ => ?_)
set_option maxHeartbeats 8000000 in
set_option maxRecDepth 100000 in
theorem qjc.calls (k : Nat) (P0_ : Nat → Prop) (A0 : Option Addr) (c0 : Nat) (l0 : List (S46)) (r : List (S46)) (w : World) (hs0 : Kd.V k46 46 w w.heap.size (fun k_ => P0_ k_) (.slice A0 l0.length c0) l0) (h : qjc.f k l0 = some r) :
  Calls Tryd.prog 51 #[.slice A0 l0.length c0] w fun e w' => ∃ v0_ : Value, e = .returned (v0_) ∧ Kd.V k46 46 w' w.heap.size (fun k_ => (P0_ k_ ∨ w.heap.size ≤ k_)) v0_ r ∧ Below w.heap.size w w' := by
 have hu46 := Tryd.underlying46
 have HO0 := qa.mk (show Kd.V k46 46 w w.heap.size (fun k_ => (P0_ k_ ∨ w.heap.size ≤ k_)) (.slice A0 l0.length c0) l0 from Kd.V_mono hs0 (fun k_ hk => .inl hk))
 have HB := qa.mk (Below.refl w.heap.size w)
 have H : (if 0 ≤ (wrap64 ((l0.length : Int) + 1)) then (if (wrap64 ((l0.length : Int) + 1) : Int).toNat ≤ 35184372088832 then (qjc.l0 k l0 (List.replicate (wrap64 ((l0.length : Int) + 1) : Int).toNat 0) l0 (l0.length : Int) 0) else (none)) else (none)) = some r := h
 clear h
 obtain ⟨ji2, hji2⟩ : ∃ j_ : Int, (wrap64 ((l0.length : Int) + 1)) = j_ := ⟨_, rfl⟩
 replace H : (if 0 ≤ (ji2) then (if (ji2 : Int).toNat ≤ 35184372088832 then (qjc.l0 k l0 (List.replicate (ji2 : Int).toNat 0) l0 (l0.length : Int) 0) else (none)) else (none)) = some r := by first | (rw [hji2] at H; exact H) | (simp only [hji2] at H ⊢; exact H)
 have hji2w : (IntKind.i64.wrap ((l0.length : Int) + 1)) = ji2 := (i64_w _).trans hji2
 by_cases c3 : 0 ≤ (ji2)
 ·rw [if_pos c3] at H
  have c3b0 := eq_true c3
  have c3b1 : decide (0 ≤ (ji2)) = true := decide_eq_true c3
  clear c3
  by_cases c4 : (ji2 : Int).toNat ≤ 35184372088832
  ·rw [if_pos c4] at H
   have c4b0 := eq_true c4
   have c4b1 : decide ((ji2 : Int).toNat ≤ 35184372088832) = true := decide_eq_true c4
   clear c4
   obtain ⟨y187, hy187⟩ : ∃ y_ : List Int, y_ = (List.replicate (ji2 : Int).toNat 0) := ⟨_, rfl⟩
   replace H : (qjc.l0 k l0 y187 l0 (l0.length : Int) 0) = some r := by first | (rw [hy187]; with_reducible exact H) | (have H2_ := (Option.bind_some _ _).symm.trans H; rw [hy187]; with_reducible exact H2_) | (have H2_ := (Option.bind_some _ _).symm.trans H; with_reducible exact H2_) | with_reducible exact H | (rw [hy187]; exact H) | exact H
   have Ny187 := qa.mk hy187
   clear hy187
   have H' := qa.mk H
   clear H
   go_enter Tryd.func51, Tryd.ntmps51
   go_wp2_with (first | ((with_reducible refine qeb (N := 9) rfl ?_); refine Kd.R_make (Kd.int .i64) _ 3 rfl (N := 9) rfl 37 _ _ rfl ji2 rfl rfl Tryd.underlying37 (.int .i64 0) 8 info3 rfl (by decide) (by omega) 0 (ok := fun _ => True) (okp := fun _ => True) rfl (fun _ hk => hk) trivial (of_decide_eq_true zz12) (Nat.le_trans (Nat.mul_le_mul_right _ (of_decide_eq_true zz12 : ji2.toNat ≤ 35184372088832)) (by omega)) (Below.refl _ _) (Nat.le_refl _) ?_; intro v188 w5 ho6 hb hg_ hnew_; clear hg_ hnew_; (first | rw [← Ny187.out] at ho6 | (simp only [Int.reduceToNat] at ho6; rw [← Ny187.out] at ho6)); have n0_ := qa.mk (Kd.V_elder' zz54 (Kd.R_base ho6) hb); have n1_ := qa.mk (Kd.R_lower (Kd.R_newM (M := fun k_ => (w.heap.size ≤ k_)) ho6 (qo zz53) (fun k_ h_ => h_)) (qo zz53)); have n2_ := qa.mk (qp zz53 hb); clear HO0; clear HB; have HO0 := n0_; have HO189 := n1_; have HB := n2_; clear n0_ n1_ n2_; clear hb ho6))
   go_loopg [12] k (fun kq v12 w' => ∃ (x3_1 : List Int) (x12_1 : Int), v12 = .int .i64 x12_1 ∧ qa (qjc.l0 kq l0 x3_1 l0 (l0.length : Int) x12_1 = some r) ∧ qa (kq ≤ k) ∧ qa (Kd.V k46 46 w' w.heap.size (fun k_ => (P0_ k_ ∨ w.heap.size ≤ k_) ∧ some k_ ≠ (v188 : Value).ownBlock) (.slice A0 l0.length c0) l0) ∧ qa (Kd.R (Kd.int .i64) 3 w' w.heap.size (fun k_ => (w.heap.size ≤ k_)) v188 x3_1) ∧ qa (Kd.V k46 46 w' w.heap.size (fun k_ => (P0_ k_ ∨ w.heap.size ≤ k_) ∧ some k_ ≠ (v188 : Value).ownBlock) (.slice A0 l0.length c0) l0) ∧ qa (Below w.heap.size w w'))
   case atStart => exact ⟨(y187), (0), zz7, H', ⟨Nat.le_refl _⟩, ⟨zz54⟩, ⟨by (with_reducible repeat (first | apply Kd.R_alloc | apply Kd.R_drewN | apply Kd.R_drew)); exact Kd.R_mono HO189.out (fun _ hk => hk.1)⟩, ⟨zz54⟩, ⟨zz53⟩⟩
   case round =>
    clear H'
    try clear p2
    try clear c3
    try clear c3b0
    try clear c3b1
    try clear c4
    try clear c4b0
    try clear c4b1
    try clear c5
    try clear p6
    obtain ⟨x3_1, x12_1, rfl, HA, HK1, HO_0, HO_3, HO_10, HB⟩ := hrel
    cases gk with
    | zero => exact absurd HA.out (by simp [qjc.l0])
    | succ k1 =>
     have H := HA.out
     clear HA
     simp only [qjc.l0] at H
     by_cases c7 : x12_1 < (l0.length : Int)
     ·rw [if_pos c7] at H
      have c7b0 : decide (x12_1 < (l0.length : Int)) = true := decide_eq_true c7
      clear c7
      by_cases c8 : 0 ≤ x12_1
      ·rw [if_pos c8] at H
       have c8b0 : decide (0 ≤ x12_1) = true := decide_eq_true c8
       clear c8
       by_cases c9 : x12_1 < (l0.length : Int)
       ·rw [if_pos c9] at H
        have c9b0 : decide (x12_1 < (l0.length : Int)) = true := decide_eq_true c9
        clear c9
        by_cases c10 : 0 ≤ ((qi l0 x12_1).f1)
        ·rw [if_pos c10] at H
         have c10b0 : decide (0 ≤ ((qi l0 x12_1).f1)) = true := decide_eq_true c10
         clear c10
         by_cases c11 : ((qi l0 x12_1).f1) < (x3_1.length : Int)
         ·rw [if_pos c11] at H
          have c11b0 : decide (((qi l0 x12_1).f1) < (x3_1.length : Int)) = true := decide_eq_true c11
          clear c11
          obtain ⟨ji12, hji12⟩ : ∃ j_ : Int, (wrap64 (x12_1 + 1)) = j_ := ⟨_, rfl⟩
          replace H : (if 0 ≤ (ji12) then (if (ji12) < (x3_1.length : Int) then ((some (x3_1.set ((ji12) : Int).toNat (wrap64 ((rd x3_1 ((qi l0 x12_1).f1)) + 1)) : List Int)).bind fun y193 => (if (rd y193 (ji12)) > 64 then (if (ji12) ≤ (l0.length : Int) then (some (l0.take ((ji12) : Int).toNat)) else (none)) else (if x12_1 = 4096 then (if (ji12) ≤ (l0.length : Int) then (some (l0.take ((ji12) : Int).toNat)) else (none)) else (qjc.l0 k1 l0 y193 l0 (l0.length : Int) ji12)))) else (none)) else (none)) = some r := by first | (rw [hji12] at H; exact H) | (simp only [hji12] at H ⊢; exact H)
          have hji12w : (IntKind.i64.wrap (x12_1 + 1)) = ji12 := (i64_w _).trans hji12
          by_cases c13 : 0 ≤ (ji12)
          ·rw [if_pos c13] at H
           have c13b0 : decide (0 ≤ (ji12)) = true := decide_eq_true c13
           clear c13
           by_cases c14 : (ji12) < (x3_1.length : Int)
           ·rw [if_pos c14] at H
            have c14b0 : decide ((ji12) < (x3_1.length : Int)) = true := decide_eq_true c14
            clear c14
            obtain ⟨y193, hy193⟩ : ∃ y_ : List Int, y_ = (x3_1.set ((ji12) : Int).toNat (wrap64 ((rd x3_1 ((qi l0 x12_1).f1)) + 1))) := ⟨_, rfl⟩
            replace H : (if (rd y193 (ji12)) > 64 then (if (ji12) ≤ (l0.length : Int) then (some (l0.take ((ji12) : Int).toNat)) else (none)) else (if x12_1 = 4096 then (if (ji12) ≤ (l0.length : Int) then (some (l0.take ((ji12) : Int).toNat)) else (none)) else (qjc.l0 k1 l0 y193 l0 (l0.length : Int) ji12))) = some r := by first | (rw [hy193]; with_reducible exact H) | (have H2_ := (Option.bind_some _ _).symm.trans H; rw [hy193]; with_reducible exact H2_) | (have H2_ := (Option.bind_some _ _).symm.trans H; with_reducible exact H2_) | with_reducible exact H | (rw [hy193]; exact H) | exact H
            have Ny193 := qa.mk hy193
            clear hy193
            by_cases c16 : (rd y193 (ji12)) > 64
            ·rw [if_pos c16] at H
             have c16b0 : decide (64 < (rd y193 (ji12))) = true := decide_eq_true c16
             clear c16
             have c17b0 := eq_true (of_decide_eq_true zz12 : 0 ≤ (ji12))
             by_cases c18 : (ji12) ≤ (l0.length : Int)
             ·rw [if_pos c18] at H
              have c18b0 := eq_true c18
              have c18b1 : decide ((ji12) ≤ (l0.length : Int)) = true := decide_eq_true c18
              clear c18
              obtain ⟨y195, hy195⟩ : ∃ y_ : List (S46), y_ = (l0.take ((ji12) : Int).toNat) := ⟨_, rfl⟩
              replace H : (some y195) = some r := by first | (rw [hy195]; with_reducible exact H) | (have H2_ := (Option.bind_some _ _).symm.trans H; rw [hy195]; with_reducible exact H2_) | (have H2_ := (Option.bind_some _ _).symm.trans H; with_reducible exact H2_) | with_reducible exact H | (rw [hy195]; exact H) | exact H
              have Ny195 := qa.mk hy195
              clear hy195
              obtain rfl := Option.some.inj H
              have p190 : 0 ≤ (x12_1 : Int) := of_decide_eq_true zz12
              have q190 : x12_1 < (l0.length : Int) := of_decide_eq_true zz12
              obtain ⟨ad190, A190_5, c190_5, e190, hx190_0, hx190_1, hx190_2, hx190_3, hx190_4, hx190_5, hl190_5, hi190_5⟩ := at_T46 (Kd.V_reads' HO_10.out).2.2 x12_1 p190 q190
              cases e190
              obtain ⟨ce190, hce190, hMe190, hcc190⟩ := Kd.V_get HO_10.out z46 x12_1 p190 zz99
              obtain ⟨ua190_5, uc190_5, rfl, ul190_5, ge190_5⟩ := k46_openF hMe190
              have hv190_5 := hcc190 5 _ rfl
              rw [qqc _ _ 5 (by omega)] at hv190_5
              replace hv190_5 := Option.some.inj (hv190_5.symm.trans hx190_5)
              injection hv190_5 with hva_ hvn_ hvc_
              rw [hva_] at ge190_5
              rw [hvc_] at ul190_5
              have HL190_5 := qa.mk (show Kd.V k48 48 _ w.heap.size _ _ ((qi l0 x12_1).f5) from Kd.V_mk ul190_5 ge190_5)
              clear hva_ hvn_ hvc_ ge190_5 ul190_5
              clear hcc190 hce190
              have HR190_5 := qa.mk hi190_5
              have HC190_5 := qa.mk hl190_5
              clear hi190_5 hl190_5
              replace p190 := eq_true p190
              replace q190 := eq_true q190
              go_wp2_with (first | ((with_reducible refine qeb (N := 5) rfl ?_); refine qjb ?hg (N := 5) ?hd (cs := #[.int .i64 0, .int .i64 0, .string (⟨#[]⟩ : ByteArray), .string (⟨#[]⟩ : ByteArray), .string (⟨#[]⟩ : ByteArray), .slice none 0 0]) (t := 46) ?hr ?_; (case hd => rfl); (case hg => rfl); (case hr => exact zz6); intro gb191 hg w19 hbox hb; have n0_ := qa.mk (Kd.V_below (Kd.V_elderB zz57 gb191 (Nat.le_of_eq hg.symm)) hb); have n1_ := qa.mk (Kd.R_below zz56 hb); have n2_ := qa.mk (Kd.V_below (Kd.V_elderB zz60 gb191 (Nat.le_of_eq hg.symm)) hb); have n3_ := qa.mk (Kd.V_below (Kd.V_elderB zz66 gb191 (Nat.le_of_eq hg.symm)) hb); have n4_ := qa.mk (Kd.C_below zz136 hb); have n5_ := qa.mk (qp zz53 hb); have n6_ := qa.mk (hbox); have n7_ := qa.mk ((by rw [hg]; exact (qo zz53) : w.heap.size ≤ gb191)); have n8_ := qa.mk ((by rw [hg]; exact (qo zz53) : w.heap.size ≤ gb191)); clear HO_0; clear HO_3; clear HO_10; clear HL190_5; clear HR190_5; clear HB; have HO_0 := n0_; have HO_3 := n1_; have HO_10 := n2_; have HL190_5 := n3_; have HR190_5 := n4_; have HB := n5_; have BK191 := n6_; have GW191 := n7_; have GE191 := n8_; clear n0_ n1_ n2_ n3_ n4_ n5_ n6_ n7_ n8_; clear hb hbox hg; have hcz20_0 : w19.cell? ⟨gb191, 0, none⟩ = some (.int .i64 0) := (qh BK191.out 0).trans rfl; have hcz20_1 : w19.cell? ⟨gb191, 1, none⟩ = some (.int .i64 0) := (qh BK191.out 1).trans rfl; have hcz20_2 : w19.cell? ⟨gb191, 2, none⟩ = some (.string (⟨#[]⟩ : ByteArray)) := (qh BK191.out 2).trans rfl; have hcz20_3 : w19.cell? ⟨gb191, 3, none⟩ = some (.string (⟨#[]⟩ : ByteArray)) := (qh BK191.out 3).trans rfl; have hcz20_4 : w19.cell? ⟨gb191, 4, none⟩ = some (.string (⟨#[]⟩ : ByteArray)) := (qh BK191.out 4).trans rfl; have hcz20_5 : w19.cell? ⟨gb191, 5, none⟩ = some (.slice none 0 0) := (qh BK191.out 5).trans rfl; have hfz20_0 := qf BK191.out 0; have hfz20_1 := qf BK191.out 1; have hfz20_2 := qf BK191.out 2; have hfz20_3 := qf BK191.out 3; have hfz20_4 := qf BK191.out 4; have hfz20_5 := qf BK191.out 5) | ((with_reducible refine gate_store (t := 46) (p := 5) rfl ?_); refine store_event (t := 46) (p := 5) (v := ?vo_w21) (w1 := ((((((w19.setCell ⟨gb191, 0, none⟩ (.int .i64 ((qi l0 x12_1).f0))).setCell ⟨gb191, 1, none⟩ (.int .i64 ((qi l0 x12_1).f1))).setCell ⟨gb191, 2, none⟩ (.string ((qi l0 x12_1).f2))).setCell ⟨gb191, 3, none⟩ (.string ((qi l0 x12_1).f3))).setCell ⟨gb191, 4, none⟩ (.string ((qi l0 x12_1).f4))).setCell ⟨gb191, 5, none⟩ (.slice A190_5 ((qi l0 x12_1).f5).length c190_5))) ?hg ?ho ?hn ?hr ?_; (case ho => rfl); (case hg => rfl); (case hn => rfl); (case hr => exact zz6); intro w21 hw; have n0_ : qa (Kd.V k46 46 w21 w.heap.size (fun k_ => (P0_ k_ ∨ w.heap.size ≤ k_) ∧ some k_ ≠ (v188 : Value).ownBlock ∧ k_ ≠ gb191) (.slice (some ad190) l0.length c0) l0) := ⟨(by rw [hw]; exact zz178)⟩; have n1_ : qa (Kd.R (Kd.int .i64) 3 w21 w.heap.size (fun k_ => (w.heap.size ≤ k_)) v188 x3_1) := ⟨(by rw [hw]; exact zz174)⟩; have n2_ : qa (Kd.V k46 46 w21 w.heap.size (fun k_ => (P0_ k_ ∨ w.heap.size ≤ k_) ∧ some k_ ≠ (v188 : Value).ownBlock ∧ k_ ≠ gb191) (.slice (some ad190) l0.length c0) l0) := ⟨(by rw [hw]; exact zz179)⟩; have n3_ : qa (Kd.V k48 48 w21 w.heap.size (fun k_ => (P0_ k_ ∨ w.heap.size ≤ k_) ∧ some k_ ≠ (v188 : Value).ownBlock ∧ k_ ≠ gb191) (.slice A190_5 ((qi l0 x12_1).f5).length c190_5) ((qi l0 x12_1).f5)) := ⟨(by rw [hw]; exact zz180)⟩; have n4_ : qa (w21.heap[gb191]? = some (.cells #[.int .i64 ((qi l0 x12_1).f0), .int .i64 ((qi l0 x12_1).f1), .string ((qi l0 x12_1).f2), .string ((qi l0 x12_1).f3), .string ((qi l0 x12_1).f4), .slice A190_5 ((qi l0 x12_1).f5).length c190_5] 46 (0, 0))) := ⟨(by rw [hw]; exact zz191)⟩; have n5_ : qa (Below w.heap.size w w21) := ⟨(by rw [hw]; exact zz78)⟩; clear hw; clear HO_0; clear HO_3; clear HO_10; clear HL190_5; clear BK191; clear HB; have HO_0 := n0_; have HO_3 := n1_; have HO_10 := n2_; have HL190_5 := n3_; have BK191 := n4_; have HB := n5_; clear n0_ n1_ n2_ n3_ n4_ n5_; have hcz22_0 : w21.cell? ⟨gb191, 0, none⟩ = some (.int .i64 ((qi l0 x12_1).f0)) := (qh BK191.out 0).trans rfl; have hcz22_1 : w21.cell? ⟨gb191, 1, none⟩ = some (.int .i64 ((qi l0 x12_1).f1)) := (qh BK191.out 1).trans rfl; have hcz22_2 : w21.cell? ⟨gb191, 2, none⟩ = some (.string ((qi l0 x12_1).f2)) := (qh BK191.out 2).trans rfl; have hcz22_3 : w21.cell? ⟨gb191, 3, none⟩ = some (.string ((qi l0 x12_1).f3)) := (qh BK191.out 3).trans rfl; have hcz22_4 : w21.cell? ⟨gb191, 4, none⟩ = some (.string ((qi l0 x12_1).f4)) := (qh BK191.out 4).trans rfl; have hcz22_5 : w21.cell? ⟨gb191, 5, none⟩ = some (.slice A190_5 ((qi l0 x12_1).f5).length c190_5) := (qh BK191.out 5).trans rfl; have hfz22_0 := qf BK191.out 0; have hfz22_1 := qf BK191.out 1; have hfz22_2 := qf BK191.out 2; have hfz22_3 := qf BK191.out 3; have hfz22_4 := qf BK191.out 4; have hfz22_5 := qf BK191.out 5; obtain ⟨Ao23, co23, eo23⟩ := Kd.R_slice HO_3.out; subst eo23; have p192 : 0 ≤ (((qi l0 x12_1).f1) : Int) := of_decide_eq_true zz12; have q192 : ((qi l0 x12_1).f1) < (x3_1.length : Int) := of_decide_eq_true zz12; obtain ⟨ad192, e192, hx192_0⟩ := Kd.at_int (Kd.R_reads' HO_3.out).2.2 ((qi l0 x12_1).f1) p192 q192; cases e192; replace p192 := eq_true p192; replace q192 := eq_true q192; have p15 : 0 ≤ ((ji12) : Int) := of_decide_eq_true zz12; have q15 : ((ji12) : Int) < ((x3_1.length : Int) : Int) := of_decide_eq_true zz12; obtain ⟨go15, co15, eo15, gb15, gl15, cl15, HG15⟩ := Kd.R_form HO_3.out (by omega); (first | cases eo15 | (injection eo15 with ea_ en_ ec_; (first | subst ea_ | (injection ea_ with ea_; subst ea_)); subst ec_; clear en_)); have GB15 := qa.mk gb15; have GG15 := qa.mk HG15; clear gb15 gl15 HG15; (first | simp only [add_plain] at hx192_0 | skip); obtain ⟨hx15_0, hf15_0⟩ := Kd.R_celln 0 HO_3.out ((ji12) : Int) p15 q15; replace p15 := eq_true p15; replace q15 := eq_true q15; obtain ⟨hy24_, hz24_⟩ := Kd.R_celln 0 HO_3.out ((ji12) : Int) (of_decide_eq_true zz12) (of_decide_eq_true zz12); have HP24 := Kd.R_putg HO_3.out ((ji12) : Int) (wrap64 ((rd x3_1 ((qi l0 x12_1).f1)) + 1))) | ((with_reducible refine gate_store (t := 3) (p := 26) rfl ?_); refine store_event (t := 3) (p := 26) (v := ?vo_w25) (w1 := (w21.setCell ⟨go15, ((ji12) : Int).toNat, none⟩ (.int .i64 (wrap64 ((rd x3_1 ((qi l0 x12_1).f1)) + 1))))) ?hg ?ho ?hn ?hr ?_; (case ho => rfl); (case hg => rfl); (case hn => rfl); (case hr => exact zz6); intro w25 hw; have hg : w21.grownBy w25 (some go15) := (by rw [hw]; exact HP24.2); have hp_ : Kd.R (Kd.int .i64) 3 w25 w.heap.size (fun k_ => (w.heap.size ≤ k_)) (.slice (some ⟨go15, 0, none⟩) x3_1.length co23) y193 := (by rw [hw, Ny193.out]; exact HP24.1); clear HP24; have n0_ := qa.mk (Kd.V_afterv (v := (.slice (some ⟨go15, 0, none⟩) x3_1.length co23)) (v1 := (.slice (some ⟨go15, 0, none⟩) x3_1.length co23)) (ok := (fun k_ => (P0_ k_ ∨ w.heap.size ≤ k_) ∧ k_ ≠ gb191)) zz104 hg (.inl rfl)); have n1_ := qa.mk (hp_); have n2_ := qa.mk (Kd.V_afterv (v := (.slice (some ⟨go15, 0, none⟩) x3_1.length co23)) (v1 := (.slice (some ⟨go15, 0, none⟩) x3_1.length co23)) (ok := (fun k_ => (P0_ k_ ∨ w.heap.size ≤ k_) ∧ k_ ≠ gb191)) zz110 hg (.inl rfl)); have n3_ := qa.mk (Kd.V_afterv (v := (.slice (some ⟨go15, 0, none⟩) x3_1.length co23)) (v1 := (.slice (some ⟨go15, 0, none⟩) x3_1.length co23)) (ok := (fun k_ => (P0_ k_ ∨ w.heap.size ≤ k_) ∧ k_ ≠ gb191)) zz112 hg (.inl rfl)); have n4_ := qa.mk (blk_grown (g := gb191) (o := .cells #[.int .i64 ((qi l0 x12_1).f0), .int .i64 ((qi l0 x12_1).f1), .string ((qi l0 x12_1).f2), .string ((qi l0 x12_1).f3), .string ((qi l0 x12_1).f4), .slice A190_5 ((qi l0 x12_1).f5).length c190_5] 46 (0, 0)) zz43 hg (Kd.R_ne HO_3.out BK191.out (by decide))); have n5_ := qa.mk ((by rw [hw]; exact qm (HB.out) GB15.out : Below w.heap.size w w25)); clear HO_0; clear HO_3; clear HO_10; clear HL190_5; clear BK191; clear HB; have HO_0 := n0_; have HO_3 := n1_; have HO_10 := n2_; have HL190_5 := n3_; have BK191 := n4_; have HB := n5_; clear n0_ n1_ n2_ n3_ n4_ n5_; clear hg hw hp_; have p194 : 0 ≤ ((ji12) : Int) := of_decide_eq_true zz12; have q194 : (ji12) < (y193.length : Int) := (by have h_ : ((ji12) : Int) < ((x3_1.length : Int) : Int) := of_decide_eq_true zz12; first | (have e_ := (Kd.R_reads' HO_3.out).1; omega) | simpa only [Ny193.out, List.length_set] using h_); have ql194 : (((ji12) : Int) < ((x3_1.length : Int) : Int)) = True := eq_true (of_decide_eq_true zz12); obtain ⟨ad194, e194, hx194_0⟩ := Kd.at_int (Kd.R_reads' HO_3.out).2.2 (ji12) p194 q194; obtain rfl : (⟨go15, 0, none⟩ : Addr) = ad194 := (by injection e194); (first | simp only [add_plain] at hx194_0 | simp only [add_at] at hx194_0 | simp only [Addr.add, Nat.zero_add] at hx194_0 | skip); replace p194 := eq_true p194; replace q194 := eq_true q194; have q26 : ((ji12) : Int) ≤ ((l0.length : Int) : Int) := of_decide_eq_true zz12; obtain ⟨i026, hi026, _, hsz26, _⟩ := info_parts info46; have hroom26 : l0.length ≤ c0 := (Kd.V_reads' HO_0.out).2.1; have hC26 : Kd.F k46 _ _ (some ad190) l0.length l0 := (Kd.V_at (base := w.heap.size) HO_0.out).2.2; have hcut26 := cut_to (P := Tryd.prog) 34 46 .i64 Tryd.underlying34 hi026 (some ad190) l0.length c0 (ji12) (of_decide_eq_true zz12) q26 hroom26; have hr26 := Kd.F_take (m := ((ji12) : Int).toNat) hC26 (by omega); have hy26 : y195.length = ((ji12) : Int).toNat := (by rw [Ny195.out, List.length_take]; omega); rw [← Ny195.out] at hr26; rw [← hy26] at hcut26; have HO199 := qa.mk (show Kd.V k46 46 _ w.heap.size _ (.slice (some ad190) y195.length c0) y195 from Kd.V_mk (by omega) hr26); have HC199 := qa.mk (show y195.length ≤ c0 from by omega); clear hr26 hC26 hroom26 hi026 hsz26; have KY26 := qa.mk hy26; clear hy26; replace q26 := eq_true q26))
              go_ret
              exact ⟨_, zz143, by (with_reducible repeat (first | apply Kd.V_alloc | apply Kd.V_drewN | apply Kd.V_drew)); exact Kd.V_mono HO199.out (fun _ hk => hk.1.1), zz78⟩
             ·rw [if_neg c18] at H
              exact absurd H (by simp)
            ·rw [if_neg c16] at H
             have c16b0 : decide (64 < (rd y193 (ji12))) = false := decide_eq_false c16
             clear c16
             by_cases c27 : x12_1 = 4096
             ·rw [if_pos c27] at H
              have c27b0 : (x12_1 == 4096) = true := beq_iff_eq.mpr c27
              have c27b1 : (x12_1 != 4096) = false := bne_eq_false_iff_eq.mpr c27
              clear c27
              have c28b0 := eq_true (of_decide_eq_true zz12 : 0 ≤ (ji12))
              by_cases c29 : (ji12) ≤ (l0.length : Int)
              ·rw [if_pos c29] at H
               have c29b0 := eq_true c29
               have c29b1 : decide ((ji12) ≤ (l0.length : Int)) = true := decide_eq_true c29
               clear c29
               obtain ⟨y200, hy200⟩ : ∃ y_ : List (S46), y_ = (l0.take ((ji12) : Int).toNat) := ⟨_, rfl⟩
               replace H : (some y200) = some r := by first | (rw [hy200]; with_reducible exact H) | (have H2_ := (Option.bind_some _ _).symm.trans H; rw [hy200]; with_reducible exact H2_) | (have H2_ := (Option.bind_some _ _).symm.trans H; with_reducible exact H2_) | with_reducible exact H | (rw [hy200]; exact H) | exact H
               have Ny200 := qa.mk hy200
               clear hy200
               obtain rfl := Option.some.inj H
               have p190 : 0 ≤ (x12_1 : Int) := of_decide_eq_true zz12
               have q190 : x12_1 < (l0.length : Int) := of_decide_eq_true zz12
               obtain ⟨ad190, A190_5, c190_5, e190, hx190_0, hx190_1, hx190_2, hx190_3, hx190_4, hx190_5, hl190_5, hi190_5⟩ := at_T46 (Kd.V_reads' HO_10.out).2.2 x12_1 p190 q190
               cases e190
               obtain ⟨ce190, hce190, hMe190, hcc190⟩ := Kd.V_get HO_10.out z46 x12_1 p190 zz99
               obtain ⟨ua190_5, uc190_5, rfl, ul190_5, ge190_5⟩ := k46_openF hMe190
               have hv190_5 := hcc190 5 _ rfl
               rw [qqc _ _ 5 (by omega)] at hv190_5
               replace hv190_5 := Option.some.inj (hv190_5.symm.trans hx190_5)
               injection hv190_5 with hva_ hvn_ hvc_
               rw [hva_] at ge190_5
               rw [hvc_] at ul190_5
               have HL190_5 := qa.mk (show Kd.V k48 48 _ w.heap.size _ _ ((qi l0 x12_1).f5) from Kd.V_mk ul190_5 ge190_5)
               clear hva_ hvn_ hvc_ ge190_5 ul190_5
               clear hcc190 hce190
               have HR190_5 := qa.mk hi190_5
               have HC190_5 := qa.mk hl190_5
               clear hi190_5 hl190_5
               replace p190 := eq_true p190
               replace q190 := eq_true q190
               go_wp2_with (first | ((with_reducible refine qeb (N := 5) rfl ?_); refine qjb ?hg (N := 5) ?hd (cs := #[.int .i64 0, .int .i64 0, .string (⟨#[]⟩ : ByteArray), .string (⟨#[]⟩ : ByteArray), .string (⟨#[]⟩ : ByteArray), .slice none 0 0]) (t := 46) ?hr ?_; (case hd => rfl); (case hg => rfl); (case hr => exact zz6); intro gb191 hg w30 hbox hb; have n0_ := qa.mk (Kd.V_below (Kd.V_elderB zz57 gb191 (Nat.le_of_eq hg.symm)) hb); have n1_ := qa.mk (Kd.R_below zz56 hb); have n2_ := qa.mk (Kd.V_below (Kd.V_elderB zz60 gb191 (Nat.le_of_eq hg.symm)) hb); have n3_ := qa.mk (Kd.V_below (Kd.V_elderB zz66 gb191 (Nat.le_of_eq hg.symm)) hb); have n4_ := qa.mk (Kd.C_below zz136 hb); have n5_ := qa.mk (qp zz53 hb); have n6_ := qa.mk (hbox); have n7_ := qa.mk ((by rw [hg]; exact (qo zz53) : w.heap.size ≤ gb191)); have n8_ := qa.mk ((by rw [hg]; exact (qo zz53) : w.heap.size ≤ gb191)); clear HO_0; clear HO_3; clear HO_10; clear HL190_5; clear HR190_5; clear HB; have HO_0 := n0_; have HO_3 := n1_; have HO_10 := n2_; have HL190_5 := n3_; have HR190_5 := n4_; have HB := n5_; have BK191 := n6_; have GW191 := n7_; have GE191 := n8_; clear n0_ n1_ n2_ n3_ n4_ n5_ n6_ n7_ n8_; clear hb hbox hg; have hcz31_0 : w30.cell? ⟨gb191, 0, none⟩ = some (.int .i64 0) := (qh BK191.out 0).trans rfl; have hcz31_1 : w30.cell? ⟨gb191, 1, none⟩ = some (.int .i64 0) := (qh BK191.out 1).trans rfl; have hcz31_2 : w30.cell? ⟨gb191, 2, none⟩ = some (.string (⟨#[]⟩ : ByteArray)) := (qh BK191.out 2).trans rfl; have hcz31_3 : w30.cell? ⟨gb191, 3, none⟩ = some (.string (⟨#[]⟩ : ByteArray)) := (qh BK191.out 3).trans rfl; have hcz31_4 : w30.cell? ⟨gb191, 4, none⟩ = some (.string (⟨#[]⟩ : ByteArray)) := (qh BK191.out 4).trans rfl; have hcz31_5 : w30.cell? ⟨gb191, 5, none⟩ = some (.slice none 0 0) := (qh BK191.out 5).trans rfl; have hfz31_0 := qf BK191.out 0; have hfz31_1 := qf BK191.out 1; have hfz31_2 := qf BK191.out 2; have hfz31_3 := qf BK191.out 3; have hfz31_4 := qf BK191.out 4; have hfz31_5 := qf BK191.out 5) | ((with_reducible refine gate_store (t := 46) (p := 5) rfl ?_); refine store_event (t := 46) (p := 5) (v := ?vo_w32) (w1 := ((((((w30.setCell ⟨gb191, 0, none⟩ (.int .i64 ((qi l0 x12_1).f0))).setCell ⟨gb191, 1, none⟩ (.int .i64 ((qi l0 x12_1).f1))).setCell ⟨gb191, 2, none⟩ (.string ((qi l0 x12_1).f2))).setCell ⟨gb191, 3, none⟩ (.string ((qi l0 x12_1).f3))).setCell ⟨gb191, 4, none⟩ (.string ((qi l0 x12_1).f4))).setCell ⟨gb191, 5, none⟩ (.slice A190_5 ((qi l0 x12_1).f5).length c190_5))) ?hg ?ho ?hn ?hr ?_; (case ho => rfl); (case hg => rfl); (case hn => rfl); (case hr => exact zz6); intro w32 hw; have n0_ : qa (Kd.V k46 46 w32 w.heap.size (fun k_ => (P0_ k_ ∨ w.heap.size ≤ k_) ∧ some k_ ≠ (v188 : Value).ownBlock ∧ k_ ≠ gb191) (.slice (some ad190) l0.length c0) l0) := ⟨(by rw [hw]; exact zz178)⟩; have n1_ : qa (Kd.R (Kd.int .i64) 3 w32 w.heap.size (fun k_ => (w.heap.size ≤ k_)) v188 x3_1) := ⟨(by rw [hw]; exact zz174)⟩; have n2_ : qa (Kd.V k46 46 w32 w.heap.size (fun k_ => (P0_ k_ ∨ w.heap.size ≤ k_) ∧ some k_ ≠ (v188 : Value).ownBlock ∧ k_ ≠ gb191) (.slice (some ad190) l0.length c0) l0) := ⟨(by rw [hw]; exact zz179)⟩; have n3_ : qa (Kd.V k48 48 w32 w.heap.size (fun k_ => (P0_ k_ ∨ w.heap.size ≤ k_) ∧ some k_ ≠ (v188 : Value).ownBlock ∧ k_ ≠ gb191) (.slice A190_5 ((qi l0 x12_1).f5).length c190_5) ((qi l0 x12_1).f5)) := ⟨(by rw [hw]; exact zz180)⟩; have n4_ : qa (w32.heap[gb191]? = some (.cells #[.int .i64 ((qi l0 x12_1).f0), .int .i64 ((qi l0 x12_1).f1), .string ((qi l0 x12_1).f2), .string ((qi l0 x12_1).f3), .string ((qi l0 x12_1).f4), .slice A190_5 ((qi l0 x12_1).f5).length c190_5] 46 (0, 0))) := ⟨(by rw [hw]; exact zz191)⟩; have n5_ : qa (Below w.heap.size w w32) := ⟨(by rw [hw]; exact zz78)⟩; clear hw; clear HO_0; clear HO_3; clear HO_10; clear HL190_5; clear BK191; clear HB; have HO_0 := n0_; have HO_3 := n1_; have HO_10 := n2_; have HL190_5 := n3_; have BK191 := n4_; have HB := n5_; clear n0_ n1_ n2_ n3_ n4_ n5_; have hcz33_0 : w32.cell? ⟨gb191, 0, none⟩ = some (.int .i64 ((qi l0 x12_1).f0)) := (qh BK191.out 0).trans rfl; have hcz33_1 : w32.cell? ⟨gb191, 1, none⟩ = some (.int .i64 ((qi l0 x12_1).f1)) := (qh BK191.out 1).trans rfl; have hcz33_2 : w32.cell? ⟨gb191, 2, none⟩ = some (.string ((qi l0 x12_1).f2)) := (qh BK191.out 2).trans rfl; have hcz33_3 : w32.cell? ⟨gb191, 3, none⟩ = some (.string ((qi l0 x12_1).f3)) := (qh BK191.out 3).trans rfl; have hcz33_4 : w32.cell? ⟨gb191, 4, none⟩ = some (.string ((qi l0 x12_1).f4)) := (qh BK191.out 4).trans rfl; have hcz33_5 : w32.cell? ⟨gb191, 5, none⟩ = some (.slice A190_5 ((qi l0 x12_1).f5).length c190_5) := (qh BK191.out 5).trans rfl; have hfz33_0 := qf BK191.out 0; have hfz33_1 := qf BK191.out 1; have hfz33_2 := qf BK191.out 2; have hfz33_3 := qf BK191.out 3; have hfz33_4 := qf BK191.out 4; have hfz33_5 := qf BK191.out 5; obtain ⟨Ao34, co34, eo34⟩ := Kd.R_slice HO_3.out; subst eo34; have p192 : 0 ≤ (((qi l0 x12_1).f1) : Int) := of_decide_eq_true zz12; have q192 : ((qi l0 x12_1).f1) < (x3_1.length : Int) := of_decide_eq_true zz12; obtain ⟨ad192, e192, hx192_0⟩ := Kd.at_int (Kd.R_reads' HO_3.out).2.2 ((qi l0 x12_1).f1) p192 q192; cases e192; replace p192 := eq_true p192; replace q192 := eq_true q192; have p15 : 0 ≤ ((ji12) : Int) := of_decide_eq_true zz12; have q15 : ((ji12) : Int) < ((x3_1.length : Int) : Int) := of_decide_eq_true zz12; obtain ⟨go15, co15, eo15, gb15, gl15, cl15, HG15⟩ := Kd.R_form HO_3.out (by omega); (first | cases eo15 | (injection eo15 with ea_ en_ ec_; (first | subst ea_ | (injection ea_ with ea_; subst ea_)); subst ec_; clear en_)); have GB15 := qa.mk gb15; have GG15 := qa.mk HG15; clear gb15 gl15 HG15; (first | simp only [add_plain] at hx192_0 | skip); obtain ⟨hx15_0, hf15_0⟩ := Kd.R_celln 0 HO_3.out ((ji12) : Int) p15 q15; replace p15 := eq_true p15; replace q15 := eq_true q15; obtain ⟨hy35_, hz35_⟩ := Kd.R_celln 0 HO_3.out ((ji12) : Int) (of_decide_eq_true zz12) (of_decide_eq_true zz12); have HP35 := Kd.R_putg HO_3.out ((ji12) : Int) (wrap64 ((rd x3_1 ((qi l0 x12_1).f1)) + 1))) | ((with_reducible refine gate_store (t := 3) (p := 26) rfl ?_); refine store_event (t := 3) (p := 26) (v := ?vo_w36) (w1 := (w32.setCell ⟨go15, ((ji12) : Int).toNat, none⟩ (.int .i64 (wrap64 ((rd x3_1 ((qi l0 x12_1).f1)) + 1))))) ?hg ?ho ?hn ?hr ?_; (case ho => rfl); (case hg => rfl); (case hn => rfl); (case hr => exact zz6); intro w36 hw; have hg : w32.grownBy w36 (some go15) := (by rw [hw]; exact HP35.2); have hp_ : Kd.R (Kd.int .i64) 3 w36 w.heap.size (fun k_ => (w.heap.size ≤ k_)) (.slice (some ⟨go15, 0, none⟩) x3_1.length co34) y193 := (by rw [hw, Ny193.out]; exact HP35.1); clear HP35; have n0_ := qa.mk (Kd.V_afterv (v := (.slice (some ⟨go15, 0, none⟩) x3_1.length co34)) (v1 := (.slice (some ⟨go15, 0, none⟩) x3_1.length co34)) (ok := (fun k_ => (P0_ k_ ∨ w.heap.size ≤ k_) ∧ k_ ≠ gb191)) zz104 hg (.inl rfl)); have n1_ := qa.mk (hp_); have n2_ := qa.mk (Kd.V_afterv (v := (.slice (some ⟨go15, 0, none⟩) x3_1.length co34)) (v1 := (.slice (some ⟨go15, 0, none⟩) x3_1.length co34)) (ok := (fun k_ => (P0_ k_ ∨ w.heap.size ≤ k_) ∧ k_ ≠ gb191)) zz110 hg (.inl rfl)); have n3_ := qa.mk (Kd.V_afterv (v := (.slice (some ⟨go15, 0, none⟩) x3_1.length co34)) (v1 := (.slice (some ⟨go15, 0, none⟩) x3_1.length co34)) (ok := (fun k_ => (P0_ k_ ∨ w.heap.size ≤ k_) ∧ k_ ≠ gb191)) zz112 hg (.inl rfl)); have n4_ := qa.mk (blk_grown (g := gb191) (o := .cells #[.int .i64 ((qi l0 x12_1).f0), .int .i64 ((qi l0 x12_1).f1), .string ((qi l0 x12_1).f2), .string ((qi l0 x12_1).f3), .string ((qi l0 x12_1).f4), .slice A190_5 ((qi l0 x12_1).f5).length c190_5] 46 (0, 0)) zz43 hg (Kd.R_ne HO_3.out BK191.out (by decide))); have n5_ := qa.mk ((by rw [hw]; exact qm (HB.out) GB15.out : Below w.heap.size w w36)); clear HO_0; clear HO_3; clear HO_10; clear HL190_5; clear BK191; clear HB; have HO_0 := n0_; have HO_3 := n1_; have HO_10 := n2_; have HL190_5 := n3_; have BK191 := n4_; have HB := n5_; clear n0_ n1_ n2_ n3_ n4_ n5_; clear hg hw hp_; have p194 : 0 ≤ ((ji12) : Int) := of_decide_eq_true zz12; have q194 : (ji12) < (y193.length : Int) := (by have h_ : ((ji12) : Int) < ((x3_1.length : Int) : Int) := of_decide_eq_true zz12; first | (have e_ := (Kd.R_reads' HO_3.out).1; omega) | simpa only [Ny193.out, List.length_set] using h_); have ql194 : (((ji12) : Int) < ((x3_1.length : Int) : Int)) = True := eq_true (of_decide_eq_true zz12); obtain ⟨ad194, e194, hx194_0⟩ := Kd.at_int (Kd.R_reads' HO_3.out).2.2 (ji12) p194 q194; obtain rfl : (⟨go15, 0, none⟩ : Addr) = ad194 := (by injection e194); (first | simp only [add_plain] at hx194_0 | simp only [add_at] at hx194_0 | simp only [Addr.add, Nat.zero_add] at hx194_0 | skip); replace p194 := eq_true p194; replace q194 := eq_true q194; have q37 : ((ji12) : Int) ≤ ((l0.length : Int) : Int) := of_decide_eq_true zz12; obtain ⟨i037, hi037, _, hsz37, _⟩ := info_parts info46; have hroom37 : l0.length ≤ c0 := (Kd.V_reads' HO_0.out).2.1; have hC37 : Kd.F k46 _ _ (some ad190) l0.length l0 := (Kd.V_at (base := w.heap.size) HO_0.out).2.2; have hcut37 := cut_to (P := Tryd.prog) 34 46 .i64 Tryd.underlying34 hi037 (some ad190) l0.length c0 (ji12) (of_decide_eq_true zz12) q37 hroom37; have hr37 := Kd.F_take (m := ((ji12) : Int).toNat) hC37 (by omega); have hy37 : y200.length = ((ji12) : Int).toNat := (by rw [Ny200.out, List.length_take]; omega); rw [← Ny200.out] at hr37; rw [← hy37] at hcut37; have HO204 := qa.mk (show Kd.V k46 46 _ w.heap.size _ (.slice (some ad190) y200.length c0) y200 from Kd.V_mk (by omega) hr37); have HC204 := qa.mk (show y200.length ≤ c0 from by omega); clear hr37 hC37 hroom37 hi037 hsz37; have KY37 := qa.mk hy37; clear hy37; replace q37 := eq_true q37))
               go_ret
               exact ⟨_, zz143, by (with_reducible repeat (first | apply Kd.V_alloc | apply Kd.V_drewN | apply Kd.V_drew)); exact Kd.V_mono HO204.out (fun _ hk => hk.1.1), zz78⟩
              ·rw [if_neg c29] at H
               exact absurd H (by simp)
             ·rw [if_neg c27] at H
              have c27b0 : (x12_1 == 4096) = false := beq_eq_false_iff_ne.mpr c27
              have c27b1 : (x12_1 != 4096) = true := bne_iff_ne.mpr c27
              have H' := qa.mk H
              clear H
              have p190 : 0 ≤ (x12_1 : Int) := of_decide_eq_true zz12
              have q190 : x12_1 < (l0.length : Int) := of_decide_eq_true zz12
              obtain ⟨ad190, A190_5, c190_5, e190, hx190_0, hx190_1, hx190_2, hx190_3, hx190_4, hx190_5, hl190_5, hi190_5⟩ := at_T46 (Kd.V_reads' HO_10.out).2.2 x12_1 p190 q190
              cases e190
              obtain ⟨ce190, hce190, hMe190, hcc190⟩ := Kd.V_get HO_10.out z46 x12_1 p190 zz99
              obtain ⟨ua190_5, uc190_5, rfl, ul190_5, ge190_5⟩ := k46_openF hMe190
              have hv190_5 := hcc190 5 _ rfl
              rw [qqc _ _ 5 (by omega)] at hv190_5
              replace hv190_5 := Option.some.inj (hv190_5.symm.trans hx190_5)
              injection hv190_5 with hva_ hvn_ hvc_
              rw [hva_] at ge190_5
              rw [hvc_] at ul190_5
              have HL190_5 := qa.mk (show Kd.V k48 48 _ w.heap.size _ _ ((qi l0 x12_1).f5) from Kd.V_mk ul190_5 ge190_5)
              clear hva_ hvn_ hvc_ ge190_5 ul190_5
              clear hcc190 hce190
              have HR190_5 := qa.mk hi190_5
              have HC190_5 := qa.mk hl190_5
              clear hi190_5 hl190_5
              replace p190 := eq_true p190
              replace q190 := eq_true q190
              go_wp2_with (first | ((with_reducible refine qeb (N := 5) rfl ?_); refine qjb ?hg (N := 5) ?hd (cs := #[.int .i64 0, .int .i64 0, .string (⟨#[]⟩ : ByteArray), .string (⟨#[]⟩ : ByteArray), .string (⟨#[]⟩ : ByteArray), .slice none 0 0]) (t := 46) ?hr ?_; (case hd => rfl); (case hg => rfl); (case hr => exact zz6); intro gb191 hg w38 hbox hb; have n0_ := qa.mk (Kd.V_below (Kd.V_elderB zz57 gb191 (Nat.le_of_eq hg.symm)) hb); have n1_ := qa.mk (Kd.R_below zz56 hb); have n2_ := qa.mk (Kd.V_below (Kd.V_elderB zz60 gb191 (Nat.le_of_eq hg.symm)) hb); have n3_ := qa.mk (Kd.V_below (Kd.V_elderB zz66 gb191 (Nat.le_of_eq hg.symm)) hb); have n4_ := qa.mk (Kd.C_below zz136 hb); have n5_ := qa.mk (qp zz53 hb); have n6_ := qa.mk (hbox); have n7_ := qa.mk ((by rw [hg]; exact (qo zz53) : w.heap.size ≤ gb191)); have n8_ := qa.mk ((by rw [hg]; exact (qo zz53) : w.heap.size ≤ gb191)); clear HO_0; clear HO_3; clear HO_10; clear HL190_5; clear HR190_5; clear HB; have HO_0 := n0_; have HO_3 := n1_; have HO_10 := n2_; have HL190_5 := n3_; have HR190_5 := n4_; have HB := n5_; have BK191 := n6_; have GW191 := n7_; have GE191 := n8_; clear n0_ n1_ n2_ n3_ n4_ n5_ n6_ n7_ n8_; clear hb hbox hg; have hcz39_0 : w38.cell? ⟨gb191, 0, none⟩ = some (.int .i64 0) := (qh BK191.out 0).trans rfl; have hcz39_1 : w38.cell? ⟨gb191, 1, none⟩ = some (.int .i64 0) := (qh BK191.out 1).trans rfl; have hcz39_2 : w38.cell? ⟨gb191, 2, none⟩ = some (.string (⟨#[]⟩ : ByteArray)) := (qh BK191.out 2).trans rfl; have hcz39_3 : w38.cell? ⟨gb191, 3, none⟩ = some (.string (⟨#[]⟩ : ByteArray)) := (qh BK191.out 3).trans rfl; have hcz39_4 : w38.cell? ⟨gb191, 4, none⟩ = some (.string (⟨#[]⟩ : ByteArray)) := (qh BK191.out 4).trans rfl; have hcz39_5 : w38.cell? ⟨gb191, 5, none⟩ = some (.slice none 0 0) := (qh BK191.out 5).trans rfl; have hfz39_0 := qf BK191.out 0; have hfz39_1 := qf BK191.out 1; have hfz39_2 := qf BK191.out 2; have hfz39_3 := qf BK191.out 3; have hfz39_4 := qf BK191.out 4; have hfz39_5 := qf BK191.out 5) | ((with_reducible refine gate_store (t := 46) (p := 5) rfl ?_); refine store_event (t := 46) (p := 5) (v := ?vo_w40) (w1 := ((((((w38.setCell ⟨gb191, 0, none⟩ (.int .i64 ((qi l0 x12_1).f0))).setCell ⟨gb191, 1, none⟩ (.int .i64 ((qi l0 x12_1).f1))).setCell ⟨gb191, 2, none⟩ (.string ((qi l0 x12_1).f2))).setCell ⟨gb191, 3, none⟩ (.string ((qi l0 x12_1).f3))).setCell ⟨gb191, 4, none⟩ (.string ((qi l0 x12_1).f4))).setCell ⟨gb191, 5, none⟩ (.slice A190_5 ((qi l0 x12_1).f5).length c190_5))) ?hg ?ho ?hn ?hr ?_; (case ho => rfl); (case hg => rfl); (case hn => rfl); (case hr => exact zz6); intro w40 hw; have n0_ : qa (Kd.V k46 46 w40 w.heap.size (fun k_ => (P0_ k_ ∨ w.heap.size ≤ k_) ∧ some k_ ≠ (v188 : Value).ownBlock ∧ k_ ≠ gb191) (.slice (some ad190) l0.length c0) l0) := ⟨(by rw [hw]; exact zz178)⟩; have n1_ : qa (Kd.R (Kd.int .i64) 3 w40 w.heap.size (fun k_ => (w.heap.size ≤ k_)) v188 x3_1) := ⟨(by rw [hw]; exact zz174)⟩; have n2_ : qa (Kd.V k46 46 w40 w.heap.size (fun k_ => (P0_ k_ ∨ w.heap.size ≤ k_) ∧ some k_ ≠ (v188 : Value).ownBlock ∧ k_ ≠ gb191) (.slice (some ad190) l0.length c0) l0) := ⟨(by rw [hw]; exact zz179)⟩; have n3_ : qa (Kd.V k48 48 w40 w.heap.size (fun k_ => (P0_ k_ ∨ w.heap.size ≤ k_) ∧ some k_ ≠ (v188 : Value).ownBlock ∧ k_ ≠ gb191) (.slice A190_5 ((qi l0 x12_1).f5).length c190_5) ((qi l0 x12_1).f5)) := ⟨(by rw [hw]; exact zz180)⟩; have n4_ : qa (w40.heap[gb191]? = some (.cells #[.int .i64 ((qi l0 x12_1).f0), .int .i64 ((qi l0 x12_1).f1), .string ((qi l0 x12_1).f2), .string ((qi l0 x12_1).f3), .string ((qi l0 x12_1).f4), .slice A190_5 ((qi l0 x12_1).f5).length c190_5] 46 (0, 0))) := ⟨(by rw [hw]; exact zz191)⟩; have n5_ : qa (Below w.heap.size w w40) := ⟨(by rw [hw]; exact zz78)⟩; clear hw; clear HO_0; clear HO_3; clear HO_10; clear HL190_5; clear BK191; clear HB; have HO_0 := n0_; have HO_3 := n1_; have HO_10 := n2_; have HL190_5 := n3_; have BK191 := n4_; have HB := n5_; clear n0_ n1_ n2_ n3_ n4_ n5_; have hcz41_0 : w40.cell? ⟨gb191, 0, none⟩ = some (.int .i64 ((qi l0 x12_1).f0)) := (qh BK191.out 0).trans rfl; have hcz41_1 : w40.cell? ⟨gb191, 1, none⟩ = some (.int .i64 ((qi l0 x12_1).f1)) := (qh BK191.out 1).trans rfl; have hcz41_2 : w40.cell? ⟨gb191, 2, none⟩ = some (.string ((qi l0 x12_1).f2)) := (qh BK191.out 2).trans rfl; have hcz41_3 : w40.cell? ⟨gb191, 3, none⟩ = some (.string ((qi l0 x12_1).f3)) := (qh BK191.out 3).trans rfl; have hcz41_4 : w40.cell? ⟨gb191, 4, none⟩ = some (.string ((qi l0 x12_1).f4)) := (qh BK191.out 4).trans rfl; have hcz41_5 : w40.cell? ⟨gb191, 5, none⟩ = some (.slice A190_5 ((qi l0 x12_1).f5).length c190_5) := (qh BK191.out 5).trans rfl; have hfz41_0 := qf BK191.out 0; have hfz41_1 := qf BK191.out 1; have hfz41_2 := qf BK191.out 2; have hfz41_3 := qf BK191.out 3; have hfz41_4 := qf BK191.out 4; have hfz41_5 := qf BK191.out 5; obtain ⟨Ao42, co42, eo42⟩ := Kd.R_slice HO_3.out; subst eo42; have p192 : 0 ≤ (((qi l0 x12_1).f1) : Int) := of_decide_eq_true zz12; have q192 : ((qi l0 x12_1).f1) < (x3_1.length : Int) := of_decide_eq_true zz12; obtain ⟨ad192, e192, hx192_0⟩ := Kd.at_int (Kd.R_reads' HO_3.out).2.2 ((qi l0 x12_1).f1) p192 q192; cases e192; replace p192 := eq_true p192; replace q192 := eq_true q192; have p15 : 0 ≤ ((ji12) : Int) := of_decide_eq_true zz12; have q15 : ((ji12) : Int) < ((x3_1.length : Int) : Int) := of_decide_eq_true zz12; obtain ⟨go15, co15, eo15, gb15, gl15, cl15, HG15⟩ := Kd.R_form HO_3.out (by omega); (first | cases eo15 | (injection eo15 with ea_ en_ ec_; (first | subst ea_ | (injection ea_ with ea_; subst ea_)); subst ec_; clear en_)); have GB15 := qa.mk gb15; have GG15 := qa.mk HG15; clear gb15 gl15 HG15; (first | simp only [add_plain] at hx192_0 | skip); obtain ⟨hx15_0, hf15_0⟩ := Kd.R_celln 0 HO_3.out ((ji12) : Int) p15 q15; replace p15 := eq_true p15; replace q15 := eq_true q15; obtain ⟨hy43_, hz43_⟩ := Kd.R_celln 0 HO_3.out ((ji12) : Int) (of_decide_eq_true zz12) (of_decide_eq_true zz12); have HP43 := Kd.R_putg HO_3.out ((ji12) : Int) (wrap64 ((rd x3_1 ((qi l0 x12_1).f1)) + 1))) | ((with_reducible refine gate_store (t := 3) (p := 26) rfl ?_); refine store_event (t := 3) (p := 26) (v := ?vo_w44) (w1 := (w40.setCell ⟨go15, ((ji12) : Int).toNat, none⟩ (.int .i64 (wrap64 ((rd x3_1 ((qi l0 x12_1).f1)) + 1))))) ?hg ?ho ?hn ?hr ?_; (case ho => rfl); (case hg => rfl); (case hn => rfl); (case hr => exact zz6); intro w44 hw; have hg : w40.grownBy w44 (some go15) := (by rw [hw]; exact HP43.2); have hp_ : Kd.R (Kd.int .i64) 3 w44 w.heap.size (fun k_ => (w.heap.size ≤ k_)) (.slice (some ⟨go15, 0, none⟩) x3_1.length co42) y193 := (by rw [hw, Ny193.out]; exact HP43.1); clear HP43; have n0_ := qa.mk (Kd.V_afterv (v := (.slice (some ⟨go15, 0, none⟩) x3_1.length co42)) (v1 := (.slice (some ⟨go15, 0, none⟩) x3_1.length co42)) (ok := (fun k_ => (P0_ k_ ∨ w.heap.size ≤ k_) ∧ k_ ≠ gb191)) zz104 hg (.inl rfl)); have n1_ := qa.mk (hp_); have n2_ := qa.mk (Kd.V_afterv (v := (.slice (some ⟨go15, 0, none⟩) x3_1.length co42)) (v1 := (.slice (some ⟨go15, 0, none⟩) x3_1.length co42)) (ok := (fun k_ => (P0_ k_ ∨ w.heap.size ≤ k_) ∧ k_ ≠ gb191)) zz110 hg (.inl rfl)); have n3_ := qa.mk (Kd.V_afterv (v := (.slice (some ⟨go15, 0, none⟩) x3_1.length co42)) (v1 := (.slice (some ⟨go15, 0, none⟩) x3_1.length co42)) (ok := (fun k_ => (P0_ k_ ∨ w.heap.size ≤ k_) ∧ k_ ≠ gb191)) zz112 hg (.inl rfl)); have n4_ := qa.mk (blk_grown (g := gb191) (o := .cells #[.int .i64 ((qi l0 x12_1).f0), .int .i64 ((qi l0 x12_1).f1), .string ((qi l0 x12_1).f2), .string ((qi l0 x12_1).f3), .string ((qi l0 x12_1).f4), .slice A190_5 ((qi l0 x12_1).f5).length c190_5] 46 (0, 0)) zz43 hg (Kd.R_ne HO_3.out BK191.out (by decide))); have n5_ := qa.mk ((by rw [hw]; exact qm (HB.out) GB15.out : Below w.heap.size w w44)); clear HO_0; clear HO_3; clear HO_10; clear HL190_5; clear BK191; clear HB; have HO_0 := n0_; have HO_3 := n1_; have HO_10 := n2_; have HL190_5 := n3_; have BK191 := n4_; have HB := n5_; clear n0_ n1_ n2_ n3_ n4_ n5_; clear hg hw hp_; have p194 : 0 ≤ ((ji12) : Int) := of_decide_eq_true zz12; have q194 : (ji12) < (y193.length : Int) := (by have h_ : ((ji12) : Int) < ((x3_1.length : Int) : Int) := of_decide_eq_true zz12; first | (have e_ := (Kd.R_reads' HO_3.out).1; omega) | simpa only [Ny193.out, List.length_set] using h_); have ql194 : (((ji12) : Int) < ((x3_1.length : Int) : Int)) = True := eq_true (of_decide_eq_true zz12); obtain ⟨ad194, e194, hx194_0⟩ := Kd.at_int (Kd.R_reads' HO_3.out).2.2 (ji12) p194 q194; obtain rfl : (⟨go15, 0, none⟩ : Addr) = ad194 := (by injection e194); (first | simp only [add_plain] at hx194_0 | simp only [add_at] at hx194_0 | simp only [Addr.add, Nat.zero_add] at hx194_0 | skip); replace p194 := eq_true p194; replace q194 := eq_true q194))
              go_roundg k1
              case measure => have := HK1.out; omega
              case rel => exact ⟨(y193), (ji12), (by first | rfl | (simp; done) | (simp only [← hji12] <;> (first | rfl | simp)) | (simp [*]; done)), H', ⟨zz2⟩, ⟨by (with_reducible repeat (first | apply Kd.V_alloc | apply Kd.V_drewN | apply Kd.V_drew)); exact Kd.V_mono HO_0.out (fun _ hk => ⟨hk.1.1, hk.2⟩)⟩, ⟨zz56⟩, ⟨by (with_reducible repeat (first | apply Kd.V_alloc | apply Kd.V_drewN | apply Kd.V_drew)); exact Kd.V_mono HO_10.out (fun _ hk => ⟨hk.1.1, hk.2⟩)⟩, ⟨zz78⟩⟩
           ·rw [if_neg c14] at H
            exact absurd H (by simp)
          ·rw [if_neg c13] at H
           exact absurd H (by simp)
         ·rw [if_neg c11] at H
          exact absurd H (by simp)
        ·rw [if_neg c10] at H
         exact absurd H (by simp)
       ·rw [if_neg c9] at H
        exact absurd H (by simp)
      ·rw [if_neg c8] at H
       exact absurd H (by simp)
     ·rw [if_neg c7] at H
      have c7b0 : decide (x12_1 < (l0.length : Int)) = false := decide_eq_false c7
      clear c7
      obtain rfl := Option.some.inj H
      go_wp2
      go_ret
      exact ⟨_, zz140, by (with_reducible repeat (first | apply Kd.V_alloc | apply Kd.V_drewN | apply Kd.V_drew)); exact Kd.V_mono HO_0.out (fun _ hk => hk.1), zz53⟩
  ·rw [if_neg c4] at H
   exact absurd H (by simp)
 ·rw [if_neg c3] at H
  exact absurd H (by simp)
def api_Attr.f (l0 : List S48) : Option (List S48) := if l0.length < 4398046511104 then some l0 else none
set_option maxHeartbeats 4000000 in
set_option maxRecDepth 100000 in
theorem api_Attr.calls (A0 : Option Addr) (c0 : Nat) (l0 : List S48) (r : List S48) (w : World) (hr0 : Kd.C k48 w A0 l0.length l0) (hc0 : l0.length ≤ c0) (h : api_Attr.f l0 = some r) :
  Calls Tryd.prog 64 #[.slice A0 l0.length c0] w fun e w' => ∃ v0_ : Value, e = .returned (v0_) ∧ Kd.R k48 48 w' w.heap.size (fun _ => True) v0_ r ∧ Below w.heap.size w w' := by
 unfold api_Attr.f at h
 by_cases hl : l0.length < 4398046511104
 ·rw [if_pos hl] at h
  obtain rfl := Option.some.inj h
  clear h
  have HR := qa.mk hr0
  rcases A0 with _ | ad
  ·have h0 : l0 = [] := by
    rcases Nat.eq_zero_or_pos l0.length with h0 | h0
    ·exact List.eq_nil_of_length_eq_zero h0
    ·obtain ⟨_, h, _⟩ := hr0.2.2 h0
     cases h
   subst h0
   clear hr0 hc0 hl HR
   have hnil := Go.Lib.run_eql_slice_nil (P := Tryd.prog) w 44 48 none 0 c0 0 0 Tryd.underlying44
   go_enter Tryd.func64, Tryd.ntmps64
   go_wp2
   go_ret
   exact ⟨_, rfl, Kd.R_nil _ _ _ _ _, Below.refl _ _⟩
  ·clear hr0 hc0
   have hnil := Go.Lib.run_eql_slice_nil (P := Tryd.prog) w 44 48 (some ad) l0.length c0 0 0 Tryd.underlying44
   have hinf : (Tryd.prog.info? 48).map (fun i => (i.zero, i.size, i.bytes)) = some (some (.agg #[.string ⟨#[]⟩, .string ⟨#[]⟩]), Kd.sz k48, 32) := by kernel_rfl
   have HL := qa.mk hl
   have HI := qa.mk hinf
   clear hl hinf
   go_enter Tryd.func64, Tryd.ntmps64
   go_wp2_with (at_builtin; refine Kd.R_append_rows k48 (w0 := w) w.heap.size rfl (.tmp 5) (.tmp 6) 44 48 (.agg #[.string ⟨#[]⟩, .string ⟨#[]⟩]) 32 rfl Tryd.underlying44 HI.out rfl (by decide) (by omega) (.slice (some ⟨w.heap.size, 0, none⟩) 0 0) [] l0 _ _ _ (fun _ => True) (fun _ => False) rfl rfl ?aO ?aR (fun _ _ h => h) (fun _ h => h.elim) (fun _ _ => trivial) ?aB ?aS ?aL ?_; (case aO => exact R_empty _ _ _ _ (Nat.le_refl _)); (case aR => exact Kd.C_below HR.out (qc (Below.refl _ _) _)); (case aB => exact qc (Below.refl _ _) _); (case aS => simp); (case aL => have := HL.out; simp; omega); intro v1 w1 hr hb _ _)
   go_ret
   exact ⟨_, rfl, hr, hb⟩
 ·rw [if_neg hl] at h
  cases h
end Go.Proofs.YtjbobecnlpiejaaDoor.Q
