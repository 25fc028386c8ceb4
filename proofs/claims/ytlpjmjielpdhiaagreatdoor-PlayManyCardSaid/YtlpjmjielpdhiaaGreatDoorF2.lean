/- THE WALK BY RECKONING, 5: what a world holds, and the operations that only look. No condition. -/
import Derived.Test.YtlpjmjielpdhiaaGreatDoorF1
namespace Go.Proofs.YtlpjmjielpdhiaaGreatDoor
namespace Ex
open Go

/-- What stays as it was: the blocks of 'keep', and the outside. -/
structure Env where
  keep : Nat → Prop
  h : Nat → Option Obj
  os : Os
  output : Array (Nat × ByteArray)
  tape : Nat → Question → Nat

def esOk (r : Nat → Option Nm) : List (AV × AV × Nat) → List MapEntry → Prop
  | [], [] => True
  | e :: es, m :: ms => den r e.1 = some [m.key] ∧ den r e.2.1 = some [m.val] ∧ e.2.2 = m.born ∧ esOk r es ms
  | [], _ :: _ => False
  | _ :: _, [] => False

def BlkOk (r : Nat → Option Nm) (a : Nm) (w : World) : Blk → Prop
  | .cells e z cs lo wh => ∃ pre l post, w.heap[a.blk]? = some (.cells (pre ++ l ++ post).toArray e (0, 0)) ∧ pre.length = a.off ∧ den r cs = some l ∧
      lo ≤ a.kap ∧ a.off + a.kap * z ≤ (pre ++ l ++ post).length ∧ (wh = true → pre = [] ∧ post = [])
  | .map es clk => ∃ m : Array MapEntry, w.heap[a.blk]? = some (.map m clk) ∧ esOk r es m.toList
  | .iter s p => w.heap[a.blk]? = some (.stringIter ⟨s.toArray⟩ p) ∧ a.off = 0

structure Inv (E : Env) (r : Nat → Option Nm) (s : Tr Blk) (w : World) : Prop where
  blk : ∀ n b, s.get n = some b → ∃ a, r n = some a ∧ BlkOk r a w b ∧ ¬ E.keep a.blk
  apart : ∀ n m b c a d, s.get n = some b → s.get m = some c → n ≠ m → r n = some a → r m = some d → a.blk ≠ d.blk
  keep : ∀ i, E.keep i → w.heap[i]? = E.h i ∧ i < w.heap.size
  os : w.os = E.os
  output : w.output = E.output
  tape : w.tape = E.tape

theorem esOk_mono {r r' : Nat → Option Nm} (h : Le r r') : ∀ (es : List (AV × AV × Nat)) (ms : List MapEntry), esOk r es ms → esOk r' es ms
  | [], [], _ => trivial
  | [], _ :: _, e => e.elim
  | _ :: _, [], e => e.elim
  | _ :: es, _ :: ms, ⟨h1, h2, h3, h4⟩ => ⟨den_mono h _ _ h1, den_mono h _ _ h2, h3, esOk_mono h es ms h4⟩
theorem BlkOk.mono {r r' : Nat → Option Nm} {a : Nm} {w w' : World} {b : Blk} (h : Le r r') (hw : w'.heap[a.blk]? = w.heap[a.blk]?) (hb : BlkOk r a w b) : BlkOk r' a w' b := by
  cases b with
  | cells e z cs lo wh =>
    obtain ⟨pre, l, post, h1, h2, h3, h4⟩ := hb
    exact ⟨pre, l, post, by rw [hw]; exact h1, h2, den_mono h _ _ h3, h4⟩
  | map es clk =>
    obtain ⟨m, h1, h2⟩ := hb
    exact ⟨m, by rw [hw]; exact h1, esOk_mono h _ _ h2⟩
  | iter s p => exact ⟨hw.trans hb.1, hb.2⟩

section
variable {P : Program} {E : Env} {r : Nat → Option Nm} {s : Tr Blk} {w : World}

theorem add_none (b o j : Nat) : (⟨b, o, none⟩ : Addr).add j = ⟨b, o + j, none⟩ := by unfold Addr.add; split <;> simp_all
theorem run_size {t : TypeId} {z : Nat} (h : szO P t = some z) (w : World) : (sizeOf t).run P w = .ok z w := by
  unfold szO at h
  split at h
  · rename_i i hi
    simp only [Option.some.injEq] at h
    simp [sizeOf, typeInfo, hi, h]
  · simp at h
theorem run_bytes {t : TypeId} {z : Nat} (h : bytesO P t = some z) (w : World) : ∃ i, (typeInfo t).run P w = .ok i w ∧ i.bytes = z := by
  unfold bytesO at h
  split at h
  · rename_i i hi
    simp only [Option.some.injEq] at h
    exact ⟨i, by simp [typeInfo, hi], h⟩
  · simp at h
theorem run_zero {t : TypeId} {z : AV} (h : zrO P t = some z) (w : World) : ∃ v, (zeroValue t).run P w = .ok v w ∧ den r z = some [v] ∧ den r z.cells = some v.cells.toList := by
  unfold zrO at h
  split at h
  · rename_i i hi
    split at h
    · rename_i v hv
      exact ⟨v, by simp [zeroValue, typeInfo, hi, hv], ofV_den h, cells_isV (ofV_den h) (ofV_isV h)⟩
    · simp at h
  · simp at h
theorem run_agg {t : TypeId} {b : Bool} (h : isAg P t = some b) (w : World) : (isAgg t).run P w = .ok b w := by
  unfold isAg at h
  unfold isAgg
  split at h <;> simp_all [run_underlying]

/-- a row's cells -/
theorem rowOf (hI : Inv E r s w) {n e z : Nat} {cs : AV} {lo : Nat} {wh : Bool} (h : s.get n = some (.cells e z cs lo wh)) :
    ∃ a pre l post, r n = some a ∧ w.heap[a.blk]? = some (.cells (pre ++ l ++ post).toArray e (0, 0)) ∧ pre.length = a.off ∧ den r cs = some l ∧
      lo ≤ a.kap ∧ a.off + a.kap * z ≤ (pre ++ l ++ post).length ∧ (wh = true → pre = [] ∧ post = []) ∧ ¬ E.keep a.blk := by
  obtain ⟨a, ha, ⟨pre, l, post, h1, h2, h3, h4, h5, h6⟩, hk⟩ := hI.blk n _ h
  exact ⟨a, pre, l, post, ha, h1, h2, h3, h4, h5, h6, hk⟩
theorem cellAt {b e : Nat} {pre l post : List Value} (h : w.heap[b]? = some (.cells (pre ++ l ++ post).toArray e (0, 0))) {i : Nat} {v : Value} (hv : l[i]? = some v) :
    w.cell? ⟨b, pre.length + i, none⟩ = some v := by
  have hi : i < l.length := (List.getElem?_eq_some_iff.1 hv).1
  simp only [World.cell?, h, Option.isSome_none]
  simp only [Bool.false_eq_true, if_false, List.getElem?_toArray, List.append_assoc]
  rw [List.getElem?_append_right (by omega), List.getElem?_append_left (by omega)]
  simpa using hv
theorem rd_sound (hI : Inv E r s w) {n off : Nat} {x : AV} (h : rd s n off = some x) :
    ∃ a v, r n = some a ∧ w.cell? ⟨a.blk, a.off + off, none⟩ = some v ∧ den r x = some [v] := by
  unfold rd at h
  split at h
  · rename_i e z cs lo wh hg
    obtain ⟨a, pre, l, post, ha, h1, h2, h3, _⟩ := rowOf hI hg
    obtain ⟨v, hv, hx⟩ := nth_den cs off x l h3 h
    exact ⟨a, v, ha, by rw [← h2]; exact cellAt h1 hv, hx⟩
  · simp at h
theorem rdN_sound (hI : Inv E r s w) {n off k : Nat} {x : AV} (h : rdN s n off k = some x) :
    ∃ a l, r n = some a ∧ l.length = k ∧ den r x = some l ∧ (∀ j v, l[j]? = some v → w.cell? ⟨a.blk, a.off + off + j, none⟩ = some v) := by
  unfold rdN at h
  split at h
  · rename_i e z cs lo wh hg
    obtain ⟨a, pre, l, post, ha, h1, h2, h3, _⟩ := rowOf hI hg
    split at h
    · rename_i y hy
      obtain ⟨h4, h5⟩ := drop_den cs off y l h3 hy
      obtain ⟨h6, h7⟩ := take_den y k x _ h4 h
      refine ⟨a, _, ha, by rw [List.length_take]; exact Nat.min_eq_left h7, h6, fun j v hv => ?_⟩
      rw [← h2, Nat.add_assoc]
      refine cellAt h1 ?_
      have hj : j < k := by
        have := (List.getElem?_eq_some_iff.1 hv).1
        simp at this; omega
      rw [List.getElem?_take_of_lt hj, List.getElem?_drop] at hv
      exact hv
    · simp at h
  · simp at h
theorem run_cells {b o : Nat} {l : List Value} (h : ∀ j v, l[j]? = some v → w.cell? ⟨b, o + j, none⟩ = some v) : (loadCells ⟨b, o, none⟩ l.length).run P w = .ok l.toArray w :=
  run_loadCells_list w ⟨b, o, none⟩ l fun j v hv => by rw [add_none]; exact h j v hv

theorem xLoad_sound (hI : Inv E r s w) {t : TypeId} {x v : AV} {u : Value} (hx : den r x = some [u]) (h : xLoad P s t x = some v) :
    ∃ y, den r v = some [y] ∧ (Instr.loadAt t u).run P w = .ok y w := by
  cases x with
  | ptr n off =>
    obtain ⟨a, ha, e⟩ := den_ptr hx
    simp only [List.cons.injEq, and_true] at e; subst e
    simp only [xLoad] at h
    cases hag : isAg P t with
    | none => simp [hag] at h
    | some b =>
      have hagr := run_agg hag w
      cases b with
      | true =>
        simp only [hag] at h
        cases hz : szO P t with
        | none => simp [hz] at h
        | some z =>
          simp only [hz] at h
          cases hr : rdN s n off z with
          | none => simp [hr] at h
          | some l =>
            simp only [hr, Option.some.injEq] at h; subst h
            obtain ⟨a', k, ha', hk, hd, hc⟩ := rdN_sound hI hr
            rw [ha] at ha'; cases ha'
            refine ⟨.agg k.toArray, by simp [den, hd], ?_⟩
            have := run_cells (P := P) hc
            rw [hk] at this
            simp [Instr.loadAt, Instr.sureAddr, loadVar, hagr, run_size hz, this]
      | false =>
        simp only [hag] at h
        obtain ⟨a', y, ha', hc, hd⟩ := rd_sound hI h
        rw [ha] at ha'; cases ha'
        refine ⟨y, hd, ?_⟩
        simp [Instr.loadAt, Instr.sureAddr, loadVar, hagr, hc]
  | _ => simp [xLoad] at h

theorem partA_sound {t : TypeId} {cs x : AV} {off : Nat} {l : List Value} (hd : den r cs = some l) (h : partA P t cs off = some x) (w : World) :
    ∃ v, den r x = some [v] ∧ (part t l.toArray off).run P w = .ok v w := by
  unfold partA at h
  cases hag : isAg P t with
  | none => simp [hag] at h
  | some b =>
    have hagr := run_agg hag w
    cases b with
    | true =>
      simp only [hag] at h
      cases hz : szO P t with
      | none => simp [hz] at h
      | some z =>
        simp only [hz] at h
        cases hdr : cs.drop off with
        | none => simp [hdr] at h
        | some y =>
          simp only [hdr] at h
          cases ht : y.take z with
          | none => simp [ht] at h
          | some y' =>
            simp only [ht, Option.some.injEq] at h; subst h
            obtain ⟨h1, h2⟩ := drop_den cs off y l hd hdr
            obtain ⟨h3, h4⟩ := take_den y z y' _ h1 ht
            refine ⟨.agg ((l.drop off).take z).toArray, by simp [den, h3], ?_⟩
            simp [part, hagr, run_size hz, List.extract_eq_take_drop]
    | false =>
      simp only [hag] at h
      obtain ⟨v, h1, h2⟩ := nth_den cs off x l hd h
      exact ⟨v, h2, by simp [part, hagr, h1]⟩

theorem xFieldAddr_sound {t : TypeId} {f : Nat} {x v : AV} {u : Value} (hx : den r x = some [u]) (h : xFieldAddr P t f x = some v) (w : World) :
    ∃ y, den r v = some [y] ∧ (Instr.fieldAt t u f).run P w = .ok y w := by
  cases x with
  | ptr n off =>
    obtain ⟨a, ha, e⟩ := den_ptr hx
    simp only [List.cons.injEq, and_true] at e; subst e
    simp only [xFieldAddr] at h
    split at h
    · rename_i fs hu
      split at h
      · rename_i fd hf
        split at h
        · rename_i k hz
          simp only [Option.some.injEq] at h; subst h
          refine ⟨.pointer (some ⟨a.blk, a.off + (off + fd.offset), none⟩), by simp [den, ha], ?_⟩
          simp [Instr.fieldAt, run_underlying hu, hf, Instr.sureAddr, fieldPlace, run_size hz, add_none, Nat.add_assoc]
        · simp at h
      · simp at h
    · simp at h
  | _ => simp [xFieldAddr] at h

theorem xField_sound {t : TypeId} {f : Nat} {x v : AV} {u : Value} (hx : den r x = some [u]) (h : xField P t f x = some v) (w : World) :
    ∃ y, den r v = some [y] ∧ (Instr.field t u f).run P w = .ok y w := by
  cases x with
  | agg cs =>
    obtain ⟨k, hk, e⟩ := den_agg hx
    simp only [List.cons.injEq, and_true] at e; subst e
    simp only [xField] at h
    split at h
    · rename_i fs hu
      split at h
      · rename_i fd hf
        obtain ⟨y, h1, h2⟩ := partA_sound hk h w
        exact ⟨y, h1, by simp [Instr.field, run_underlying hu, hf, asAgg, h2]⟩
      · simp at h
    · simp at h
  | _ => simp [xField] at h

theorem asN_sound {x : AV} {u : Value} {n : Nat} (hx : den r x = some [u]) (h : asN x = some n) : ∃ k, u = .int k (n : Int) := by
  cases x with
  | prim v =>
    obtain ⟨e, _⟩ := den_prim hx
    simp only [List.cons.injEq, and_true] at e; subst e
    cases u with
    | int k i =>
      cases i with
      | ofNat m => simp only [asN, Option.some.injEq] at h; subst h; exact ⟨k, rfl⟩
      | negSucc m => simp [asN] at h
    | _ => simp [asN] at h
  | _ => simp [asN] at h

theorem blt_iff {a b : Nat} (h : Nat.blt a b = true) : a < b := Nat.lt_of_succ_le (Nat.le_of_ble_eq_true h)

theorem xIndexAddr_sound {t : TypeId} {x ix v : AV} {u i : Value} (hx : den r x = some [u]) (hi : den r ix = some [i]) (h : xIndexAddr P t x ix = some v) (w : World) :
    ∃ y, den r v = some [y] ∧ (Instr.indexAt t u i).run P w = .ok y w := by
  unfold xIndexAddr at h
  split at h
  · rename_i e n off len c j hu hj
    obtain ⟨a, ha, e⟩ := den_sl hx
    simp only [List.cons.injEq, and_true] at e; subst e
    obtain ⟨k, rfl⟩ := asN_sound hi hj
    split at h
    · rename_i z hz
      cases hb : Nat.blt j len with
      | false => simp [hb] at h
      | true =>
        simp only [hb, cond_true, Option.some.injEq] at h; subst h
        have := blt_iff hb
        refine ⟨.pointer (some ⟨a.blk, a.off + (off + j * z), none⟩), by simp [den, ha], ?_⟩
        simp [Instr.indexAt, asIntOf, run_underlying hu, run_size hz, add_none, Nat.add_assoc, this]
    · simp at h
  · rename_i len e n off j hu hj
    obtain ⟨a, ha, e⟩ := den_ptr hx
    simp only [List.cons.injEq, and_true] at e; subst e
    obtain ⟨k, rfl⟩ := asN_sound hi hj
    split at h
    · rename_i z hz
      cases hb : Nat.blt j len with
      | false => simp [hb] at h
      | true =>
        simp only [hb, cond_true, Option.some.injEq] at h; subst h
        have := blt_iff hb
        refine ⟨.pointer (some ⟨a.blk, a.off + (off + j * z), none⟩), by simp [den, ha], ?_⟩
        simp [Instr.indexAt, asIntOf, run_underlying hu, run_size hz, add_none, Nat.add_assoc, this, Instr.sureAddr]
    · simp at h
  · simp at h

theorem xIndex_sound {t : TypeId} {x ix v : AV} {u i : Value} (hx : den r x = some [u]) (hi : den r ix = some [i]) (h : xIndex P t x ix = some v) (w : World) :
    ∃ y, den r v = some [y] ∧ (Instr.index t u i).run P w = .ok y w := by
  unfold xIndex at h
  split at h
  · rename_i l j hu hj
    have e := den_str hx
    simp only [List.cons.injEq, and_true] at e; subst e
    obtain ⟨k, rfl⟩ := asN_sound hi hj
    split at h
    · rename_i b hb
      simp only [Option.some.injEq] at h; subst h
      refine ⟨.int .u8 b.toNat, rfl, ?_⟩
      have hg : (⟨l.toArray⟩ : ByteArray)[j]? = some b := by
        have hlt := (List.getElem?_eq_some_iff.1 hb).1
        have h3 : j < (⟨l.toArray⟩ : ByteArray).size := by simpa [ByteArray.size] using hlt
        rw [getElem?_pos (⟨l.toArray⟩ : ByteArray) j h3]
        have := (List.getElem?_eq_some_iff.1 hb).2
        simp only [Option.some.injEq]
        show l.toArray[j] = b
        simpa using this
      simp [Instr.index, asIntOf, run_underlying hu, hg]
    · simp at h
  · simp at h
end

end Ex
end Go.Proofs.YtlpjmjielpdhiaaGreatDoor
