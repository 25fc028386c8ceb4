/- THE WALK BY RECKONING, 6: the other operations that only look. No condition. -/
import Derived.Test.YtlpjmjielpdhiaaGreatDoorF2
import Derived.Great.FillDense
set_option linter.unusedSimpArgs false
set_option linter.unusedVariables false
namespace Go.Proofs.YtlpjmjielpdhiaaGreatDoor
namespace Ex
open Go

section
variable {P : Program} {E : Env} {r : Nat → Option Nm} {s : Tr Blk} {w : World}

theorem foldl_over (off : Nat) (v : List Value) (cs : Array Value) (h : off + v.length ≤ cs.size) :
    ((v.zipIdx 0).foldl (fun cs (x : Value × Nat) => cs.setIfInBounds (off + x.2) x.1) cs).toList = cs.toList.take off ++ v ++ cs.toList.drop (off + v.length) := by
  obtain ⟨h1, h2⟩ := Great.foldl_set off v 0 cs
  apply List.ext_getElem?
  intro k
  rw [Array.getElem?_toList, h2 k, Nat.add_zero]
  by_cases hk : k < off
  · rw [if_neg (by omega), List.append_assoc, List.getElem?_append_left (by simp; omega), List.getElem?_take_of_lt hk, Array.getElem?_toList]
  · by_cases hk2 : k < off + v.length
    · rw [if_pos (by omega), List.append_assoc, List.getElem?_append_right (by simp; omega)]
      have : (List.take off cs.toList).length = off := by simp; omega
      rw [this, List.getElem?_append_left (by omega)]
    · rw [if_neg (by omega), List.getElem?_append_right (by simp; omega)]
      have : (List.take off cs.toList ++ v).length = off + v.length := by simp; omega
      rw [this, List.getElem?_drop, Array.getElem?_toList]
      congr 1; omega

def PR (r : Nat → Option Nm) : List (Nat × AV) → List (Nat × Value) → Prop
  | [], [] => True
  | p :: ps, q :: qs => p.1 = q.1 ∧ den r p.2 = some [q.2] ∧ PR r ps qs
  | [], _ :: _ => False
  | _ :: _, [] => False

theorem fillA_sound {place : Nat → Option (Nat × Nat)} : ∀ (parts : List (Nat × AV)) (vs : List (Nat × Value)) (cs x : AV) (l : List Value),
    PR r parts vs → den r cs = some l → fillA place cs parts = some x →
    ∃ l', den r x = some l' ∧ Instr.fill place l.toArray vs = some l'.toArray ∧ l'.length = l.length := by
  intro parts
  induction parts with
  | nil =>
    intro vs cs x l hv hd h
    cases vs with
    | cons _ _ => exact hv.elim
    | nil =>
      simp only [fillA, Option.some.injEq] at h; subst h
      exact ⟨l, hd, rfl, rfl⟩
  | cons p parts ih =>
    intro vs cs x l hv hd h
    cases vs with
    | nil => exact hv.elim
    | cons q vs =>
      obtain ⟨i, y⟩ := p
      obtain ⟨i', v⟩ := q
      obtain ⟨e1, hy, hrest⟩ := hv
      simp only at e1 hy
      subst e1
      simp only [fillA] at h
      cases hpl : place i with
      | none => simp [hpl] at h
      | some oz =>
        obtain ⟨off, z⟩ := oz
        simp only [hpl] at h
        cases hl : (Nat.blt 0 z && y.cells.isLen z) with
        | false => simp [hl] at h
        | true =>
          simp only [hl, cond_true] at h
          simp only [Bool.and_eq_true] at hl
          obtain ⟨hz, hl⟩ := hl
          have hz := blt_iff hz
          cases ho : cs.over off y.cells with
          | none => simp [ho] at h
          | some cs' =>
            simp only [ho] at h
            have hc := cells_den hy hl
            have hlen := isLen_den _ _ _ hc hl
            obtain ⟨h1, h2⟩ := over_den cs off y.cells cs' l _ hd hc ho
            obtain ⟨l', h3, h4, h5⟩ := ih vs cs' x _ hrest h1 h
            have hsz : v.cells.size = z := by simpa using hlen
            have hle : off + v.cells.toList.length ≤ l.toArray.size := by
              rcases h2 with h2 | h2
              · rw [h2] at hlen; simp at hlen; omega
              · simpa using h2
            refine ⟨l', h3, ?_, ?_⟩
            case refine_2 =>
              rw [h5]
              simp only [List.length_append, List.length_take, List.length_drop]
              simp at hle ⊢
              omega
            simp only [Instr.fill, hpl]
            rw [if_neg]
            · rw [← Array.foldl_toList, Array.toList_zipIdx]
              have := foldl_over off v.cells.toList l.toArray hle
              rw [← h4]
              congr 1
              apply Array.toList_inj.1
              simpa using this
            · simp at hle
              simp only [hsz, ne_eq, not_true_eq_false, decide_false, Bool.false_or, List.size_toArray, decide_eq_true_eq, Nat.not_lt]
              omega

theorem placesA_sound (w : World) : ∀ (fs : List Field) (ps : List (Nat × Nat)), placesA P fs = some ps →
    (fs.mapM fun (f : Field) => (do pure (f.offset, ← sizeOf f.type) : Sem (Nat × Nat))).run P w = .ok ps w := by
  intro fs
  induction fs with
  | nil => intro ps h; simp only [placesA, Option.some.injEq] at h; subst h; simp
  | cons f fs ih =>
    intro ps h
    simp only [placesA] at h
    split at h
    · rename_i z k hz hk
      simp only [Option.some.injEq] at h; subst h
      rw [List.mapM_cons]
      simp only [Sem.run_bind, run_size hz, Result.andThen_ok, Sem.run_pure, ih k hk]
    · simp at h

theorem xBuild_sound {t : TypeId} {parts : List (Nat × AV)} {vs : List (Nat × Value)} {v : AV} (hp : PR r parts vs) (h : xBuild P t parts = some v) (w : World) :
    ∃ y, den r v = some [y] ∧ (Instr.build t vs.toArray).run P w = .ok y w := by
  unfold xBuild at h
  split at h
  · rename_i z fs hz hu
    obtain ⟨zv, h1, _, h2⟩ := run_zero (r := r) hz w
    split at h
    · rename_i ps hps
      split at h
      · rename_i cs hcs
        simp only [Option.some.injEq] at h; subst h
        obtain ⟨l', h3, h4, _⟩ := fillA_sound parts vs z.cells cs _ hp h2 hcs
        refine ⟨.agg l'.toArray, by simp [den, h3], ?_⟩
        have h5 := placesA_sound w fs.toList ps hps
        have h6 : (fs.mapM fun (f : Field) => (do pure (f.offset, ← sizeOf f.type) : Sem (Nat × Nat))).run P w = .ok ps.toArray w := by
          rw [Array.mapM_eq_mapM_toList]
          simp only [Sem.run_map, h5, Result.andThen_ok]
        simp only [Array.toArray_toList] at h4
        have h7 : (fun (x : Nat) => ps.toArray[x]?) = fun (x : Nat) => ps[x]? := by funext x; simp
        simp only [Instr.build, Sem.run_bind, h1, Result.andThen_ok, run_underlying hu, h6, h7, h4, Sem.run_pure]
      · simp at h
    · simp at h
  · rename_i z n e hz hu
    obtain ⟨zv, h1, _, h2⟩ := run_zero (r := r) hz w
    split at h
    · rename_i k hk
      split at h
      · rename_i cs hcs
        simp only [Option.some.injEq] at h; subst h
        obtain ⟨l', h3, h4, _⟩ := fillA_sound parts vs z.cells cs _ hp h2 hcs
        refine ⟨.agg l'.toArray, by simp [den, h3], ?_⟩
        simp only [Array.toArray_toList] at h4
        simp only [Instr.build, Sem.run_bind, h1, Result.andThen_ok, run_underlying hu, run_size hk, h4, Sem.run_pure]
      · simp at h
    · simp at h
  · simp at h
end

end Ex
end Go.Proofs.YtlpjmjielpdhiaaGreatDoor
