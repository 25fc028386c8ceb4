/- THE WALK BY RECKONING, 13: slices that are made, copied, grown. No condition. -/
import Derived.Test.YtlpjmjielpdhiaaGreatDoorF9
set_option linter.unusedSimpArgs false
set_option linter.unusedVariables false
namespace Go.Proofs.YtlpjmjielpdhiaaGreatDoor
namespace Ex
open Go

section
variable {P : Program} {E : Env} {r r' : Nat → Option Nm} {s s' : Tr Blk} {w w' : World}

theorem wrap_small {n : Nat} (h : n < 4611686018427387904) : IntKind.i64.wrap (n : Int) = (n : Int) := by
  unfold IntKind.wrap
  simp only [IntKind.bits, IntKind.signed]
  have e : ((n : Int) % (2 ^ 64 : Int)) = n := Int.emod_eq_of_lt (by omega) (by omega)
  simp only [e]
  have : ¬ ((2 ^ (64 - 1) : Int) ≤ (n : Int)) := by
    simp; omega
  simp [this]
  omega

theorem cells_rep {zero : Array Value} {z : Nat} (hz : zero.size = z) (hpos : 0 < z) : ∀ m : Nat, ((Array.range (m * z)).map (fun i => zero[i % zero.size]!)).toList = (List.replicate m zero.toList).flatten := by
  intro m
  rw [Array.toList_map, Array.toList_range]
  induction m with
  | zero => simp
  | succ m ih =>
    rw [Nat.succ_mul, List.range_add, List.map_append, ih, List.replicate_succ', List.flatten_append]
    congr 1
    simp only [List.map_map, List.flatten_cons, List.flatten_nil, List.append_nil]
    apply List.ext_getElem?
    intro i
    simp only [List.getElem?_map, Function.comp_def]
    by_cases hi : i < z
    · rw [List.getElem?_range hi]
      have e : (m * z + i) % zero.size = i := by rw [hz, Nat.add_comm, Nat.add_mul_mod_self_right, Nat.mod_eq_of_lt hi]
      simp only [Option.map_some, e]
      have : i < zero.size := by omega
      simp [this]
    · rw [List.getElem?_eq_none (by simp; omega), List.getElem?_eq_none (by simp; omega)]
      rfl

theorem rep_length {l : List Value} {m : Nat} : (List.replicate m l).flatten.length = m * l.length := by
  induction m with
  | zero => simp
  | succ m ih => simp [List.replicate_succ, ih, Nat.succ_mul, Nat.add_comm]

theorem xMakeSlice_sound (hI : Inv E r s w) {k : Nat} (hk : r k = none) {t : TypeId} {x y : AV} {u v : Value} {q : OpR} (hx : den r x = some [u]) (hy : den r y = some [v]) (h : xMakeSlice P s k t x y = some q) :
    ∃ v' s', q = .val v' s' true ∧ ∃ a w', Inv E (upd r k a) s' w' ∧ ∃ z, den (upd r k a) v' = some [z] ∧ (Instr.makeSlice t u v).run P w = .ok z w' := by
  unfold xMakeSlice at h
  split at h
  · rename_i e n m hu hn hm
    obtain ⟨k1, rfl⟩ := asN_sound hx hn
    obtain ⟨k2, rfl⟩ := asN_sound hy hm
    split at h
    · rename_i z by' zz hz hby hzr
      cases hb : (Nat.ble (by' * m) 1000000000 && Nat.ble m 65536 && Nat.ble n m && zz.cells.isLen (z + 1)) with
      | false => simp [hb] at h
      | true =>
        simp only [hb, cond_true] at h
        simp only [Bool.and_eq_true] at hb
        obtain ⟨⟨⟨h1, h2⟩, h3⟩, h4⟩ := hb
        have h1 := Nat.le_of_ble_eq_true h1
        have h2 := Nat.le_of_ble_eq_true h2
        have h3 := Nat.le_of_ble_eq_true h3
        split at h
        · rename_i cs hcs
          simp only [Option.some.injEq] at h; subst h
          obtain ⟨zv, hz1, hz2, hz3⟩ := run_zero (r := r) hzr w
          obtain ⟨i, hi, hib⟩ := run_bytes hby w
          have hzl := isLen_den _ _ _ hz3 h4
          have hzs : zv.cells.size = z + 1 := by simpa using hzl
          have hrep := rep_den hz3 m cs hcs
          have hcell := cells_rep hzs (by omega) m
          refine ⟨_, _, rfl, ⟨w.heap.size, 0, m⟩, { w with heap := w.heap.push (.cells ((Array.range (m * (z + 1))).map (fun i => zv.cells[i % zv.cells.size]!)) e) }, ?_, .slice (some ⟨w.heap.size, 0, none⟩) n m, ?_, ?_⟩
          · refine hI.push hk (o := .cells ((Array.range (m * (z + 1))).map (fun i => zv.cells[i % zv.cells.size]!)) e) rfl rfl rfl rfl rfl ?_
            refine ⟨[], (List.replicate m zv.cells.toList).flatten, [], ?_, rfl, den_mono (upd_le hk) _ _ hrep, Nat.le_refl _, ?_, fun _ => ⟨rfl, rfl⟩⟩
            · simp only [List.nil_append, List.append_nil, Array.getElem?_push_size]
              rw [← hcell]
            · simp only [List.nil_append, List.append_nil, rep_length, hzl, Nat.zero_add]
              omega
          · simp [den, upd_self, Cap.den]
          · have w1 := wrap_small (n := n) (by omega)
            have w2 := wrap_small (n := m) (by omega)
            have hbm : (by' : Int) * (m : Int) ≤ 1000000000 := by
              have : ((by' * m : Nat) : Int) ≤ 1000000000 := by omega
              simpa using this
            have hbn : (by' : Int) * (n : Int) ≤ 1000000000 := Int.le_trans (Int.mul_le_mul_of_nonneg_left (by omega) (by omega)) hbm
            have c1 : ¬ ((281474976710656 : Int) < (by' : Int) * (m : Int)) := by omega
            have c5 : ((by' : Int) * (n : Int) ≤ 281474976710656) := by omega
            have c2 : ¬ ((m : Int) < (n : Int)) := by omega
            have c3 : ¬ ((n : Int) < 0) := by omega
            have c4 : ¬ ((m : Int) < 0) := by omega
            simp only [Instr.makeSlice, Sem.run_bind, run_underlying hu, Result.andThen_ok, asInt, asIntOf, Sem.run_pure, hi, w1, w2, hib]
            by_cases hm0 : m = 0
            · subst hm0
              have hn0 : n = 0 := by omega
              subst hn0
              have e0 : ∀ f : Nat → Value, Array.map f (Array.range 0) = #[] := fun f => by apply Array.toList_inj.1; simp [Array.toList_range]
              simp [e0, c1, c2, c3, c4, c5, run_size hz, newRow]
            · simp [c1, c2, c3, c4, c5, run_size hz, newRow, hm0, hz1]
              intro h0
              rcases Nat.mul_eq_zero.1 h0 with h0 | h0 <;> omega
        · simp at h
    · simp at h
  · simp at h
theorem xBuildSlice_sound (hI : Inv E r s w) {k : Nat} (hk : r k = none) {t : TypeId} {n : Nat} {parts : List (Nat × AV)} {vs : List (Nat × Value)} {q : OpR} (hp : PR r parts vs) (h : xBuildSlice P s k t n parts = some q) :
    ∃ v' s', q = .val v' s' true ∧ ∃ a w', Inv E (upd r k a) s' w' ∧ ∃ z, den (upd r k a) v' = some [z] ∧ (Instr.buildSlice t n vs.toArray).run P w = .ok z w' := by
  unfold xBuildSlice at h
  split at h
  · rename_i e hu
    split at h
    · rename_i z zz hz hzr
      cases hb : (Nat.ble (n * (z + 1)) 65536 && zz.cells.isLen (z + 1)) with
      | false => simp [hb] at h
      | true =>
        simp only [hb, cond_true] at h
        simp only [Bool.and_eq_true] at hb
        obtain ⟨h1, h4⟩ := hb
        have h1 := Nat.le_of_ble_eq_true h1
        obtain ⟨zv, hz1, hz2, hz3⟩ := run_zero (r := r) hzr w
        have hzl := isLen_den _ _ _ hz3 h4
        have hzs : zv.cells.size = z + 1 := by simpa using hzl
        split at h
        · rename_i cs hcs
          simp only [Option.some.injEq] at h; subst h
          split at hcs
          · rename_i cs0 hcs0
            have hrep := rep_den hz3 n cs0 hcs0
            have hcell := cells_rep hzs (by omega) n
            obtain ⟨l', h5, h6, h7⟩ := fillA_sound parts vs cs0 cs _ hp hrep hcs
            have hsz : l'.length = n * (z + 1) := by rw [h7, rep_length, hzl]
            refine ⟨_, _, rfl, ⟨w.heap.size, 0, n⟩, { w with heap := w.heap.push (.cells l'.toArray e) }, ?_, .slice (some ⟨w.heap.size, 0, none⟩) n n, ?_, ?_⟩
            · refine hI.push hk (o := .cells l'.toArray e) rfl rfl rfl rfl rfl ?_
              refine ⟨[], l', [], by simp, rfl, den_mono (upd_le hk) _ _ h5, Nat.le_refl _, by simp [hsz], fun _ => ⟨rfl, rfl⟩⟩
            · simp [den, upd_self, Cap.den]
            · have hf : Instr.fill (fun i => some (i * (z + 1), z + 1)) ((Array.range (n * (z + 1))).map (fun i => zv.cells[i % zv.cells.size]!)) vs = some l'.toArray := by
                rw [← h6, ← hcell]
              have c1 : ¬ (16777216 < n * (z + 1)) := by omega
              by_cases hn0 : n = 0
              · subst hn0
                have e0 : ∀ f : Nat → Value, Array.map f (Array.range (0 * (z + 1))) = #[] := fun f => by apply Array.toList_inj.1; simp [Array.toList_range]
                rw [e0] at hf
                simp only [Instr.buildSlice, Sem.run_bind, run_underlying hu, Result.andThen_ok, run_size hz, Nat.zero_mul]
                simp only [Nat.zero_mul] at e0 hf
                simp [e0, hf, newRow]
              · have hne : ¬ n * (z + 1) = 0 := fun h0 => by rcases Nat.mul_eq_zero.1 h0 with h0 | h0 <;> omega
                simp only [Instr.buildSlice, Sem.run_bind, run_underlying hu, Result.andThen_ok, run_size hz]
                simp only [show (2 : Nat) ^ 24 = 16777216 from rfl, c1, hne, if_false, Sem.run_bind, Sem.run_pure, Result.andThen_ok, hz1, hf, newRow, run_newObj]
          · simp at hcs
        · simp at h
    · simp at h
  · simp at h
end

end Ex
end Go.Proofs.YtlpjmjielpdhiaaGreatDoor
