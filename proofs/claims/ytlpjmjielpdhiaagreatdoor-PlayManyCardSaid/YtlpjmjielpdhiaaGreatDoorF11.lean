/- THE WALK BY RECKONING, 14: copy and append. No condition. -/
import Derived.Test.YtlpjmjielpdhiaaGreatDoorF10
set_option linter.unusedSimpArgs false
set_option linter.unusedVariables false
namespace Go.Proofs.YtlpjmjielpdhiaaGreatDoor
namespace Ex
open Go

section
variable {P : Program} {E : Env} {r r' : Nat → Option Nm} {s s' : Tr Blk} {w w' : World}

theorem srcA_sound (hI : Inv E r s w) {z m : Nat} {y new : AV} {v : Value} (hy : den r y = some [v]) (h : srcA s z y = some (m, new)) :
    ∃ l, den r new = some l ∧ (∀ w' : World, (Builtin.lenOf v).run P w' = .ok m w') ∧ (Builtin.firstCells z m v).run P w = .ok l.toArray w := by
  unfold srcA at h
  split at h
  · cases one_eq (den_prim hy).1
    simp only [Option.some.injEq, Prod.mk.injEq] at h
    obtain ⟨rfl, rfl⟩ := h
    exact ⟨[], rfl, fun w' => by simp [Builtin.lenOf], by simp [Builtin.firstCells]⟩
  · rename_i n off len c
    obtain ⟨a, ha, e⟩ := den_sl hy
    cases one_eq e
    split at h
    · rename_i l' hl
      simp only [Option.some.injEq, Prod.mk.injEq] at h
      obtain ⟨rfl, rfl⟩ := h
      obtain ⟨a', k, ha', hk, hd, hc⟩ := rdN_sound hI hl
      rw [ha] at ha'; cases ha'
      refine ⟨k, hd, fun w' => by simp [Builtin.lenOf], ?_⟩
      have := run_cells (P := P) hc
      rw [hk] at this
      simp [Builtin.firstCells, this]
    · simp at h
  · rename_i l
    cases one_eq (den_str hy)
    cases hz : Nat.beq z 1 with
    | false => simp [hz] at h
    | true =>
      simp only [hz, cond_true] at h
      split at h
      · rename_i c hc
        simp only [Option.some.injEq, Prod.mk.injEq] at h
        obtain ⟨rfl, rfl⟩ := h
        have hs : (⟨l.toArray⟩ : ByteArray).size = l.length := by show l.toArray.size = _; simp
        refine ⟨_, ofL_den _ _ hc, fun w' => by simp [Builtin.lenOf, hs], ?_⟩
        simp [Builtin.firstCells, string_extract]
      · simp at h
  · simp at h

theorem xCopy_sound (hI : Inv E r s w) {t : TypeId} {x y : AV} {u v : Value} {q : OpR} (hx : den r x = some [u]) (hy : den r y = some [v]) (h : xCopy P s t x y = some q) (ts : Array TypeId) (ht : ts[0]? = some t) (ty : TypeId) :
    ∃ v' s', q = .val v' s' false ∧ ∃ w' z, Inv E r s' w' ∧ den r v' = some [z] ∧ (Builtin.copy_ ts ty #[u, v]).run P w = .ok z w' := by
  unfold xCopy at h
  split at h
  · rename_i e hu
    split at h
    · rename_i z hz
      split at h
      · rename_i m new n off len c hsrc
        obtain ⟨a, ha, e1⟩ := den_sl hx
        cases one_eq e1
        obtain ⟨l, hd, hlen, hfirst⟩ := srcA_sound (P := P) hI hy hsrc
        cases hb : (Nat.ble m len && new.isLen (m * z)) with
        | false => simp [hb] at h
        | true =>
          simp only [hb, cond_true] at h
          simp only [Bool.and_eq_true] at hb
          have hle := Nat.le_of_ble_eq_true hb.1
          split at h
          · rename_i s1 hwr
            simp only [Option.some.injEq] at h; subst h
            obtain ⟨a', w', ha', h1, h2⟩ := wr_sound (P := P) hI hd hwr
            rw [ha] at ha'; cases ha'
            refine ⟨_, _, rfl, w', .int .i64 m, h2, rfl, ?_⟩
            have hmin : Nat.min m len = m := Nat.min_eq_left hle
            simp [Builtin.copy_, ht, run_underlying hu, hlen, hmin, run_size hz, hfirst, h1, goInt]
          · simp at h
      · simp at h
    · simp at h
  · simp at h

theorem run_bytes_all {t : TypeId} {z : Nat} (h : bytesO P t = some z) : ∃ i, i.bytes = z ∧ ∀ w, (typeInfo t).run P w = .ok i w := by
  unfold bytesO at h
  split at h
  · rename_i i hi
    simp only [Option.some.injEq] at h
    exact ⟨i, h, fun w => by simp [typeInfo, hi]⟩
  · simp at h
theorem nextcap_le {need cap : Nat} (h : cap < need) (hn : need ≤ 2000000) : Builtin.nextslicecap need cap ≤ 200000000 := by
  unfold Builtin.nextslicecap
  split
  · omega
  · split
    · omega
    · simp only [Builtin.growBy]
      split
      · omega
      · split
        · omega
        · split
          · omega
          · split
            · omega
            · omega

theorem cut_ge {need c e : Nat} (t : Nat) : need ≤ (Question.appendCap need c e).cut t := by simp [Question.cut]

/-- append, where the room is enough -/
theorem run_append_in {ts : Array TypeId} {t u e ty : TypeId} {d : TypeDesc} {z m n c : Nat} {x : Value} {new : Array Value} {a : Addr} (h0 : ts[0]? = some t) (h1 : ts[1]? = some u) (hu : P.underlying t = some (.slice e)) (hd : P.underlying u = some d) (hni : ∀ k, d ≠ .int k)
    (hz : szO P e = some z) (hlen : ∀ w' : World, (Builtin.lenOf x).run P w' = .ok m w') (hfirst : (Builtin.firstCells z m x).run P w = .ok new w) (hle : n + m ≤ c) (hst : (storeCells (a.add (n * z)) new.toList).run P w = .ok () w') :
    (Builtin.append_ ts ty #[.slice (some a) n c, x]).run P w = .ok (.slice (some a) (n + m) c) w' := by
  have hk : ∀ w' : World, (do pure ((← underlying u) matches .int _) : Sem Bool).run P w' = .ok false w' := fun w' => by
    cases d <;> simp_all [run_underlying hd]
  cases d <;> first | (exact absurd rfl (hni _)) | simp [Builtin.append_, h0, h1, run_underlying hu, run_size hz, run_underlying hd, hlen, hle, hfirst, hst]

set_option maxHeartbeats 3200000 in
theorem run_append_grow {ts : Array TypeId} {t u e ty : TypeId} {d : TypeDesc} {z m n c by' : Nat} {x : Value} {old new : Array Value} {base : Option Addr} {zv : Value} (h0 : ts[0]? = some t) (h1 : ts[1]? = some u) (hu : P.underlying t = some (.slice e)) (hd : P.underlying u = some d) (hni : ∀ k, d ≠ .int k)
    (hz : szO P e = some z) (hby : bytesO P e = some (by' + 1)) (hb1 : by' ≤ 1000000) (hlen : ∀ w' : World, (Builtin.lenOf x).run P w' = .ok m w') (hn : n + m ≤ 2000000) (hgt : c < n + m)
    (hold : (Builtin.firstCells z n (.slice base n c)).run P w.drew = .ok old w.drew)
    (hfirst : (Builtin.firstCells z m x).run P w.drew = .ok new w.drew)
    (hzero : (zeroValue e).run P w.drew = .ok zv w.drew) :
    ∃ nc, n + m ≤ nc ∧ (Builtin.append_ ts ty #[.slice base n c, x]).run P w = .ok (.slice (some ⟨w.drew.heap.size, 0, none⟩) (n + m) nc)
      (w.drew.alloc (.cells (old ++ (new ++ Builtin.zeroCells zv.cells (nc - (n + m)))) e)) := by
  refine ⟨(Question.appendCap (n + m) c e).cut (w.tape w.drawn (.appendCap (n + m) c e)), cut_ge _, ?_⟩
  obtain ⟨i, hib, hi⟩ := run_bytes_all hby
  have hnc := nextcap_le hgt hn
  have g1 : ¬ n + m ≤ c := by omega
  have g2 : ¬ (i.bytes = 0) := by omega
  have g3 : ¬ (281474976710656 < Builtin.nextslicecap (n + m) c * i.bytes) := by
    have : Builtin.nextslicecap (n + m) c * i.bytes ≤ 200000000 * 1000001 := Nat.mul_le_mul hnc (by omega)
    omega
  cases d
  case int k => exact absurd rfl (hni k)
  all_goals simp [Builtin.append_, h0, h1, run_underlying hu, run_size hz, run_underlying hd, hlen, g1, hi, g2, g3, Question.forced, hold, hfirst, hzero, newRow]
end

end Ex
end Go.Proofs.YtlpjmjielpdhiaaGreatDoor
