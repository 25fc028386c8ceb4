/- THE WALK BY RECKONING, 8: slices, lookups, conversions. No condition. -/
import Derived.Test.YtlpjmjielpdhiaaGreatDoorF4
set_option linter.unusedSimpArgs false
set_option linter.unusedVariables false
namespace Go.Proofs.YtlpjmjielpdhiaaGreatDoor
namespace Ex
open Go

section
variable {P : Program} {E : Env} {r : Nat → Option Nm} {s : Tr Blk} {w : World}

theorem capLo_le (hI : Inv E r s w) {n : Nat} {a : Nm} (ha : r n = some a) (c : Cap) : capLo s n c ≤ c.den a.kap := by
  cases c with
  | ex k => exact Nat.le_refl _
  | room i =>
    simp only [capLo, Cap.den]
    split
    · rename_i e z cs lo wh hg
      obtain ⟨a', _, _, _, ha', _, _, _, h4, _⟩ := rowOf hI hg
      rw [ha] at ha'; cases ha'
      omega
    · exact Nat.zero_le _

theorem run_bound {y n : Nat} {k : IntKind} (h : n ≤ y) (code : BoundsCode) (w : World) : (Instr.sliceBound (.int k (n : Int)) y code).run P w = .ok n w := by
  have : (0 : Int) ≤ (n : Int) ∧ (n : Int) ≤ (y : Int) := by omega
  simp [Instr.sliceBound, asIntOf, this]

/-- bounds as they are given: none, or a number -/
def BR (r : Nat → Option Nm) : Option Nat → Option Value → Prop
  | none, none => True
  | some n, some v => ∃ k, v = .int k (n : Int)
  | none, some _ => False
  | some _, none => False
theorem run_bounds {sl : Bool} {len cap : Nat} {lo hi : Option Nat} {vl vh : Option Value} (hl : BR r lo vl) (hh : BR r hi vh) (h1 : hi.getD len ≤ cap) (h2 : lo.getD 0 ≤ hi.getD len) (w : World) :
    (Instr.sliceBounds sl len cap vl vh none).run P w = .ok (lo.getD 0, hi.getD len, cap) w := by
  cases hi with
  | none =>
    cases vh with
    | some _ => exact hh.elim
    | none =>
      cases lo with
      | none => cases vl with
        | some _ => exact hl.elim
        | none => simp [Instr.sliceBounds]
      | some n => cases vl with
        | none => exact hl.elim
        | some v => obtain ⟨k, rfl⟩ := hl; simp at h2; simp [Instr.sliceBounds, run_bound h2]
  | some m =>
    cases vh with
    | none => exact hh.elim
    | some v =>
      obtain ⟨k, rfl⟩ := hh
      simp at h1
      cases lo with
      | none => cases vl with
        | some _ => exact hl.elim
        | none => simp [Instr.sliceBounds, run_bound h1]
      | some n => cases vl with
        | none => exact hl.elim
        | some v => obtain ⟨k, rfl⟩ := hl; simp at h2; simp [Instr.sliceBounds, run_bound h1, run_bound h2]

theorem string_extract (l : List UInt8) (a b : Nat) : (⟨l.toArray⟩ : ByteArray).extract a b = ⟨((l.take b).drop a).toArray⟩ := by
  apply ByteArray.ext
  simp [ByteArray.data_extract, List.extract_eq_take_drop, List.drop_take]

theorem xSlice_sound (hI : Inv E r s w) {t : TypeId} {x y : AV} {lo hi : Option Nat} {u : Value} {vl vh : Option Value} (hx : den r x = some [u]) (hl : BR r lo vl) (hh : BR r hi vh)
    (h : xSlice P s t x lo hi = some y) : ∃ q, den r y = some [q] ∧ (Instr.sliceAt t u vl vh none).run P w = .ok q w := by
  unfold xSlice at h
  split at h
  · rename_i l hu
    cases one_eq (den_str hx)
    cases hb : (Nat.ble (hi.getD l.length) l.length && Nat.ble (lo.getD 0) (hi.getD l.length)) with
    | false => simp [hb] at h
    | true =>
      simp only [hb, cond_true, Option.some.injEq] at h; subst h
      simp only [Bool.and_eq_true] at hb
      have h1 := Nat.le_of_ble_eq_true hb.1
      have h2 := Nat.le_of_ble_eq_true hb.2
      have hs : (⟨l.toArray⟩ : ByteArray).size = l.length := by show l.toArray.size = _; simp
      refine ⟨_, rfl, ?_⟩
      have := run_bounds (P := P) (sl := false) (len := l.length) (cap := l.length) hl hh h1 h2 w
      simp [Instr.sliceAt, Instr.slice, run_underlying hu, hs, this, string_extract]
  · rename_i e n off len c hu
    obtain ⟨a, ha, e1⟩ := den_sl hx
    cases one_eq e1
    split at h
    · rename_i z hz
      have hcap := capLo_le hI ha c
      cases hb : (Nat.ble (hi.getD len) (capLo s n c) && Nat.ble (lo.getD 0) (hi.getD len) && Nat.ble len (capLo s n c)) with
      | false => simp [hb] at h
      | true =>
        simp only [hb, cond_true] at h
        simp only [Bool.and_eq_true] at hb
        have h1 := Nat.le_of_ble_eq_true hb.1.1
        have h2 := Nat.le_of_ble_eq_true hb.1.2
        have hr := run_bounds (P := P) (sl := true) (len := len) (cap := c.den a.kap) hl hh (by omega) h2 w
        split at h
        · rename_i k
          simp only [Option.some.injEq] at h; subst h
          refine ⟨_, by simp only [den, ha]; rfl, ?_⟩
          cases hk : Nat.beq k (lo.getD 0) with
          | true =>
            have := Nat.eq_of_beq_eq_true hk
            simp only [Instr.sliceAt, Instr.slice, Sem.run_bind, run_underlying hu, Result.andThen_ok, hr, run_size hz, Sem.run_pure, cond_true]
            simp only [Cap.den, this, if_true]
          | false =>
            have : ¬ k = lo.getD 0 := fun e => by rw [e] at hk; simp at hk
            simp only [Instr.sliceAt, Instr.slice, Sem.run_bind, run_underlying hu, Result.andThen_ok, hr, run_size hz, Sem.run_pure, cond_false]
            simp only [Cap.den, this, if_false, Option.map_some, add_none, Nat.add_assoc]
        · rename_i i
          cases hb2 : (Nat.beq (lo.getD 0) 0 || Nat.blt (lo.getD 0) (capLo s n (.room i))) with
          | false => simp [hb2] at h
          | true =>
            simp only [hb2, cond_true, Option.some.injEq] at h; subst h
            refine ⟨_, by simp only [den, ha]; rfl, ?_⟩
            have e3 : Cap.den a.kap (.room (i + lo.getD 0)) = Cap.den a.kap (.room i) - lo.getD 0 := by simp only [Cap.den]; omega
            simp only [Instr.sliceAt, Instr.slice, Sem.run_bind, run_underlying hu, Result.andThen_ok, hr, run_size hz, Sem.run_pure, e3]
            by_cases h0 : Cap.den a.kap (.room i) = lo.getD 0
            · simp only [h0, if_true]
              simp only [Bool.or_eq_true] at hb2
              rcases hb2 with hb2 | hb2
              · have := Nat.eq_of_beq_eq_true hb2
                simp [this]
              · have := blt_iff hb2; omega
            · simp only [h0, if_false, Option.map_some, add_none, Nat.add_assoc]
    · simp at h
  · rename_i e hu
    cases one_eq (den_prim hx).1
    cases hb : ((szO P e).isSome && Nat.beq (hi.getD 0) 0 && Nat.beq (lo.getD 0) 0) with
    | false => simp [hb] at h
    | true =>
      simp only [hb, cond_true, Option.some.injEq] at h; subst h
      simp only [Bool.and_eq_true] at hb
      have h1 := Nat.eq_of_beq_eq_true hb.1.2
      have h2 := Nat.eq_of_beq_eq_true hb.2
      have hr := run_bounds (P := P) (sl := true) (len := 0) (cap := 0) hl hh (by omega) (by omega) w
      refine ⟨.slice none 0 0, rfl, ?_⟩
      have e1 : hi.getD 0 = 0 := h1
      have e2 : lo.getD 0 = 0 := h2
      rw [e1, e2] at hr
      cases hz : szO P e with
      | none => simp [hz] at hb
      | some k =>
        have hs := run_size hz w
        simp [Instr.sliceAt, Instr.slice, run_underlying hu, hr, hs]
  · simp at h

theorem xConvert_sound (hI : Inv E r s w) {src dst : TypeId} {x y : AV} {u : Value} (hx : den r x = some [u]) (h : xConvert P s src dst x = some y) :
    ∃ q, den r y = some [q] ∧ (convert src dst u).run P w = .ok q w := by
  unfold xConvert at h
  split at h
  · rename_i d k k0 n hs hu
    cases one_eq (den_prim hx).1
    simp only [Option.some.injEq] at h; subst h
    refine ⟨_, rfl, ?_⟩
    simp [convert, run_underlying hs, run_underlying hu, Conv.intToInt]
  · rename_i t0 n off hs hu
    obtain ⟨a, ha, e⟩ := den_ptr hx
    cases one_eq e
    split at h
    · rename_i k v hz hrd
      simp only [Option.some.injEq] at h; subst h
      refine ⟨_, hx, ?_⟩
      obtain ⟨a', v', ha', hc, _⟩ := rd_sound hI hrd
      rw [ha] at ha'; cases ha'
      have hsh : ∃ c e, w.heap[a.blk]? = some c ∧ w.shape? a.blk = some e ∧ a.off + off < e.2 := by
        simp only [World.cell?, Option.isSome_none] at hc
        split at hc
        · rename_i c e _ hh
          refine ⟨_, (e, c.size), hh, by simp [World.shape?, hh], ?_⟩
          simp only [Bool.false_eq_true, if_false] at hc
          exact (Array.getElem?_eq_some_iff.1 hc).1
        · simp at hc
      obtain ⟨c, ⟨e, m⟩, _, hsh, hlt⟩ := hsh
      have hno : decide (a.off + off ≥ m) = false := by simpa using hlt
      simp [convert, run_underlying hs, run_underlying hu, Conv.unsafePointer, Conv.seenAt, viewAt, hsh, cellsIn, run_size hz, hno]
    · simp at h
  · rename_i u0 n off hs hu
    obtain ⟨a, ha, e⟩ := den_ptr hx
    cases one_eq e
    split at h
    · rename_i e z cs lo k hg hz
      cases hb : (cs.isLen cs.len && liesAt P P.depth e (cs.len / P.cellsOf e) off u0 1) with
      | false => simp [hb] at h
      | true =>
        simp only [hb, cond_true, Option.some.injEq] at h; subst h
        simp only [Bool.and_eq_true] at hb
        refine ⟨_, hx, ?_⟩
        obtain ⟨a', pre, l, post, ha', h1, h2, h3, _, _, h6, _⟩ := rowOf hI hg
        rw [ha] at ha'; cases ha'
        obtain ⟨rfl, rfl⟩ := h6 rfl
        have hl := isLen_den _ _ _ h3 hb.1
        simp only [List.nil_append, List.append_nil] at h1
        have hsh := shapeOf h1
        simp only [List.size_toArray, hl] at hsh
        simp only [List.length_nil] at h2
        simp [convert, run_underlying hs, run_underlying hu, Conv.unsafePointer, Conv.seenAt, viewAt, hsh, run_size hz, variablesAt, ← h2, hb.2]
    · simp at h
  · simp at h

theorem xAssert_sound {x y : AV} {u : Value} {t : TypeId} {ok : Bool} (hx : den r x = some [u]) (h : xAssert P x t ok = some y) (xt : TypeId) (w : World) :
    ∃ q, den r y = some [q] ∧ (Instr.typeAssert u xt t ok).run P w = .ok q w := by
  unfold xAssert at h
  split at h
  · simp at h
  · rename_i d0 d v hu hd
    obtain ⟨v', hv, e⟩ := den_ifc hx
    cases one_eq e
    split at h
    · rename_i ht
      subst ht
      cases ok with
      | true =>
        simp only [if_true, Option.some.injEq] at h; subst h
        refine ⟨.tuple #[v', .bool true], by simp [den, hv, pr], ?_⟩
        cases d0 <;> simp_all [Instr.typeAssert, run_underlying]
      | false =>
        simp only [Bool.false_eq_true, if_false, Option.some.injEq] at h; subst h
        refine ⟨v', hv, ?_⟩
        cases d0 <;> simp_all [Instr.typeAssert, run_underlying]
    · rename_i ht
      cases ok with
      | false => simp at h
      | true =>
        simp only [if_true] at h
        split at h
        · rename_i z hz
          simp only [Option.some.injEq] at h; subst h
          obtain ⟨zv, h1, h2, _⟩ := run_zero (r := r) hz w
          refine ⟨.tuple #[zv, .bool false], by simp [den, h2, pr], ?_⟩
          cases d0 <;> simp_all [Instr.typeAssert, run_underlying]
        · simp at h
  · simp at h
end

end Ex
end Go.Proofs.YtlpjmjielpdhiaaGreatDoor
