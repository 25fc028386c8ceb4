/- THE WALK BY RECKONING, 10: whatever operation only looks. No condition. -/
import Derived.Test.YtlpjmjielpdhiaaGreatDoorF6
import Derived.Lib.UnsafeStr
set_option linter.unusedSimpArgs false
set_option linter.unusedVariables false
namespace Go.Proofs.YtlpjmjielpdhiaaGreatDoor
namespace Ex
open Go

section
variable {P : Program} {E : Env} {r : Nat → Option Nm} {s : Tr Blk} {w : World} {ids : List FuncId} {ev : Operand → Option AV} {ρ : Operand → Value}

def EvOk (r : Nat → Option Nm) (ev : Operand → Option AV) (ρ : Operand → Value) : Prop := ∀ x v, ev x = some v → den r v = some [ρ x]
def IdsOk (P : Program) (ids : List FuncId) : Prop := ∀ f, ids.contains f = true → ∀ x w, (callFunc f #[x]).run P w = .ok (.value x) w

theorem mapO_sound (hev : EvOk r ev ρ) : ∀ (l : List Operand) (a : AV), mapO ev l = some a → den r a = some (l.map ρ)
  | [], a, h => by simp only [mapO, Option.some.injEq] at h; subst h; rfl
  | x :: l, a, h => by
    simp only [mapO] at h
    split at h
    · rename_i v q hv hq
      simp only [Option.some.injEq] at h; subst h
      exact den_cons_of (hev x v hv) (mapO_sound hev l q hq)
    · simp at h
theorem mapP_sound (hev : EvOk r ev ρ) : ∀ (l : List (Nat × Operand)) (a : List (Nat × AV)), mapP ev l = some a → PR r a (l.map fun (i, x) => (i, ρ x))
  | [], a, h => by simp only [mapP, Option.some.injEq] at h; subst h; trivial
  | (i, x) :: l, a, h => by
    simp only [mapP] at h
    split at h
    · rename_i v q hv hq
      simp only [Option.some.injEq] at h; subst h
      exact ⟨rfl, hev x v hv, mapP_sound hev l q hq⟩
    · simp at h
theorem bndO_sound (hev : EvOk r ev ρ) {o : Option Operand} {b : Option Nat} (h : bndO ev o = some b) : BR r b (o.map ρ) := by
  unfold bndO at h
  split at h
  · simp only [Option.some.injEq] at h; subst h; trivial
  · rename_i x
    split at h
    · rename_i v hv
      split at h
      · rename_i n hn
        simp only [Option.some.injEq] at h; subst h
        exact asN_sound (hev x v hv) hn
      · simp at h
    · simp at h

def okNil : Value → Bool
  | .pointer (some _) => true
  | .slice .. => true
  | .map _ => true
  | .func (.func _) _ _ => true
  | .iface _ _ => true
  | _ => false
theorem xNil_sound {x y : AV} {u : Value} (hx : den r x = some [u]) (h : xNil x = some y) : y = x ∧ okNil u = true := by
  unfold xNil at h
  split at h <;> simp only [Option.some.injEq, reduceCtorEq] at h <;> subst h
  · cases one_eq (den_prim hx).1; exact ⟨rfl, rfl⟩
  · obtain ⟨_, _, e⟩ := den_ptr hx; cases one_eq e; exact ⟨rfl, rfl⟩
  · obtain ⟨_, _, e⟩ := den_sl hx; cases one_eq e; exact ⟨rfl, rfl⟩
  · obtain ⟨_, _, e⟩ := den_mp hx; cases one_eq e; exact ⟨rfl, rfl⟩
  · obtain ⟨_, _, _, _, e⟩ := den_fn hx; cases one_eq e; exact ⟨rfl, rfl⟩
  · obtain ⟨_, _, e⟩ := den_ifc hx; cases one_eq e; exact ⟨rfl, rfl⟩
theorem run_nilCheck {o : Oper} {x : Operand} (ho : o.op = .nilCheck x) (h : okNil (ρ x) = true) (w : World) : (execOp ρ o).run P w = .ok (.value (ρ x)) w := by
  unfold execOp
  rw [ho]
  dsimp only
  generalize ρ x = u at h ⊢
  cases u with
  | pointer a => cases a with
    | none => simp [okNil] at h
    | some a => simp
  | func f a b => cases f <;> first | (simp [okNil] at h; done) | simp
  | _ => first | (simp [okNil] at h; done) | simp

theorem xBuiltinV_sound (hI : Inv E r s w) {b : Builtin} {ts : Array TypeId} {as y : AV} {l : List Value} (hx : den r as = some l) (h : xBuiltinV P s b ts as = some y) (ty : TypeId) (cs : Array Bool) :
    ∃ q, den r y = some [q] ∧ (builtin b ts ty cs l.toArray).run P w = .ok (.value q) w := by
  unfold xBuiltinV at h
  split at h
  · rename_i t x ht
    obtain ⟨u, k, h1, h2, rfl⟩ := den_cons hx
    rw [den_nil h2]
    obtain ⟨q, h3, h4⟩ := xLen_sound hI h1 h ts ht ty
    exact ⟨q, h3, by simp [builtin, h4]⟩
  · rename_i x l' 
    obtain ⟨u, k, h1, h2, rfl⟩ := den_cons hx
    obtain ⟨h3, h4⟩ := listA_den l' k h2
    cases hb : l'.isLen l'.len with
    | false => simp [hb] at h
    | true =>
      simp only [hb, cond_true] at h
      obtain ⟨q, h5, h6⟩ := xMinMax_sound (P := P) (w := w) true (listA l') x y u k h1 h4 (h3 _ hb) h
      refine ⟨q, h5, ?_⟩
      simp only [if_true] at h6
      simp [builtin, Builtin.max_, h6]
  · rename_i x l' 
    obtain ⟨u, k, h1, h2, rfl⟩ := den_cons hx
    obtain ⟨h3, h4⟩ := listA_den l' k h2
    cases hb : l'.isLen l'.len with
    | false => simp [hb] at h
    | true =>
      simp only [hb, cond_true] at h
      obtain ⟨q, h5, h6⟩ := xMinMax_sound (P := P) (w := w) false (listA l') x y u k h1 h4 (h3 _ hb) h
      refine ⟨q, h5, ?_⟩
      simp only [Bool.false_eq_true, if_false] at h6
      simp [builtin, Builtin.min_, h6]
  · rename_i n o _ c
    obtain ⟨u, k, h1, h2, rfl⟩ := den_cons hx
    rw [den_nil h2]
    obtain ⟨a, ha, e⟩ := den_sl h1
    cases one_eq e
    split at h
    · rename_i m hm
      simp only [Option.some.injEq] at h; subst h
      have hle := capLo_le hI ha c
      have hne : ¬ c.den a.kap = 0 := by omega
      exact ⟨_, by simp only [den, ha]; rfl, by simp only [builtin, Sem.run_bind, Lib.run_unsafeSliceData_row (P := P) w ts ty _ _ _ hne, Result.andThen_ok, Sem.run_pure]⟩
    · simp at h
  · simp at h

theorem exV_sound (hids : IdsOk P ids) (hI : Inv E r s w) (hev : EvOk r ev ρ) {o : Oper} {v : AV} (h : exV P ids ev s o = some v) :
    ∃ u, den r v = some [u] ∧ (execOp ρ o).run P w = .ok (.value u) w := by
  unfold exV at h
  split at h
  case h_1 x ho => exact ⟨ρ x, hev x v h, by simp [execOp, ho]⟩
  case h_2 x ho => exact ⟨ρ x, hev x v h, by simp [execOp, ho]⟩
  case h_3 c a b ho =>
    split at h
    · rename_i hc
      have := one_eq (den_prim (hev c _ hc)).1
      exact ⟨ρ a, hev a v h, by simp [execOp, ho, this, asBool]⟩
    · rename_i hc
      have := one_eq (den_prim (hev c _ hc)).1
      exact ⟨ρ b, hev b v h, by simp [execOp, ho, this, asBool]⟩
    · simp at h
  case h_4 t ps ho =>
    split at h
    · rename_i l hl
      obtain ⟨q, h1, h2⟩ := xBuild_sound (mapP_sound hev ps.toList l hl) h w
      refine ⟨q, h1, ?_⟩
      have e : ∀ f : Nat × Operand → Nat × Value, (List.map f ps.toList).toArray = ps.map f := fun f => by
        apply Array.toList_inj.1; simp
      rw [e] at h2
      simp only [execOp, ho, Sem.run_bind, h2, Result.andThen_ok, Sem.run_pure]
    · simp at h
  case h_5 t a ho =>
    split at h
    · rename_i a' ha
      obtain ⟨q, h1, h2⟩ := xLoad_sound hI (hev a _ ha) h
      exact ⟨q, h1, by simp [execOp, ho, h2]⟩
    · simp at h
  case h_6 x ho =>
    split at h
    · rename_i a' ha
      obtain ⟨rfl, h2⟩ := xNil_sound (hev x _ ha) h
      exact ⟨ρ x, hev x _ ha, run_nilCheck ho h2 w⟩
    · simp at h
  case h_7 op t x y z ho =>
    split at h
    · rename_i a b ha hb
      obtain ⟨q, h1, h2⟩ := binA_sound hI (hev x _ ha) (hev y _ hb) h
      have h3 := h2 x y
      exact ⟨q, h1, by simp only [execOp, ho, Sem.run_bind] at h3 ⊢; rw [h3]; rfl⟩
    · simp at h
  case h_8 t x ho =>
    split at h
    · rename_i b hb
      have := one_eq (den_prim (hev x _ hb)).1
      simp only [Option.some.injEq] at h; subst h
      exact ⟨.bool (!b), rfl, by simp only [execOp, ho]; rw [this]; rfl⟩
    · simp at h
  case h_9 src dst x ho =>
    split at h
    · rename_i a ha
      obtain ⟨q, h1, h2⟩ := xConvert_sound hI (hev x _ ha) h
      exact ⟨q, h1, by simp [execOp, ho, h2]⟩
    · simp at h
  case h_10 t x ho =>
    split at h
    · simp at h
    · rename_i a d hnot ha hu
      simp only [Option.some.injEq] at h; subst h
      have := hev x _ ha
      refine ⟨.iface t (ρ x), by simp [den, this], ?_⟩
      cases d <;> simp_all [execOp, Instr.makeInterface, run_underlying]
    · simp at h
  case h_11 f first captured ho =>
    split at h
    · rename_i a b ha hb
      simp only [Option.some.injEq] at h; subst h
      have h1 := mapO_sound hev _ _ ha
      have h2 := mapO_sound hev _ _ hb
      refine ⟨.func (.func f) (first.map ρ) (captured.map ρ), ?_, by simp [execOp, ho, Instr.makeFunc]⟩
      have e : ∀ xs : Array Operand, (List.map ρ xs.toList).toArray = xs.map ρ := fun xs => by apply Array.toList_inj.1; simp
      simp only [den, h1, h2, e]
    · simp at h
  case h_12 t x lo hi ho =>
    split at h
    · rename_i a b c ha hb hc
      obtain ⟨q, h1, h2⟩ := xSlice_sound hI (hev x _ ha) (bndO_sound hev hb) (bndO_sound hev hc) h
      exact ⟨q, h1, by simp [execOp, ho, h2]⟩
    · simp at h
  case h_13 t x f ho =>
    split at h
    · rename_i a ha
      obtain ⟨q, h1, h2⟩ := xFieldAddr_sound (hev x _ ha) h w
      exact ⟨q, h1, by simp [execOp, ho, h2]⟩
    · simp at h
  case h_14 t x f ho =>
    split at h
    · rename_i a ha
      obtain ⟨q, h1, h2⟩ := xField_sound (hev x _ ha) h w
      exact ⟨q, h1, by simp [execOp, ho, h2]⟩
    · simp at h
  case h_15 t x ix ho =>
    split at h
    · rename_i a b ha hb
      obtain ⟨q, h1, h2⟩ := xIndexAddr_sound (hev x _ ha) (hev ix _ hb) h w
      exact ⟨q, h1, by simp [execOp, ho, h2]⟩
    · simp at h
  case h_16 t x ix ho =>
    split at h
    · rename_i a b ha hb
      obtain ⟨q, h1, h2⟩ := xIndex_sound (hev x _ ha) (hev ix _ hb) h w
      exact ⟨q, h1, by simp [execOp, ho, h2]⟩
    · simp at h
  case h_17 t x ix ok ho =>
    split at h
    · rename_i a b ha hb
      obtain ⟨q, h1, h2⟩ := xLookup_sound hI (hev x _ ha) (hev ix _ hb) h
      exact ⟨q, h1, by simp [execOp, ho, h2]⟩
    · simp at h
  case h_18 x xt t ok ho =>
    split at h
    · rename_i a ha
      obtain ⟨q, h1, h2⟩ := xAssert_sound (hev x _ ha) h xt w
      exact ⟨q, h1, by simp [execOp, ho, h2]⟩
    · simp at h
  case h_19 t ix ho =>
    split at h
    · rename_i vs hv
      obtain ⟨k, h1, e⟩ := den_tup (hev t _ hv)
      obtain ⟨q, h2, h3⟩ := nth_den vs ix v k h1 h
      refine ⟨q, h3, ?_⟩
      have e2 := one_eq e
      simp [execOp, ho, e2, Instr.extract, h2]
    · simp at h
  case h_20 c ho =>
    split at h
    · rename_i b hc
      split at h
      · rename_i as has
        have h1 := mapO_sound hev _ _ has
        obtain ⟨q, h2, h3⟩ := xBuiltinV_sound hI h1 h o.type (c.args.map fun | .const _ => true | _ => false)
        refine ⟨q, h2, ?_⟩
        have e : (List.map ρ c.args.toList).toArray = c.args.map ρ := by apply Array.toList_inj.1; simp
        rw [e] at h3
        simp only [execOp, ho, resolve, hc, Sem.run_bind, Sem.run_pure, Result.andThen_ok, invoke]
        exact h3
      · simp at h
    · rename_i f hc
      split at h
      · rename_i fv as hf has
        have h1 := mapO_sound hev _ _ has
        have h2 := hev f _ hf
        unfold xId at h
        split at h
        · rename_i f'
          cases hb : ids.contains f' with
          | false => rw [hb] at h; simp at h
          | true =>
            rw [hb, cond_true] at h
            split at h
            · rename_i x
              simp only [Option.some.injEq] at h; subst h
              obtain ⟨x', y', h3, h4, e⟩ := den_fn h2
              obtain ⟨u, k, h5, h6, e2⟩ := den_cons h1
              rw [den_nil h3, den_nil h4] at e
              rw [den_nil h6] at e2
              refine ⟨u, h5, ?_⟩
              have e3 := one_eq e
              have e4 : c.args.map ρ = #[u] := by apply Array.toList_inj.1; simpa using e2
              have := hids f' hb u w
              simp [execOp, ho, resolve, hc, invoke, e3, e4, Deferred.ofValue, this]
            · simp at h
        · simp at h
      · simp at h
    · simp at h
  case h_21 => simp at h
end

end Ex
end Go.Proofs.YtlpjmjielpdhiaaGreatDoor
