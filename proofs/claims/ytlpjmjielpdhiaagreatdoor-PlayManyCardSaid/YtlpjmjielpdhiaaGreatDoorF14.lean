/- THE WALK BY RECKONING, 17: one step, and regions in the order of the text. No condition. -/
import Derived.Test.YtlpjmjielpdhiaaGreatDoorF13
set_option linter.unusedSimpArgs false
set_option linter.unusedVariables false
namespace Go.Proofs.YtlpjmjielpdhiaaGreatDoor
namespace Ex
open Go

structure RegOk (r : Nat → Option Nm) (rg : Regs) (a : Act) : Prop where
  size : a.tmps.size = rg.n
  at_ : ∀ t av, rg.tm.get t = some av → ∃ v, den r av = some [v] ∧ a.tmps[t]? = some v
  defers : a.defers = []
structure Good (E : Env) (r : Nat → Option Nm) (s : St) (w : World) : Prop where
  inv : Inv E r s.hp w
  free : ∀ n, s.nx ≤ n → r n = none
structure Ext (r : Nat → Option Nm) (s : St) (r' : Nat → Option Nm) (s' : St) : Prop where
  le : Le r r'
  old : ∀ n, n < s.nx → r n = none → r' n = none
  nx : s.nx ≤ s'.nx

section
variable {P : Program} {E : Env} {r r' : Nat → Option Nm} {w w' : World} {ids : List FuncId} {call : FuncId → AV → St → Option (AV × St)} {rg rg' : Regs} {s s' : St} {a : Act} {ops : Array Oper}

theorem Ext.refl : Ext r s r s := ⟨Le.refl r, fun _ _ h => h, Nat.le_refl _⟩
theorem Ext.trans {r'' : Nat → Option Nm} {s'' : St} (h : Ext r s r' s') (h' : Ext r' s' r'' s'') : Ext r s r'' s'' :=
  ⟨h.le.trans h'.le, fun n hn h0 => h'.old n (Nat.lt_of_lt_of_le hn h.nx) (h.old n hn h0), Nat.le_trans h.nx h'.nx⟩
theorem RegOk.mono (h : Le r r') (hr : RegOk r rg a) : RegOk r' rg a :=
  ⟨hr.size, fun t av ht => let ⟨v, h1, h2⟩ := hr.at_ t av ht; ⟨v, den_mono h _ _ h1, h2⟩, hr.defers⟩

theorem RegOk.ev (hr : RegOk r rg a) : EvOk r (evO rg.tm) a.eval := by
  intro x v h
  cases x with
  | tmp t =>
    obtain ⟨u, h1, h2⟩ := hr.at_ t v h
    simp [Act.eval, h2, h1]
  | const c => exact ofV_den h
  | global g => simp only [evO, Option.some.injEq] at h; subst h; rfl
  | func f => simp only [evO, Option.some.injEq] at h; subst h; rfl

theorem RegOk.put (hr : RegOk r rg a) {d : Option Tmp} {v : AV} {u : Value} (h : rg.put d v = some rg') (hv : den r v = some [u]) : RegOk r rg' (a.put d u) := by
  unfold Regs.put at h
  split at h
  · rename_i d
    cases hb : Nat.blt d rg.n with
    | false => simp [hb] at h
    | true =>
      simp only [hb, cond_true, Option.some.injEq] at h; subst h
      have hlt := blt_iff hb
      refine ⟨by simp [Act.put, hr.size], fun t av ht => ?_, hr.defers⟩
      rcases Tr.get_set _ _ _ _ _ ht with ⟨rfl, h2⟩ | ⟨hne, h2⟩
      · cases h2
        exact ⟨u, hv, by simp [Act.put, Array.getElem?_setIfInBounds_self, hr.size, hlt]⟩
      · obtain ⟨v', h3, h4⟩ := hr.at_ t av h2
        exact ⟨v', h3, by simp [Act.put, Array.getElem?_setIfInBounds_ne (Ne.symm hne), h4]⟩
  · simp only [Option.some.injEq] at h; subst h
    exact hr

theorem wantO_sound (hr : RegOk r rg a) {o : Oper} {b : Bool} (h : wantO ops rg.tm o = some b) : Region.wanted o (yielded ops a.tmps) = b := by
  unfold wantO at h
  unfold Region.wanted
  split at h
  · rename_i hg; simp only [Option.some.injEq] at h; subst h; rw [hg]
  · rename_i j want hg
    rw [hg]
    simp only [yielded]
    split at h
    · rename_i hd
      simp only [Option.some.injEq] at h; subst h
      rw [hd]; rfl
    · rename_i t hd
      rw [hd]
      simp only [Option.bind_some]
      split at h
      · rename_i b' ht
        obtain ⟨v, h1, h2⟩ := hr.at_ t _ ht
        cases one_eq (den_prim h1).1
        simp only [Option.some.injEq] at h; subst h
        rw [h2]
        cases b' <;> cases want <;> rfl
      · rename_i ht
        obtain ⟨v, h1, h2⟩ := hr.at_ t _ ht
        obtain ⟨k, h3, e⟩ := den_tup h1
        cases one_eq e
        simp only [Option.some.injEq] at h; subst h
        rw [h2]; rfl
      · simp at h

/-- what a call gives -/
def CallOk (P : Program) (E : Env) (call : FuncId → AV → St → Option (AV × St)) : Prop :=
  ∀ f as s v s' r w l, call f as s = some (v, s') → Good E r s w → den r as = some l →
    Calls P f l.toArray w (fun e w' => ∃ r' u, Ext r s r' s' ∧ Good E r' s' w' ∧ den r' v = some [u] ∧ e = .returned u)

/-- what one step leaves -/
def StepOk (E : Env) (r : Nat → Option Nm) (s : St) (k : Nat) (rg' : Regs) (s' : St) (a' : Act) (w' : World) : Prop :=
  ∃ r', Le r r' ∧ (∀ n, n < s.nx → n ≠ k → r n = none → r' n = none) ∧ s.nx ≤ s'.nx ∧ Good E r' s' w' ∧ RegOk r' rg' a'

theorem step1_sound (hids : IdsOk P ids) (hcall : CallOk P E call) {seq : Bool} {k : Nat} {o : Oper} (h : step1 P ids call seq k o rg s = some (rg', s')) (hG : Good E r s w) (hR : RegOk r rg a) (hk : r k = none)
    (hseq : seq = true → k = s.nx) (hns : seq = false → k < s.nx) {K : Act → World → Prop} {Q : Exit → Act → World → Prop} (hK : ∀ a' w', StepOk E r s k rg' s' a' w' → K a' w') : o.wp P a w K Q := by
  unfold step1 at h
  split at h
  · rename_i v hv
    split at h
    · rename_i rg1 hp
      simp only [Option.some.injEq, Prod.mk.injEq] at h
      obtain ⟨rfl, rfl⟩ := h
      obtain ⟨u, h1, h2⟩ := exV_sound (P := P) hids hG.inv hR.ev hv
      unfold Oper.wp
      rw [h2]
      exact hK _ _ ⟨r, Le.refl r, fun _ _ _ h => h, Nat.le_refl _, hG, hR.put hp h1⟩
    · simp at h
  · split at h
    · rename_i v hp' used hv
      split at h
      · rename_i rg1 hp
        simp only [Option.some.injEq, Prod.mk.injEq] at h
        obtain ⟨rfl, rfl⟩ := h
        obtain ⟨r1, w1, u, h1, h2, h3, h4, h5, h6⟩ := exS_sound (P := P) hG.inv hR.ev hk hv
        have fin : K (a.put o.dst u) w1 := by
          refine hK _ _ ⟨r1, h1, fun n hn hne h0 => h2 n hne h0, ?_, ⟨h4, ?_⟩, (hR.mono h1).put hp h5⟩
          · show s.nx ≤ (bif seq && used then k + 1 else s.nx)
            cases seq with
            | false => exact Nat.le_refl _
            | true => rw [hseq rfl]; cases used <;> simp
          · intro n hn
            have hn : (bif seq && used then k + 1 else s.nx) ≤ n := hn
            cases seq with
            | false =>
              simp only [Bool.false_and, cond_false] at hn
              have := hns rfl
              exact h2 n (by omega) (hG.free n hn)
            | true =>
              cases used with
              | false =>
                simp only [Bool.and_false, cond_false] at hn
                by_cases hnk : n = k
                · rw [hnk]; exact h3 rfl
                · exact h2 n hnk (hG.free n hn)
              | true =>
                simp only [Bool.and_self, cond_true] at hn
                have := hseq rfl
                exact h2 n (by omega) (hG.free n (by omega))
        unfold Oper.wp
        rcases h6 with h6 | ⟨rfl, h6⟩
        · rw [h6]; exact fin
        · rw [h6]; exact fin
      · simp at h
    · rename_i f as hv
      split at h
      · rename_i v s1 hc
        split at h
        · rename_i rg1 hp
          simp only [Option.some.injEq, Prod.mk.injEq] at h
          obtain ⟨rfl, rfl⟩ := h
          obtain ⟨l, h1, h2⟩ := exS_sound (P := P) hG.inv hR.ev hk hv
          unfold Oper.wp
          rw [h2]
          refine (hcall f as s v s1 r w l hc hG h1).mono ?_
          rintro e w1 ⟨r1, u, h3, h4, h5, rfl⟩
          exact hK _ _ ⟨r1, h3.le, fun n hn _ h0 => h3.old n hn h0, h3.nx, h4, (hR.mono h3.le).put hp h5⟩
        · simp at h
      · simp at h
    · simp at h

theorem exOps_sound (hids : IdsOk P ids) (hcall : CallOk P E call) {Q : Exit → Act → World → Prop} : ∀ (l : List Oper) (rg : Regs) (s : St) (r : Nat → Option Nm) (a : Act) (w : World) (rg' : Regs) (s' : St), exOps P ids call ops l rg s = some (rg', s') → Good E r s w → RegOk r rg a →
    (∀ r' a' w', Ext r s r' s' → Good E r' s' w' → RegOk r' rg' a' → Q .normal a' w') → wpList P ops Q l a w := by
  intro l
  induction l with
  | nil =>
    intro rg s r a w rg' s' h hG hR hQ
    simp only [exOps, Option.some.injEq, Prod.mk.injEq] at h
    obtain ⟨rfl, rfl⟩ := h
    exact hQ r a w Ext.refl hG hR
  | cons o l ih =>
    intro rg s r a w rg' s' h hG hR hQ
    simp only [exOps] at h
    split at h
    · rename_i rg1 s1 hst
      unfold stepG at hst
      simp only [wpList]
      split at hst
      · rename_i hw
        rw [wantO_sound hR hw, if_pos rfl]
        refine .inl (step1_sound hids hcall hst hG hR (hG.free _ (Nat.le_refl _)) (fun _ => rfl) (fun e => by cases e) ?_)
        rintro a1 w1 ⟨r1, h1, h2, h3, h4, h5⟩
        refine ih rg1 s1 r1 a1 w1 rg' s' h h4 h5 fun r2 a2 w2 h6 h7 h8 => hQ r2 a2 w2 (Ext.trans ⟨h1, fun n hn h0 => h2 n hn (by omega) h0, h3⟩ h6) h7 h8
      · rename_i hw
        rw [wantO_sound hR hw, if_neg (by simp)]
        split at hst
        · rename_i rg2 hp
          simp only [Option.some.injEq, Prod.mk.injEq] at hst
          obtain ⟨rfl, rfl⟩ := hst
          exact ih rg2 s r _ w rg' s' h hG (hR.put hp undefA_den) hQ
        · simp at hst
      · simp at hst
    · simp at h
end

end Ex
end Go.Proofs.YtlpjmjielpdhiaaGreatDoor
