/- THE WALK BY RECKONING, 19: code and calls. No condition. -/
import Derived.Test.YtlpjmjielpdhiaaGreatDoorF15
set_option linter.unusedSimpArgs false
set_option linter.unusedVariables false
namespace Go.Proofs.YtlpjmjielpdhiaaGreatDoor
namespace Ex
open Go

def EX.exit' : EX → Exit
  | .normal => .normal
  | .exit id => .exit id
  | .ret => .ret

section
variable {P : Program} {E : Env} {ids : List FuncId} {call : FuncId → AV → St → Option (AV × St)} {lf dep : Nat}

def CodeQ (E : Env) (r0 : Nat → Option Nm) (s0 : St) (x : EX) (rgF : Regs) (sF : St) : Exit → Act → World → Prop :=
  fun e a w => e = x.exit' ∧ ∃ r, Ext r0 s0 r sF ∧ Good E r sF w ∧ RegOk r rgF a

def CodeOk (P : Program) (E : Env) (c : Code) (f : Regs → St → Option (EX × Regs × St)) : Prop :=
  ∀ rg s x rgF sF r a w, f rg s = some (x, rgF, sF) → Good E r s w → RegOk r rg a → c.wp P (CodeQ E r s x rgF sF) a w

theorem CodeQ.widen {r0 r1 : Nat → Option Nm} {s0 s1 : St} {x : EX} {rgF : Regs} {sF : St} (h : Ext r0 s0 r1 s1) {e : Exit} {a : Act} {w : World} (q : CodeQ E r1 s1 x rgF sF e a w) : CodeQ E r0 s0 x rgF sF e a w := by
  obtain ⟨h1, r, h2, h3, h4⟩ := q
  exact ⟨h1, r, h.trans h2, h3, h4⟩

theorem loop_sound {c : Code} {f : Regs → St → Option (EX × Regs × St)} (hf : CodeOk P E c f) : CodeOk P E (.loop c) (iter lf f) := by
  intro rg s x rgF sF r a w h hG hR b k cs
  have key : ∀ (n : Nat) (rg : Regs) (s : St) (r : Nat → Option Nm) (a : Act) (w : World), iter n f rg s = some (x, rgF, sF) → Good E r s w → RegOk r rg a →
      ∃ e a' w', CodeQ E r s x rgF sF e a' w' ∧ Arrives P (lone (b.at a (.code c :: .inLoop c :: k)) cs w) b k cs e a' w' := by
    intro n
    induction n with
    | zero => intro rg s r a w h; simp [iter] at h
    | succ n ih =>
      intro rg s r a w h hG hR
      simp only [iter] at h
      split at h
      · rename_i rg1 s1 hs
        obtain ⟨e, a1, w1, ⟨he, r1, h1, h2, h3⟩, harr⟩ := hf rg s _ _ _ r a w hs hG hR b (.inLoop c :: k) cs
        subst he
        obtain ⟨e2, a2, w2, hq, harr2⟩ := ih rg1 s1 r1 a1 w1 h h2 h3
        exact ⟨e2, a2, w2, hq.widen h1, .of_steps (Steps.trans harr (.one step_inLoop)) harr2⟩
      · rename_i hne
        obtain ⟨e, a1, w1, hq, harr⟩ := hf rg s _ _ _ r a w h hG hR b (.inLoop c :: k) cs
        refine ⟨e, a1, w1, hq, .pass (x := .inLoop c) rfl (fun _ _ => .inl ?_) harr⟩
        intro e0
        obtain ⟨he, _⟩ := hq
        subst he
        cases x with
        | normal => exact hne _ _ h
        | exit id => cases e0
        | ret => cases e0
  obtain ⟨e, a', w', hq, harr⟩ := key lf rg s r a w h hG hR
  exact ⟨e, a', w', hq, .of_steps (.one step_loop) harr⟩

theorem exCode_sound (hids : IdsOk P ids) (hm : P.follows .mixedOrders = true) (hcall : CallOk P E call) : ∀ c : Code, CodeOk P E c (exCode P ids call lf dep c) := by
  intro c
  induction c with
  | skip =>
    intro rg s x rgF sF r a w h hG hR
    simp only [exCode, Option.some.injEq, Prod.mk.injEq] at h
    obtain ⟨rfl, rfl, rfl⟩ := h
    exact wp_skip ⟨rfl, r, Ext.refl, hG, hR⟩
  | label l =>
    intro rg s x rgF sF r a w h hG hR
    simp only [exCode, Option.some.injEq, Prod.mk.injEq] at h
    obtain ⟨rfl, rfl, rfl⟩ := h
    exact wp_label ⟨rfl, r, Ext.refl, hG, hR⟩
  | region id ops draw =>
    intro rg s x rgF sF r a w h hG hR
    simp only [exCode] at h
    split at h
    · rename_i rg1 s1 hs
      simp only [Option.some.injEq, Prod.mk.injEq] at h
      obtain ⟨rfl, rfl, rfl⟩ := h
      cases draw with
      | true =>
        simp only [cond_true] at hs
        exact wp_mono (exDraw_sound hids hcall hm hs hG hR) fun e a w ⟨he, q⟩ => ⟨he, q⟩
      | false =>
        simp only [cond_false] at hs
        exact wp_region_list (exOps_sound hids hcall ops.toList rg s r a w rg1 s1 hs hG hR fun r' a' w' h1 h2 h3 => ⟨rfl, r', h1, h2, h3⟩)
    · simp at h
  | seq c1 c2 ih1 ih2 =>
    intro rg s x rgF sF r a w h hG hR
    simp only [exCode] at h
    split at h
    · rename_i rg1 s1 hs
      refine wp_seq (wp_mono (ih1 rg s _ _ _ r a w hs hG hR) ?_)
      rintro e a1 w1 ⟨rfl, r1, h1, h2, h3⟩
      exact wp_mono (ih2 rg1 s1 _ _ _ r1 a1 w1 h h2 h3) fun e a w q => q.widen h1
    · rename_i hne
      refine wp_seq (wp_mono (ih1 rg s _ _ _ r a w h hG hR) ?_)
      rintro e a1 w1 ⟨rfl, q⟩
      cases x with
      | normal => exact absurd h (hne _ _)
      | exit id => exact ⟨rfl, q⟩
      | ret => exact ⟨rfl, q⟩
  | cond c x y ihx ihy =>
    intro rg s q rgF sF r a w h hG hR
    simp only [exCode] at h
    split at h
    · rename_i hc
      exact wp_cond_true (one_eq (den_prim (hR.ev c _ hc)).1) (ihx rg s _ _ _ r a w h hG hR)
    · rename_i hc
      exact wp_cond_false (one_eq (den_prim (hR.ev c _ hc)).1) (ihy rg s _ _ _ r a w h hG hR)
    · simp at h
  | block id b ih =>
    intro rg s x rgF sF r a w h hG hR
    simp only [exCode] at h
    split at h
    · rename_i k rg1 s1 hs
      refine wp_block (wp_mono (ih rg s _ _ _ r a w hs hG hR) ?_)
      rintro e a1 w1 ⟨rfl, q⟩
      cases hk : Nat.beq k id with
      | true =>
        simp only [hk, cond_true, Option.some.injEq, Prod.mk.injEq] at h
        obtain ⟨rfl, rfl, rfl⟩ := h
        have := Nat.eq_of_beq_eq_true hk
        subst this
        simp only [EX.exit', Exit.inBlock, if_true]
        exact ⟨rfl, q⟩
      | false =>
        simp only [hk, cond_false, Option.some.injEq, Prod.mk.injEq] at h
        obtain ⟨rfl, rfl, rfl⟩ := h
        have hne : k ≠ id := fun e => by subst e; simp at hk
        simp only [EX.exit', Exit.inBlock, hne, if_false]
        exact ⟨rfl, q⟩
    · rename_i hne
      refine wp_block (wp_mono (ih rg s _ _ _ r a w h hG hR) ?_)
      rintro e a1 w1 ⟨rfl, q⟩
      cases x with
      | exit k => exact absurd h (hne _ _ _)
      | normal => exact ⟨rfl, q⟩
      | ret => exact ⟨rfl, q⟩
  | loop b ih => 
    intro rg s x rgF sF r a w h hG hR
    exact loop_sound ih rg s x rgF sF r a w h hG hR
  | exit id =>
    intro rg s x rgF sF r a w h hG hR
    simp only [exCode, Option.some.injEq, Prod.mk.injEq] at h
    obtain ⟨rfl, rfl, rfl⟩ := h
    exact wp_exit ⟨rfl, r, Ext.refl, hG, hR⟩
  | scope b ih =>
    intro rg s x rgF sF r a w h hG hR
    simp only [exCode] at h
    refine wp_scope_straight (wp_mono (ih rg s _ _ _ r a w h hG hR) ?_)
    rintro e a1 w1 ⟨rfl, q⟩
    cases x <;> exact ⟨rfl, q⟩
  | ret =>
    intro rg s x rgF sF r a w h hG hR
    simp only [exCode, Option.some.injEq, Prod.mk.injEq] at h
    obtain ⟨rfl, rfl, rfl⟩ := h
    exact wp_ret ⟨rfl, r, Ext.refl, hG, hR⟩
  | _ => intro rg s x rgF sF r a w h; simp [exCode] at h

theorem den_empty {r : Nat → Option Nm} {x : AV} (h : den r x = some []) : x = .nil := by
  cases x with
  | nil => rfl
  | prim v => have := (den_prim h).1; simp at this
  | str q => have := den_str h; simp at this
  | ptr n o => obtain ⟨_, _, e⟩ := den_ptr h; simp at e
  | sl n o l c => obtain ⟨_, _, e⟩ := den_sl h; simp at e
  | mp n => obtain ⟨_, _, e⟩ := den_mp h; simp at e
  | ifc t q => obtain ⟨_, _, e⟩ := den_ifc h; simp at e
  | agg q => obtain ⟨_, _, e⟩ := den_agg h; simp at e
  | tup q => obtain ⟨_, _, e⟩ := den_tup h; simp at e
  | fn f a b => obtain ⟨_, _, _, _, e⟩ := den_fn h; simp at e
  | cons a b => obtain ⟨_, _, _, _, e⟩ := den_cons h; simp at e

/-- F: what the model runs for one result. -/
theorem resA_sound {r : Nat → Option Nm} {s : St} {w : World} {rg : Regs} {a : Act} {F : ResultVar → Sem Value} (hF1 : ∀ t v, a.tmps[t]? = some v → (F (.tmp t)).run P w = .ok v w)
    (hF2 : ∀ p t b z, a.tmps[p]? = some (.pointer (some b)) → (loadVar t b).run P w = .ok z w → (F (.cell p t)).run P w = .ok z w) (hI : Inv E r s.hp w) (hR : RegOk r rg a) : ∀ (l : List ResultVar) (x : AV), resA P s rg.tm l = some x →
    ∃ vs, den r x = some vs ∧ (l.mapM F).run P w = .ok vs w ∧ x.isLen l.length = true := by
  intro l
  induction l with
  | nil => intro x h; simp only [resA, Option.some.injEq] at h; subst h; exact ⟨[], rfl, by simp, rfl⟩
  | cons y l ih =>
    intro x h
    simp only [resA] at h
    split at h
    · rename_i v q hv hq
      simp only [Option.some.injEq] at h; subst h
      obtain ⟨vs, h1, h2, hl⟩ := ih q hq
      split at hv
      · rename_i t
        obtain ⟨u, h3, h4⟩ := hR.at_ t v hv
        refine ⟨u :: vs, den_cons_of h3 h1, ?_, hl⟩
        rw [List.mapM_cons]
        simp only [Sem.run_bind, hF1 t u h4, Result.andThen_ok, h2, Sem.run_pure]
      · rename_i p t
        split at hv
        · rename_i pa hp
          obtain ⟨u, h3, h4⟩ := hR.at_ p pa hp
          obtain ⟨z, h5, h6⟩ := xLoad_sound (P := P) hI h3 hv
          refine ⟨z :: vs, den_cons_of h5 h1, ?_, hl⟩
          rw [List.mapM_cons]
          have h7 : (F (.cell p t)).run P w = .ok z w := by
            cases pa with
            | ptr n off =>
              obtain ⟨b, hb, e⟩ := den_ptr h3
              cases one_eq e
              exact hF2 p t _ z h4 (by simpa [Instr.loadAt, Instr.sureAddr] using h6)
            | _ => simp [xLoad] at hv
          simp only [Sem.run_bind, h7, Result.andThen_ok, h2, Sem.run_pure]
        · simp at hv
    · simp at h

theorem putArgs_ok {r : Nat → Option Nm} : ∀ (as : AV) (l : List Value) (i : Nat) (tm : Tr AV) (tmps : Array Value), den r as = some l → (∀ j v, l[j]? = some v → tmps[i + j]? = some v) →
    (∀ t av, tm.get t = some av → ∃ v, den r av = some [v] ∧ tmps[t]? = some v) → ∀ t av, (putArgs as i tm).get t = some av → ∃ v, den r av = some [v] ∧ tmps[t]? = some v := by
  intro as
  induction as with
  | cons h t _ iht =>
    intro l i tm tmps hd hl htm
    obtain ⟨v, k, h1, h2, rfl⟩ := den_cons hd
    simp only [putArgs]
    refine iht k (i + 1) _ tmps h2 (fun j u hj => by have := hl (j + 1) u (by simpa using hj); rw [show i + 1 + j = i + (j + 1) by omega]; exact this) ?_
    intro t' av ht
    rcases Tr.get_set _ _ _ _ _ ht with ⟨rfl, h4⟩ | ⟨_, h4⟩
    · cases h4; exact ⟨v, h1, by simpa using hl 0 v rfl⟩
    · exact htm t' av h4
  | _ => intro l i tm tmps _ _ htm; exact htm

theorem exCall_sound (hids : IdsOk P ids) (hm : P.follows .mixedOrders = true) : ∀ n : Nat, CallOk P E (exCall P ids lf dep n) := by
  intro n
  induction n with
  | zero => intro f as s v s' r w l h; simp [exCall] at h
  | succ n ih =>
    intro f as s v s' r w l h hG hd
    simp only [exCall] at h
    split at h
    · rename_i fn hfn
      split at h
      · rename_i c hc
        cases hal : as.isLen as.len with
        | false => simp [hal] at h
        | true =>
          simp only [hal, Bool.not_true, cond_false] at h
          have hlen := isLen_den _ _ _ hd hal
          have hR : RegOk r { n := as.len + (fn.ntmps - as.len), tm := putArgs as 0 (Tr.mk (Nat.log2 (fn.ntmps + as.len + 1) + 1)) } { tmps := l.toArray ++ Array.replicate (fn.ntmps - l.toArray.size) undef, defers := [] } := by
            refine ⟨by simp [hlen], ?_, rfl⟩
            refine putArgs_ok as l 0 _ _ hd (fun j u hj => ?_) (fun t av ht => by rw [Tr.get_mk] at ht; cases ht)
            have hlt := (List.getElem?_eq_some_iff.1 hj).1
            rw [Nat.zero_add, Array.getElem?_append_left (by simpa using hlt)]
            simpa using hj
          have fin : ∀ x rg1 s1, exCode P ids (exCall P ids lf dep n) lf dep c { n := as.len + (fn.ntmps - as.len), tm := putArgs as 0 (Tr.mk (Nat.log2 (fn.ntmps + as.len + 1) + 1)) } s = some (x, rg1, s1) →
              (x = .normal ∨ x = .ret) → (match resA P s1 rg1.tm fn.results.toList with
                | some l => some (outA l, s1)
                | none => none) = some (v, s') → Calls P f l.toArray w (fun e w' => ∃ r' u, Ext r s r' s' ∧ Good E r' s' w' ∧ den r' v = some [u] ∧ e = .returned u) := by
            intro x rg1 s1 hx hxx hres
            refine calls_of_wp hfn hc (wp_mono (exCode_sound hids hm ih c _ s x rg1 s1 r _ w hx hG hR) ?_)
            rintro e a1 w1 ⟨rfl, r1, h1, h2, h3⟩
            split at hres
            · rename_i y hy
              simp only [Option.some.injEq, Prod.mk.injEq] at hres
              obtain ⟨rfl, rfl⟩ := hres
              have hout : ∃ u, den r1 (outA y) = some [u] ∧ (results fn a1.tmps).run P w1 = .ok u w1 := by
                have hmap : ∀ F : ResultVar → Sem Value, (∀ t v, a1.tmps[t]? = some v → (F (.tmp t)).run P w1 = .ok v w1) → (∀ p t b z, a1.tmps[p]? = some (.pointer (some b)) → (loadVar t b).run P w1 = .ok z w1 → (F (.cell p t)).run P w1 = .ok z w1) →
                    ∃ vs, den r1 y = some vs ∧ (fn.results.mapM F).run P w1 = .ok vs.toArray w1 ∧ y.isLen fn.results.toList.length = true := by
                  intro F hF1 hF2
                  obtain ⟨vs, h4, h5, h45⟩ := resA_sound (P := P) hF1 hF2 h2.inv h3 fn.results.toList y hy
                  refine ⟨vs, h4, ?_, h45⟩
                  rw [Array.mapM_eq_mapM_toList]
                  simp only [Sem.run_map]
                  rw [h5]
                  rfl
                unfold results
                simp only [Sem.run_bind]
                generalize hFF : (fun (x : ResultVar) => (_ : Sem Value)) = F
                obtain ⟨vs, h4, h5, h45⟩ := hmap F (fun t v h => by subst hFF; simp [h]) (fun p t b z h hz => by subst hFF; simp [h, asAddr, hz])
                rw [h5]
                simp only [Result.andThen_ok, Sem.run_pure]
                by_cases h1' : vs.length = 1
                · obtain ⟨z, rfl⟩ : ∃ z, vs = [z] := by
                    cases vs with
                    | nil => simp at h1'
                    | cons z q => cases q with
                      | nil => exact ⟨z, rfl⟩
                      | cons _ _ => simp at h1'
                  cases y with
                  | cons a b =>
                    obtain ⟨v', k, e1, e2, e3⟩ := den_cons h4
                    simp only [List.cons.injEq] at e3
                    obtain ⟨rfl, rfl⟩ := e3
                    rw [den_empty e2]
                    exact ⟨z, e1, by simp⟩
                  | nil => simp [den] at h4
                  | _ => simp [AV.isLen] at h45
                · refine ⟨.tuple vs.toArray, ?_, by simp [h1']⟩
                  have : outA y = .tup y := by
                    unfold outA
                    split
                    · obtain ⟨v', k, e1, e2, e3⟩ := den_cons h4
                      rw [den_nil e2] at e3
                      rw [e3] at h1'
                      exact absurd rfl h1'
                    · rfl
                  rw [this]
                  simp [den, h4]
              obtain ⟨u, h6, h7⟩ := hout
              rcases hxx with rfl | rfl
              · exact ⟨h3.defers, u, h7, r1, u, h1, h2, h6, rfl⟩
              · exact ⟨h3.defers, u, h7, r1, u, h1, h2, h6, rfl⟩
            · simp at hres
          split at h
          · rename_i rg1 s1 hx
            exact fin _ rg1 s1 hx (.inl rfl) h
          · rename_i rg1 s1 hx
            exact fin _ rg1 s1 hx (.inr rfl) h
          · simp at h
      · simp at h
    · simp at h
end

end Ex
end Go.Proofs.YtlpjmjielpdhiaaGreatDoor
