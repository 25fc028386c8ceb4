/- THE WALK BY RECKONING, 18: regions that draw their order. No condition. -/
import Derived.Test.YtlpjmjielpdhiaaGreatDoorF14
set_option linter.unusedSimpArgs false
set_option linter.unusedVariables false
namespace Go.Proofs.YtlpjmjielpdhiaaGreatDoor
namespace Ex
open Go

theorem vsame_eq {a b : Value} (h : vsame a b = true) : a = b := by
  unfold vsame at h
  split at h <;> simp_all
theorem Cap.same_eq {a b : Cap} (h : a.same b = true) : a = b := by
  unfold Cap.same at h
  split at h
  · rw [Nat.eq_of_beq_eq_true h]
  · rw [Nat.eq_of_beq_eq_true h]
  · simp at h
theorem AV.same_eq : ∀ (a b : AV), a.same b = true → a = b := by
  intro a
  induction a with
  | prim v => intro b h; cases b <;> simp only [AV.same, Bool.false_eq_true] at h; rw [vsame_eq h]
  | str s => intro b h; cases b <;> simp only [AV.same, Bool.false_eq_true] at h; rw [eqBytes_iff, beq_iff_eq] at h; rw [h]
  | ptr n o => intro b h; cases b <;> simp only [AV.same, Bool.false_eq_true, Bool.and_eq_true, Nat.beq_eq] at h; rw [h.1, h.2]
  | sl n o l c =>
    intro b h
    cases b <;> simp only [AV.same, Bool.false_eq_true, Bool.and_eq_true, Nat.beq_eq] at h
    rw [h.1.1.1, h.1.1.2, h.1.2, Cap.same_eq h.2]
  | mp n => intro b h; cases b <;> simp only [AV.same, Bool.false_eq_true, Nat.beq_eq] at h; rw [h]
  | ifc t v ih => intro b h; cases b <;> simp only [AV.same, Bool.false_eq_true, Bool.and_eq_true, Nat.beq_eq] at h; rw [h.1, ih _ h.2]
  | agg v ih => intro b h; cases b <;> simp only [AV.same, Bool.false_eq_true] at h; rw [ih _ h]
  | tup v ih => intro b h; cases b <;> simp only [AV.same, Bool.false_eq_true] at h; rw [ih _ h]
  | fn f x y ihx ihy => intro b h; cases b <;> simp only [AV.same, Bool.false_eq_true, Bool.and_eq_true, Nat.beq_eq] at h; rw [h.1.1, ihx _ h.1.2, ihy _ h.2]
  | nil => intro b h; cases b <;> simp only [AV.same, Bool.false_eq_true] at h; rfl
  | cons x y ihx ihy => intro b h; cases b <;> simp only [AV.same, Bool.false_eq_true, Bool.and_eq_true] at h; rw [ihx _ h.1, ihy _ h.2]
theorem esame_eq : ∀ (a b : List (AV × AV × Nat)), esame a b = true → a = b
  | [], [], _ => rfl
  | [], _ :: _, h => by simp [esame] at h
  | _ :: _, [], h => by simp [esame] at h
  | (a, b, n) :: l, (c, d, m) :: k, h => by
    simp only [esame, Bool.and_eq_true, Nat.beq_eq] at h
    rw [AV.same_eq _ _ h.1.1.1, AV.same_eq _ _ h.1.1.2, h.1.2, esame_eq l k h.2]
theorem Blk.same_eq {a b : Blk} (h : a.same b = true) : a = b := by
  cases a <;> cases b <;> simp only [Blk.same, Bool.false_eq_true, Bool.and_eq_true, Nat.beq_eq, beq_iff_eq] at h
  · rw [h.1.1.1.1, h.1.1.1.2, AV.same_eq _ _ h.1.1.2, h.1.2, h.2]
  · rw [esame_eq _ _ h.1, h.2]
  · rw [eqBytes_iff, beq_iff_eq] at h; rw [h.1, h.2]
theorem osame_eq {α : Type} {f : α → α → Bool} (hf : ∀ a b, f a b = true → a = b) {a b : Option α} (h : osame f a b = true) : a = b := by
  cases a <;> cases b <;> simp only [osame, Bool.false_eq_true] at h
  · rfl
  · rw [hf _ _ h]
theorem Tr.same_eq {α : Type} {f : α → α → Bool} (hf : ∀ a b, f a b = true → a = b) : ∀ (a b : Tr α), a.same f b = true → a = b := by
  intro a
  induction a with
  | leaf => intro b h; cases b <;> simp only [Tr.same, Bool.false_eq_true] at h; rfl
  | node v l r ihl ihr =>
    intro b h
    cases b <;> simp only [Tr.same, Bool.false_eq_true, Bool.and_eq_true] at h
    rw [osame_eq hf h.1.1, ihl _ h.1.2, ihr _ h.2]

theorem held_eq {hs s : Tr Blk} : ∀ (l : List Nat), held hs s l = true → ∀ n ∈ l, hs.get n = s.get n
  | [], _, n, hn => by cases hn
  | m :: l, h, n, hn => by
    simp only [held, Bool.and_eq_true] at h
    rcases List.mem_cons.1 hn with rfl | hn
    · exact osame_eq (fun _ _ => Blk.same_eq) h.1
    · exact held_eq l h.2 n hn
theorem subHp_mem {s : Tr Blk} : ∀ (l : List Nat) (t : Tr Blk) (n : Nat) (b : Blk), (subHp s l t).get n = some b → n ∈ l ∨ t.get n = some b
  | [], t, n, b, h => .inr h
  | m :: l, t, n, b, h => by
    simp only [subHp] at h
    rcases subHp_mem l _ n b h with h | h
    · exact .inl (List.mem_cons_of_mem _ h)
    · rcases Tr.get_set _ _ _ _ _ h with ⟨rfl, _⟩ | ⟨_, h2⟩
      · exact .inl List.mem_cons_self
      · exact .inr h2

section
variable {P : Program} {E : Env} {r r0 r' : Nat → Option Nm} {w w0 w' : World} {ids : List FuncId} {call : FuncId → AV → St → Option (AV × St)} {rg rg' : Regs} {s s' s0 : St} {a : Act} {ops : Array Oper} {hs : Tr Blk} {hn : List Nat}

theorem Inv.mono {t : Tr Blk} (h : Le r r') (hI : Inv E r t w) : Inv E r' t w := by
  refine ⟨fun n b hb => ?_, fun n m b c a d hb hc hne ha hd => ?_, hI.keep, hI.os, hI.output, hI.tape⟩
  · obtain ⟨a, h1, h2, h3⟩ := hI.blk n b hb
    exact ⟨a, h n a h1, h2.mono h rfl, h3⟩
  · obtain ⟨a', h1, _⟩ := hI.blk n b hb
    obtain ⟨d', h2, _⟩ := hI.blk m c hc
    have e1 := h n a' h1
    have e2 := h m d' h2
    rw [ha] at e1; cases e1
    rw [hd] at e2; cases e2
    exact hI.apart n m b c a d hb hc hne h1 h2
theorem Inv.sub {t u : Tr Blk} (h : ∀ n b, u.get n = some b → t.get n = some b) (hI : Inv E r t w) : Inv E r u w :=
  ⟨fun n b hb => hI.blk n b (h n b hb), fun n m b c a d hb hc => hI.apart n m b c a d (h n b hb) (h m c hc), hI.keep, hI.os, hI.output, hI.tape⟩

theorem esOk_back (h : Le r0 r') : ∀ (es : List (AV × AV × Nat)) (ms ms' : List MapEntry), esOk r0 es ms → esOk r' es ms' → esOk r0 es ms'
  | [], _, [], _, _ => trivial
  | [], _, _ :: _, _, h2 => h2.elim
  | _ :: _, [], _, h1, _ => h1.elim
  | _ :: _, _ :: _, [], _, h2 => h2.elim
  | e :: es, m :: ms, m' :: ms', ⟨a1, a2, a3, a4⟩, ⟨b1, b2, b3, b4⟩ => by
    have e1 := den_mono h _ _ a1
    have e2 := den_mono h _ _ a2
    rw [b1] at e1; rw [b2] at e2
    have e1 := one_eq (Option.some.inj e1)
    have e2 := one_eq (Option.some.inj e2)
    exact ⟨by rw [e1]; exact a1, by rw [e2]; exact a2, b3, esOk_back h es ms ms' a4 b4⟩
/-- the held blocks still lie as they lay -/
theorem Inv.again (h0 : Inv E r0 hs w0) (hle : Le r0 r') (hI : Inv E r' s.hp w') (hcov : ∀ n b, hs.get n = some b → n ∈ hn) (hh : held hs s.hp hn = true) : Inv E r0 hs w' := by
  have hget : ∀ n b, hs.get n = some b → s.hp.get n = some b := fun n b hb => by rw [← held_eq hn hh n (hcov n b hb)]; exact hb
  refine ⟨fun n b hb => ?_, h0.apart, hI.keep, hI.os, hI.output, hI.tape⟩
  obtain ⟨a, h1, h2, h3⟩ := h0.blk n b hb
  obtain ⟨a', h4, h5, _⟩ := hI.blk n b (hget n b hb)
  have e := hle n a h1
  rw [h4] at e; cases e
  refine ⟨_, h1, ?_, h3⟩
  cases b with
  | cells e z cs lo wh =>
    obtain ⟨pre, l, post, g1, g2, g3, g4⟩ := h5
    obtain ⟨_, l0, _, _, _, g5, _⟩ := h2
    have := den_mono hle _ _ g5
    rw [g3] at this; cases this
    exact ⟨pre, l, post, g1, g2, g5, g4⟩
  | map es clk =>
    obtain ⟨m, g1, g2⟩ := h5
    obtain ⟨m0, _, g3⟩ := h2
    exact ⟨m, g1, esOk_back hle _ _ _ g3 g2⟩
  | iter s p => exact h5

theorem sureV_sound (hids : IdsOk P ids) (hI0 : ∀ w, Inv E r0 hs w → True) (hle : Le r0 r) (hR : RegOk r rg a) {o : Oper} (h : sureV P ids ops hs o rg = some rg') (hw : Inv E r0 hs w) :
    ∃ u, YieldsIf P ops (fun w => Inv E r0 hs w) o u a ∧ RegOk r rg' (a.put o.dst u) := by
  unfold sureV at h
  split at h
  · rename_i hwant
    split at h
    · rename_i v hv
      obtain ⟨u, h1, h2⟩ := exV_sound (P := P) hids (hw.mono hle) hR.ev hv
      refine ⟨u, .inl ⟨wantO_sound hR hwant, fun w' hw' => ?_⟩, hR.put h h1⟩
      obtain ⟨u', h3, h4⟩ := exV_sound (P := P) hids (Inv.mono hle hw') hR.ev hv
      rw [h1] at h3; cases h3
      exact h4
    · simp at h
  · rename_i hwant
    exact ⟨undef, .inr ⟨wantO_sound hR hwant, rfl⟩, hR.put h undefA_den⟩
  · simp at h

theorem firstSure_sound {listed : Array Bool} : ∀ (l : List Nat) (j : Nat) (rg' : Regs), firstSure P ids ops hs listed rg l = some (j, rg') →
    j ∈ l ∧ ∃ o, ops[j]? = some o ∧ Region.free .any ops listed j = true ∧ sureV P ids ops hs o rg = some rg'
  | [], j, rg', h => by simp [firstSure] at h
  | i :: l, j, rg', h => by
    simp only [firstSure] at h
    split at h
    · rename_i o ho
      split at h
      · rename_i rg1 hs1
        cases hf : Region.free .any ops listed i with
        | true =>
          simp only [hf, cond_true, Option.some.injEq, Prod.mk.injEq] at h
          obtain ⟨rfl, rfl⟩ := h
          exact ⟨List.mem_cons_self, o, ho, hf, hs1⟩
        | false =>
          simp only [hf, cond_false] at h
          obtain ⟨h1, h2⟩ := firstSure_sound l j rg' h
          exact ⟨List.mem_cons_of_mem _ h1, h2⟩
      · obtain ⟨h1, h2⟩ := firstSure_sound l j rg' h
        exact ⟨List.mem_cons_of_mem _ h1, h2⟩
    · simp at h

theorem allSame_sound {q : Regs × St} {f : Nat → Option (Regs × St)} : ∀ (l : List Nat), allSame q f l = true → ∀ i ∈ l, f i = some q
  | [], _, i, hi => by cases hi
  | j :: l, h, i, hi => by
    simp only [allSame, Bool.and_eq_true] at h
    rcases List.mem_cons.1 hi with rfl | hi
    · have h1 := h.1
      split at h1
      · rename_i p hp
        simp only [Bool.and_eq_true, Nat.beq_eq] at h1
        obtain ⟨⟨⟨h2, h3⟩, h4⟩, h5⟩ := h1
        have e3 := Tr.same_eq AV.same_eq _ _ h3
        have e5 := Tr.same_eq (fun _ _ => Blk.same_eq) _ _ h5
        rw [hp]
        obtain ⟨⟨n, tm⟩, ⟨hp', nx⟩⟩ := p
        obtain ⟨⟨n', tm'⟩, ⟨hp'', nx'⟩⟩ := q
        simp only at h2 h4 e3 e5
        subst h2; subst h4; subst e3; subst e5
        rfl
      · simp at h1
    · exact allSame_sound l h.2 i hi

/-- what a region leaves -/
def RegionQ (E : Env) (r0 : Nat → Option Nm) (s0 : St) (rgF : Regs) (sF : St) : Exit → Act → World → Prop :=
  fun e a w => e = .normal ∧ ∃ r, Ext r0 s0 r sF ∧ Good E r sF w ∧ RegOk r rgF a

theorem exAny_sound (hids : IdsOk P ids) (hcall : CallOk P E call) (hsel : Region.noSelect ops = true) {base : Nat} (hbase : s0.nx = base) (hcov : ∀ n b, hs.get n = some b → n ∈ hn) {rgF : Regs} {sF : St} :
    ∀ (n : Nat) (listed : Array Bool) (rg : Regs) (s : St) (r : Nat → Option Nm) (a : Act) (w : World), exAny P ids call ops hs hn base n listed rg s = some (rgF, sF) →
      Ext r0 s0 r s → Good E r s w → RegOk r rg a → (∀ j, j < ops.size → listed.getD j true = false → r (base + j) = none) → base + ops.size ≤ s.nx → Inv E r0 hs w →
      wpAnyH P .any ops (RegionQ E r0 s0 rgF sF) (fun w => Inv E r0 hs w) n listed a w := by
  intro n
  induction n with
  | zero =>
    intro listed rg s r a w h hX hG hR _ _ _
    simp only [exAny] at h
    split at h
    · rename_i hr
      simp only [Option.some.injEq, Prod.mk.injEq] at h
      obtain ⟨rfl, rfl⟩ := h
      exact ⟨hr, rfl, r, hX, hG, hR⟩
    · simp at h
  | succ n ih =>
    intro listed rg s r a w h hX hG hR hres hnx hH
    simp only [exAny] at h
    split at h
    · rename_i hr
      simp only [Option.some.injEq, Prod.mk.injEq] at h
      obtain ⟨rfl, rfl⟩ := h
      exact wpAnyH_done hr ⟨rfl, r, hX, hG, hR⟩ _
    · rename_i i l hr
      split at h
      · rename_i j rg1 hfs
        obtain ⟨hmem, o, ho, hfree, hsv⟩ := firstSure_sound _ _ _ hfs
        obtain ⟨u, hy, hR1⟩ := sureV_sound (P := P) hids (fun _ _ => trivial) hX.le hR hsv hH
        refine wpAnyH_take ho hsel hfree (by rw [hr]; simpa using hmem) (fun c a w hq => by obtain ⟨e, _⟩ := hq; cases e) hy hH ?_
        refine ih _ rg1 s r _ w h hX hG hR1 (fun j' hj' hl' => hres j' hj' ?_) hnx hH
        by_cases hjj : j = j'
        · subst hjj
          by_cases hb : j < listed.size
          · simp [hb] at hl'
          · simp [Array.getElem?_eq_none (Nat.le_of_not_lt hb)] at hl'
        · rw [getD_set_ne true hjj] at hl'; exact hl'
      · rename_i hnone
        -- whichever comes up
        have hall : ∃ f : Nat → Option (Regs × St), (∀ j, f j = match ops[j]? with
            | some o => match stepG P ids call false (base + j) ops o rg s with
              | some (rg', s') => bif held hs s'.hp hn then exAny P ids call ops hs hn base n (listed.setIfInBounds j true) rg' s' else none
              | none => none
            | none => none) ∧ ∀ j ∈ i :: l, f j = some (rgF, sF) := by
          refine ⟨_, fun _ => rfl, ?_⟩
          split at h
          · rename_i q hq
            rw [Bool.cond_eq_ite] at h
            split at h
            · rename_i hsm
              simp only [Option.some.injEq] at h; subst h
              intro j hj
              rcases List.mem_cons.1 hj with rfl | hj
              · exact hq
              · exact allSame_sound l hsm j hj
            · simp at h
          · simp at h
        obtain ⟨f, hf, hfa⟩ := hall
        refine wpAnyH_all hr (by simp) fun j hj => ?_
        have hfj := hfa j hj
        rw [hf j] at hfj
        have hjr : j ∈ Region.ready .any ops listed := by rw [hr]; exact hj
        obtain ⟨hunl, o', ho', _⟩ := mem_ready.1 hjr
        have hjs : j < ops.size := (Array.getElem?_eq_some_iff.1 ho').1
        have hres' : ∀ r2 : Nat → Option Nm, (∀ n, n < s.nx → n ≠ base + j → r n = none → r2 n = none) → ∀ j', j' < ops.size → (listed.setIfInBounds j true).getD j' true = false → r2 (base + j') = none := by
          intro r2 h2 j' hj' hl'
          by_cases hjj : j = j'
          · subst hjj
            by_cases hb : j < listed.size
            · simp [hb] at hl'
            · simp [Array.getElem?_eq_none (Nat.le_of_not_lt hb)] at hl'
          · rw [getD_set_ne true hjj] at hl'
            exact h2 _ (by omega) (by omega) (hres j' hj' hl')
        unfold wpOp
        rw [ho'] at hfj ⊢
        simp only at hfj ⊢
        split at hfj
        · rename_i rg1 s1 hst
          cases hheld : held hs s1.hp hn with
          | false => simp [hheld] at hfj
          | true =>
            simp only [hheld, cond_true] at hfj
            unfold stepG at hst
            split at hst
            · rename_i hw
              rw [wantO_sound hR hw, if_pos rfl]
              refine .inl (step1_sound hids hcall hst hG hR (hres j hjs hunl) (fun e => by cases e) (fun _ => by omega) ?_)
              rintro a1 w1 ⟨r1, h1, h2, h3, h4, h5⟩
              have hS := Inv.again hH (hX.le.trans h1) h4.inv hcov hheld
              refine ⟨hS, ih _ rg1 s1 r1 a1 w1 hfj ⟨hX.le.trans h1, fun n hn h0 => ?_, Nat.le_trans hX.nx h3⟩ h4 h5 (hres' r1 h2) (by omega) hS⟩
              exact h2 n (Nat.lt_of_lt_of_le hn hX.nx) (by omega) (hX.old n hn h0)
            · rename_i hw
              rw [wantO_sound hR hw, if_neg (by simp)]
              split at hst
              · rename_i rg2 hp
                simp only [Option.some.injEq, Prod.mk.injEq] at hst
                obtain ⟨rfl, rfl⟩ := hst
                exact ⟨hH, ih _ rg2 s r _ w hfj hX hG (hR.put hp undefA_den) (hres' r (fun _ _ _ h => h)) hnx hH⟩
              · simp at hst
            · simp at hst
        · simp at hfj

theorem exDrawWith_sound (hids : IdsOk P ids) (hcall : CallOk P E call) (hm : P.follows .mixedOrders = true) {dep id : Nat} {ns : List Nat} {rgF : Regs} {sF : St} (hsel : Region.noSelect ops = true) (h : exDrawWith P ids call dep ops ns rg s = some (rgF, sF)) (hG : Good E r s w) (hR : RegOk r rg a) :
    (Code.region id ops true).wp P (RegionQ E r s rgF sF) a w := by
  unfold exDrawWith at h
  cases hh : held (subHp s.hp ns (Tr.mk dep)) s.hp ns with
  | false => simp [hh] at h
  | true =>
    simp only [hh, cond_true] at h
    have hcov : ∀ n b, (subHp s.hp ns (Tr.mk dep)).get n = some b → n ∈ ns := by
      intro n b hb
      rcases subHp_mem ns _ n b hb with hb | hb
      · exact hb
      · rw [Tr.get_mk] at hb; cases hb
    have hI0 : Inv E r (subHp s.hp ns (Tr.mk dep)) w := hG.inv.sub fun n b hb => by rw [← held_eq ns hh n (hcov n b hb)]; exact hb
    refine wp_region_held (S := fun w => Inv E r (subHp s.hp ns (Tr.mk dep)) w) hm ?_
    refine exAny_sound (P := P) (s0 := s) (base := s.nx) hids hcall hsel rfl hcov ops.size _ rg _ r a { w with drawn := w.drawn + 1 } h ⟨Le.refl r, fun _ _ h => h, by simp⟩ ⟨hG.inv.drew, fun n hn => hG.free n (by simp at hn; omega)⟩ hR ?_ (Nat.le_refl _) hI0.drew
    intro j hj _
    exact hG.free _ (by omega)
theorem exDraw_sound (hids : IdsOk P ids) (hcall : CallOk P E call) (hm : P.follows .mixedOrders = true) {dep id : Nat} {rgF : Regs} {sF : St} (h : exDraw P ids call dep ops rg s = some (rgF, sF)) (hG : Good E r s w) (hR : RegOk r rg a) :
    (Code.region id ops true).wp P (RegionQ E r s rgF sF) a w := by
  unfold exDraw at h
  cases hsel : Region.noSelect ops with
  | false => simp [hsel] at h
  | true =>
    simp only [hsel, cond_true] at h
    split at h
    · rename_i q hq
      simp only [Option.some.injEq] at h; subst h
      exact exDrawWith_sound hids hcall hm hsel hq hG hR
    · exact exDrawWith_sound hids hcall hm hsel h hG hR
end

end Ex
end Go.Proofs.YtlpjmjielpdhiaaGreatDoor
