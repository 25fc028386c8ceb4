/- THE WALK BY RECKONING, 11: how a world changes. No condition. -/
import Derived.Test.YtlpjmjielpdhiaaGreatDoorF7
set_option linter.unusedSimpArgs false
set_option linter.unusedVariables false
namespace Go.Proofs.YtlpjmjielpdhiaaGreatDoor
namespace Ex
open Go

section
variable {P : Program} {E : Env} {r r' : Nat → Option Nm} {s s' : Tr Blk} {w w' : World}

theorem BlkOk.lt {a : Nm} {b : Blk} (h : BlkOk r a w b) : a.blk < w.heap.size := by
  have key : ∀ o, w.heap[a.blk]? = some o → a.blk < w.heap.size := fun o h => (Array.getElem?_eq_some_iff.1 h).1
  cases b with
  | cells e z cs lo wh => obtain ⟨_, _, _, h1, _⟩ := h; exact key _ h1
  | map es clk => obtain ⟨_, h1, _⟩ := h; exact key _ h1
  | iter s p => exact key _ h.1

theorem Inv.gen (hI : Inv E r s w) (hle : Le r r') (t : Nat) (hkeep : ¬ E.keep t) (hsz : w.heap.size ≤ w'.heap.size)
    (hheap : ∀ i, i < w.heap.size → i ≠ t → w'.heap[i]? = w.heap[i]?) (hos : w'.os = w.os) (hout : w'.output = w.output) (htape : w'.tape = w.tape)
    (hs : ∀ n b, s'.get n = some b → (∃ a, r' n = some a ∧ a.blk = t ∧ BlkOk r' a w' b) ∨ (s.get n = some b ∧ ∃ a, r n = some a ∧ a.blk ≠ t))
    (huniq : ∀ n m b c a d, s'.get n = some b → s'.get m = some c → r' n = some a → r' m = some d → a.blk = t → d.blk = t → n = m) : Inv E r' s' w' := by
  have old : ∀ n b, s.get n = some b → (∃ a, r n = some a ∧ a.blk ≠ t) → ∃ a, r n = some a ∧ r' n = some a ∧ a.blk ≠ t ∧ BlkOk r' a w' b ∧ ¬ E.keep a.blk := by
    rintro n b hn ⟨a, ha, hat⟩
    obtain ⟨a', ha', hb, hk⟩ := hI.blk n b hn
    rw [ha] at ha'; cases ha'
    exact ⟨a, ha, hle n a ha, hat, hb.mono hle (hheap _ hb.lt hat), hk⟩
  refine ⟨fun n b hn => ?_, fun n m b c a d hn hm hne ha hd => ?_, fun i hi => ?_, hos.trans hI.os, hout.trans hI.output, htape.trans hI.tape⟩
  · rcases hs n b hn with ⟨a, h1, h2, h3⟩ | ⟨h1, h2⟩
    · exact ⟨a, h1, h3, by rw [h2]; exact hkeep⟩
    · obtain ⟨a, _, h3, _, h4, h5⟩ := old n b h1 h2
      exact ⟨a, h3, h4, h5⟩
  · intro heq
    by_cases hat : a.blk = t
    · exact hne (huniq n m b c a d hn hm ha hd hat (heq ▸ hat))
    · have hdt : d.blk ≠ t := heq ▸ hat
      rcases hs n b hn with ⟨a1, h1, h2, _⟩ | ⟨h1, h2⟩
      · rw [ha] at h1; cases h1; exact hat h2
      · rcases hs m c hm with ⟨d1, h3, h4, _⟩ | ⟨h3, h4⟩
        · rw [hd] at h3; cases h3; exact hdt h4
        · obtain ⟨a2, ha2, ha2', _⟩ := old n b h1 h2
          obtain ⟨d2, hd2, hd2', _⟩ := old m c h3 h4
          rw [ha] at ha2'; cases ha2'
          rw [hd] at hd2'; cases hd2'
          exact hI.apart n m b c a d h1 h3 hne ha2 hd2 heq
  · obtain ⟨h1, h2⟩ := hI.keep i hi
    refine ⟨?_, by omega⟩
    rw [hheap i h2 (fun e => hkeep (e ▸ hi))]
    exact h1

def upd (r : Nat → Option Nm) (k : Nat) (a : Nm) : Nat → Option Nm := fun n => if n = k then some a else r n
theorem upd_le {k : Nat} {a : Nm} (h : r k = none) : Le r (upd r k a) := by
  intro n b hn
  unfold upd
  split
  · rename_i e; subst e; rw [h] at hn; cases hn
  · exact hn
theorem upd_self {k : Nat} {a : Nm} : upd r k a k = some a := by simp [upd]
theorem upd_none {k : Nat} {a : Nm} : ∀ n, n ≠ k → r n = none → upd r k a n = none := by
  intro n hn h; simp [upd, hn, h]

/-- a new block -/
theorem Inv.push (hI : Inv E r s w) {k : Nat} (hk : r k = none) {o : Obj} {b : Blk} {a : Nm} (ha : a.blk = w.heap.size) (hh : w'.heap = w.heap.push o) (hos : w'.os = w.os) (hout : w'.output = w.output) (htape : w'.tape = w.tape)
    (hb : BlkOk (upd r k a) a w' b) : Inv E (upd r k a) (s.set k (some b)) w' := by
  have hold : ∀ n c, s.get n = some c → ∃ a', r n = some a' ∧ a'.blk ≠ w.heap.size := by
    intro n c hn
    obtain ⟨a', h1, h2, _⟩ := hI.blk n c hn
    exact ⟨a', h1, Nat.ne_of_lt h2.lt⟩
  refine hI.gen (upd_le hk) w.heap.size (fun hkk => by have := (hI.keep _ hkk).2; omega) (by rw [hh]; simp) (fun i hi _ => by rw [hh, Array.getElem?_push, if_neg (by omega)]) hos hout htape ?_ ?_
  · intro n c hn
    rcases Tr.get_set _ _ _ _ _ hn with ⟨rfl, h2⟩ | ⟨_, h2⟩
    · left; cases h2; exact ⟨a, upd_self, ha, hb⟩
    · right; exact ⟨h2, hold n c h2⟩
  · intro n m c d x y hn hm hx hy hxt hyt
    have one : ∀ n c x, (s.set k (some b)).get n = some c → upd r k a n = some x → x.blk = w.heap.size → n = k := by
      intro n c x hn hx hxt
      rcases Tr.get_set _ _ _ _ _ hn with ⟨rfl, _⟩ | ⟨_, h2⟩
      · rfl
      · obtain ⟨a', h3, h4⟩ := hold n c h2
        have := upd_le (a := a) hk n a' h3
        rw [hx] at this; cases this
        exact absurd hxt h4
    rw [one n c x hn hx hxt, one m d y hm hy hyt]

/-- a block that turns -/
theorem Inv.touch (hI : Inv E r s w) {n : Nat} {b0 b : Blk} {a : Nm} (hn : s.get n = some b0) (ha : r n = some a) (hsz : w'.heap.size = w.heap.size)
    (hheap : ∀ i, i ≠ a.blk → w'.heap[i]? = w.heap[i]?) (hos : w'.os = w.os) (hout : w'.output = w.output) (htape : w'.tape = w.tape) (hb : BlkOk r a w' b) : Inv E r (s.set n (some b)) w' := by
  have hold : ∀ m c, m ≠ n → s.get m = some c → ∃ a', r m = some a' ∧ a'.blk ≠ a.blk := by
    intro m c hne hm
    obtain ⟨a', h1, _, _⟩ := hI.blk m c hm
    exact ⟨a', h1, hI.apart m n c b0 a' a hm hn hne h1 ha⟩
  obtain ⟨a0, ha0, _, hk⟩ := hI.blk n b0 hn
  rw [ha] at ha0; cases ha0
  refine hI.gen (Le.refl r) a.blk hk (by omega) (fun i _ h => hheap i h) hos hout htape ?_ ?_
  · intro m c hm
    rcases Tr.get_set _ _ _ _ _ hm with ⟨rfl, h2⟩ | ⟨hne, h2⟩
    · left; cases h2; exact ⟨a, ha, rfl, hb⟩
    · right; exact ⟨h2, hold m c hne h2⟩
  · intro m m' c d x y hm hm' hx hy hxt hyt
    have one : ∀ m c x, (s.set n (some b)).get m = some c → r m = some x → x.blk = a.blk → m = n := by
      intro m c x hm hx hxt
      rcases Tr.get_set _ _ _ _ _ hm with ⟨rfl, _⟩ | ⟨hne, h2⟩
      · rfl
      · obtain ⟨a', h3, h4⟩ := hold m c hne h2
        rw [hx] at h3; cases h3
        exact absurd hxt h4
    rw [one m c x hm hx hxt, one m' d y hm' hy hyt]

/-- a block that turns, its name let go -/
theorem Inv.drop (hI : Inv E r s w) {n : Nat} {b0 : Blk} {a : Nm} (hn : s.get n = some b0) (ha : r n = some a) (hsz : w'.heap.size = w.heap.size)
    (hheap : ∀ i, i ≠ a.blk → w'.heap[i]? = w.heap[i]?) (hos : w'.os = w.os) (hout : w'.output = w.output) (htape : w'.tape = w.tape) : Inv E r (s.set n none) w' := by
  have hold : ∀ m c, m ≠ n → s.get m = some c → ∃ a', r m = some a' ∧ a'.blk ≠ a.blk := by
    intro m c hne hm
    obtain ⟨a', h1, _, _⟩ := hI.blk m c hm
    exact ⟨a', h1, hI.apart m n c b0 a' a hm hn hne h1 ha⟩
  obtain ⟨a0, ha0, _, hk⟩ := hI.blk n b0 hn
  rw [ha] at ha0; cases ha0
  refine hI.gen (Le.refl r) a.blk hk (by omega) (fun i _ h => hheap i h) hos hout htape ?_ ?_
  · intro m c hm
    rcases Tr.get_set _ _ _ _ _ hm with ⟨rfl, h2⟩ | ⟨hne, h2⟩
    · cases h2
    · right; exact ⟨h2, hold m c hne h2⟩
  · intro m m' c d x y hm hm' hx hy hxt hyt
    exfalso
    rcases Tr.get_set _ _ _ _ _ hm with ⟨rfl, h2⟩ | ⟨hne, h2⟩
    · cases h2
    · obtain ⟨a', h3, h4⟩ := hold m c hne h2
      rw [hx] at h3; cases h3
      exact h4 hxt

/-- a block that turns, and gets another name -/
theorem Inv.rename (hI : Inv E r s w) {n k : Nat} {b0 b : Blk} {a a' : Nm} (hk : r k = none) (hn : s.get n = some b0) (ha : r n = some a) (haa : a'.blk = a.blk) (hsz : w'.heap.size = w.heap.size)
    (hheap : ∀ i, i ≠ a.blk → w'.heap[i]? = w.heap[i]?) (hos : w'.os = w.os) (hout : w'.output = w.output) (htape : w'.tape = w.tape) (hb : BlkOk (upd r k a') a' w' b) :
    Inv E (upd r k a') ((s.set n none).set k (some b)) w' := by
  have hold : ∀ m c, m ≠ n → s.get m = some c → ∃ x, r m = some x ∧ x.blk ≠ a.blk := by
    intro m c hne hm
    obtain ⟨x, h1, _, _⟩ := hI.blk m c hm
    exact ⟨x, h1, hI.apart m n c b0 x a hm hn hne h1 ha⟩
  obtain ⟨a0, ha0, _, hkk⟩ := hI.blk n b0 hn
  rw [ha] at ha0; cases ha0
  have parts : ∀ m c, ((s.set n none).set k (some b)).get m = some c → (m = k ∧ c = b) ∨ (m ≠ n ∧ s.get m = some c) := by
    intro m c hm
    rcases Tr.get_set _ _ _ _ _ hm with ⟨h1, h2⟩ | ⟨_, h2⟩
    · left; cases h2; exact ⟨h1, rfl⟩
    · rcases Tr.get_set _ _ _ _ _ h2 with ⟨_, h3⟩ | ⟨hne, h3⟩
      · cases h3
      · right; exact ⟨hne, h3⟩
  refine hI.gen (upd_le hk) a.blk hkk (by omega) (fun i _ h => hheap i h) hos hout htape ?_ ?_
  · intro m c hm
    rcases parts m c hm with ⟨rfl, rfl⟩ | ⟨hne, h2⟩
    · left; exact ⟨a', upd_self, haa, hb⟩
    · right; exact ⟨h2, hold m c hne h2⟩
  · intro m m' c d x y hm hm' hx hy hxt hyt
    have one : ∀ m c x, ((s.set n none).set k (some b)).get m = some c → upd r k a' m = some x → x.blk = a.blk → m = k := by
      intro m c x hm hx hxt
      rcases parts m c hm with ⟨h1, _⟩ | ⟨hne, h2⟩
      · exact h1
      · obtain ⟨z, h3, h4⟩ := hold m c hne h2
        have := upd_le (a := a') hk m z h3
        rw [hx] at this; cases this
        exact absurd hxt h4
    rw [one m c x hm hx hxt, one m' d y hm' hy hyt]

/-- what a changing operation gives -/
def SOk (P : Program) (E : Env) (r : Nat → Option Nm) (k : Nat) (w : World) (m : Result Next) : OpR → Prop
  | .val v s' used => ∃ r' w' u, Le r r' ∧ (∀ n, n ≠ k → r n = none → r' n = none) ∧ (used = false → r' k = none) ∧ Inv E r' s' w' ∧ den r' v = some [u] ∧ (m = .ok (.value u) w' ∨ (u = undef ∧ m = .ok .skip w'))
  | .enter f as => ∃ l, den r as = some l ∧ m = .ok (.enter f l.toArray) w

theorem setCells_heap (w : World) (b : Nat) (o : Obj) : (w.heap.setIfInBounds b o).size = w.heap.size := by simp

theorem xVar_sound (hI : Inv E r s w) {k : Nat} (hk : r k = none) {t : TypeId} {v : AV} {u : Value} {q : OpR} (hv : den r v = some [u]) (h : xVar P s k t v = some q) :
    ∃ v' s', q = .val v' s' true ∧ ∃ a w', Inv E (upd r k a) s' w' ∧ ∃ x, den (upd r k a) v' = some [x] ∧ ((do pure (.pointer (some (← newVar t u))) : Sem Value).run P w = .ok x w') := by
  unfold xVar at h
  split at h
  · rename_i z hz
    cases hb : v.cells.isLen z with
    | false => simp [hb] at h
    | true =>
      simp only [hb, cond_true, Option.some.injEq] at h; subst h
      refine ⟨_, _, rfl, ⟨w.heap.size, 0, 0⟩, { w with heap := w.heap.push (.cells u.cells t) }, ?_, .pointer (some ⟨w.heap.size, 0, none⟩), ?_, ?_⟩
      · refine hI.push hk (o := .cells u.cells t) rfl rfl rfl rfl rfl ?_
        refine ⟨[], u.cells.toList, [], by simp, rfl, den_mono (upd_le hk) _ _ (cells_den hv hb), Nat.le_refl _, by simp, fun _ => ⟨rfl, rfl⟩⟩
      · simp [den, upd_self]
      · simp [newVar, newRow]
  · simp at h

theorem SOk.of_var {k : Nat} {v' : AV} {s' : Tr Blk} {a : Nm} {w' : World} {x : Value} {m : Result Next} (hk : r k = none) (h1 : Inv E (upd r k a) s' w') (h2 : den (upd r k a) v' = some [x]) (h3 : m = .ok (.value x) w') :
    SOk P E r k w m (.val v' s' true) :=
  ⟨upd r k a, w', x, upd_le hk, upd_none, fun e => by simp at e, h1, h2, .inl h3⟩
theorem SOk.of_same {k : Nat} {v' : AV} {s' : Tr Blk} {w' : World} {x : Value} {m : Result Next} (hk : r k = none) (h1 : Inv E r s' w') (h2 : den r v' = some [x]) (h3 : m = .ok (.value x) w') :
    SOk P E r k w m (.val v' s' false) :=
  ⟨r, w', x, Le.refl r, fun _ _ h => h, fun _ => hk, h1, h2, .inl h3⟩

theorem run_storeCells_here (w : World) {g e o : Nat} {pre l post vs : List Value} (hg : w.heap[g]? = some (.cells (pre ++ l ++ post).toArray e (0, 0))) (hl : pre.length + o + vs.length ≤ (pre ++ l ++ post).length) (h1 : ∀ v ∈ vs, v.oneCell' = true) :
    (storeCells ⟨g, pre.length + o, none⟩ vs).run P w = .ok () (w.setRow g ((pre ++ l ++ post).take (pre.length + o) ++ vs ++ (pre ++ l ++ post).drop (pre.length + o + vs.length)).toArray) := by
  have := run_storeCells_at (P := P) g (pre.length + o) e vs 0 (pre ++ l ++ post).toArray w hg (by simpa using hl) h1
  simpa using this

end

end Ex
end Go.Proofs.YtlpjmjielpdhiaaGreatDoor
