/- THE WALK BY RECKONING, 20: contracts of closed calls: what is reckoned from an empty memory of names, or from blocks that are known, holds in every world. No condition. -/
import Derived.Test.YtlpjmjielpdhiaaGreatDoorF16
import Derived.Below
set_option linter.unusedSimpArgs false
set_option linter.unusedVariables false
namespace Go.Proofs.YtlpjmjielpdhiaaGreatDoor
namespace Ex
open Go Go.RowKit

section
variable {P : Program} {ids : List FuncId}

def Tr.all {α : Type} (f : α → Bool) : Tr α → Bool
  | .leaf => true
  | .node v l r => (match v with | some x => f x | none => true) && l.all f && r.all f
theorem Tr.all_get {α : Type} {f : α → Bool} : ∀ (t : Tr α), t.all f = true → ∀ n x, t.get n = some x → f x = true := by
  intro t
  induction t with
  | leaf => intro _ n x h; simp [Tr.get] at h
  | node v l r ihl ihr =>
    intro h n x hx
    simp only [Tr.all, Bool.and_eq_true] at h
    cases n with
    | zero => simp only [Tr.get] at hx; rw [hx] at h; exact h.1.1
    | succ n =>
      simp only [Tr.get] at hx
      cases hb : Nat.beq (n.mod 2) 0 with
      | true => rw [hb] at hx; exact ihl h.1.2 _ _ hx
      | false => rw [hb] at hx; exact ihr h.2 _ _ hx

/-- no block is known wholly but by its cells -/
def Blk.tight : Blk → Bool
  | .cells _ _ _ _ wh => wh
  | _ => true

theorem esOk_inj {r : Nat → Option Nm} : ∀ (es : List (AV × AV × Nat)) (ms ms' : List MapEntry), esOk r es ms → esOk r es ms' → ms = ms'
  | [], [], [], _, _ => rfl
  | [], [], _ :: _, _, h => h.elim
  | [], _ :: _, _, h, _ => h.elim
  | _ :: _, [], _, h, _ => h.elim
  | _ :: _, _ :: _, [], _, h => h.elim
  | e :: es, m :: ms, m' :: ms', ⟨a1, a2, a3, a4⟩, ⟨b1, b2, b3, b4⟩ => by
    rw [a1] at b1; rw [a2] at b2
    have e1 := one_eq (Option.some.inj b1)
    have e2 := one_eq (Option.some.inj b2)
    rw [esOk_inj es ms ms' a4 b4]
    congr 1
    obtain ⟨k, v, b⟩ := m
    obtain ⟨k', v', b'⟩ := m'
    simp only at e1 e2 a3 b3
    rw [e1, e2, ← a3, ← b3]
theorem BlkOk.inj {r : Nat → Option Nm} {a : Nm} {w w' : World} {b : Blk} (ht : b.tight = true) (h : BlkOk r a w b) (h' : BlkOk r a w' b) : w'.heap[a.blk]? = w.heap[a.blk]? := by
  cases b with
  | cells e z cs lo wh =>
    obtain ⟨pre, l, post, h1, h2, h3, h4, h5, h6⟩ := h
    obtain ⟨pre', l', post', g1, g2, g3, g4, g5, g6⟩ := h'
    rw [h3] at g3; cases g3
    obtain ⟨rfl, rfl⟩ := h6 ht
    obtain ⟨rfl, rfl⟩ := g6 ht
    rw [h1, g1]
  | map es clk =>
    obtain ⟨m, h1, h2⟩ := h
    obtain ⟨m', g1, g2⟩ := h'
    rw [h1, g1]
    have := esOk_inj es _ _ h2 g2
    rw [Array.toList_inj.1 this]
  | iter s p => rw [h.1, h'.1]

/-- the world as it is, nothing of it held -/
def now (w : World) : Env := { keep := fun _ => False, h := fun _ => none, os := w.os, output := w.output, tape := w.tape }
/-- the blocks of 'hs' lie in w, under the names of r -/
structure Lies (r : Nat → Option Nm) (hs : Tr Blk) (nx : Nat) (w : World) : Prop where
  inv : Inv (now w) r hs w
  free : ∀ n, nx ≤ n → r n = none
/-- all that is there, but the named blocks -/
def rest (r : Nat → Option Nm) (hs : Tr Blk) (w : World) : Env :=
  { keep := fun i => i < w.heap.size ∧ ∀ n b a, hs.get n = some b → r n = some a → a.blk ≠ i, h := fun i => w.heap[i]?, os := w.os, output := w.output, tape := w.tape }
theorem Lies.good {r : Nat → Option Nm} {hs : Tr Blk} {nx : Nat} {w : World} (h : Lies r hs nx w) : Good (rest r hs w) r ⟨hs, nx⟩ w := by
  refine ⟨⟨fun n b hb => ?_, h.inv.apart, fun i hi => ⟨rfl, hi.1⟩, rfl, rfl, rfl⟩, h.free⟩
  obtain ⟨a, h1, h2, _⟩ := h.inv.blk n b hb
  exact ⟨a, h1, h2, fun hk => hk.2 n b a hb h1 rfl⟩
theorem Lies.nil (w : World) (d : Nat) : Lies (fun _ => none) (Tr.mk d) 0 w :=
  ⟨⟨fun n b hb => absurd hb (by rw [Tr.get_mk]; simp), fun n m b c a e hb => absurd hb (by rw [Tr.get_mk]; simp), fun i hi => hi.elim, rfl, rfl, rfl⟩, fun _ _ => rfl⟩
theorem Lies.below {r : Nat → Option Nm} {hs : Tr Blk} {nx : Nat} {w w' : World} (h : Lies r hs nx w) (hb : Below w.heap.size w w') : Lies r hs nx w' := by
  refine ⟨⟨fun n b hn => ?_, h.inv.apart, fun i hi => hi.elim, rfl, rfl, rfl⟩, h.free⟩
  obtain ⟨a, h1, h2, _⟩ := h.inv.blk n b hn
  exact ⟨a, h1, h2.mono (Le.refl r) (hb.block _ h2.lt), fun hk => hk.elim⟩

/-- the call's own blocks apart, nothing has turned -/
theorem below_of {r r' : Nat → Option Nm} {hs : Tr Blk} {nx : Nat} {w w' : World} {s' : St} {hn : List Nat} (h : Lies r hs nx w) (hle : Le r r') (hG : Good (rest r hs w) r' s' w') (htight : hs.all Blk.tight = true)
    (hcov : ∀ n b, hs.get n = some b → n ∈ hn) (hh : held hs s'.hp hn = true) : Below w.heap.size w w' ∧ Lies r hs nx w' := by
  have hag : Inv (rest r hs w) r hs w' := Inv.again (s := s') h.good.inv hle hG.inv hcov hh
  have hblk : ∀ i, i < w.heap.size → w'.heap[i]? = w.heap[i]? := by
    intro i hi
    by_cases hk : (rest r hs w).keep i
    · exact (hG.inv.keep i hk).1
    · have : ∃ n b a, hs.get n = some b ∧ r n = some a ∧ a.blk = i := by
        apply Classical.byContradiction
        intro hne
        exact hk ⟨hi, fun n b a hb ha e => hne ⟨n, b, a, hb, ha, e⟩⟩
      obtain ⟨n, b, a, hb, ha, rfl⟩ := this
      obtain ⟨a1, h1, h2, _⟩ := h.inv.blk n b hb
      obtain ⟨a2, h3, h4, _⟩ := hag.blk n b hb
      rw [ha] at h1 h3; cases h1; cases h3
      exact BlkOk.inj (Tr.all_get hs htight n b hb) h2 h4
  have hsz : w.heap.size ≤ w'.heap.size := by
    apply Nat.le_of_not_lt
    intro hlt
    have := hblk w'.heap.size hlt
    rw [Array.getElem?_eq_none (Nat.le_refl _)] at this
    rw [Array.getElem?_eq_getElem hlt] at this
    cases this
  have hB : Below w.heap.size w w' := ⟨hG.inv.os, hG.inv.tape, hG.inv.output, hsz, hblk⟩
  exact ⟨hB, h.below hB⟩

/-- a call that leaves the named blocks as they were -/
theorem calls_lies (hids : IdsOk P ids) (hm : P.follows .mixedOrders = true) {lf dep fuel nx : Nat} {f : FuncId} {xs v : AV} {s' : St} {hs : Tr Blk} {hn : List Nat} (h : exCall P ids lf dep fuel f xs ⟨hs, nx⟩ = some (v, s')) (htight : hs.all Blk.tight = true)
    (hcov : ∀ n b, hs.get n = some b → n ∈ hn) (hh : held hs s'.hp hn = true) {r : Nat → Option Nm} {w : World} {l : List Value} (hL : Lies r hs nx w) (hd : den r xs = some l) :
    Calls P f l.toArray w (fun e w' => ∃ r' u, Le r r' ∧ den r' v = some [u] ∧ e = .returned u ∧ Below w.heap.size w w' ∧ Lies r hs nx w' ∧ Good (rest r hs w) r' s' w') := by
  refine (exCall_sound (E := rest r hs w) hids hm fuel f xs ⟨hs, nx⟩ v s' r w l h hL.good hd).mono ?_
  rintro e w' ⟨r', u, h1, h2, h3, rfl⟩
  obtain ⟨h4, h5⟩ := below_of hL h1.le h2 htight hcov hh
  exact ⟨r', u, h1.le, h3, rfl, h4, h5, h2⟩
theorem Lies.of_good {E : Env} {r : Nat → Option Nm} {s : St} {w : World} (h : Good E r s w) : Lies r s.hp s.nx w :=
  ⟨⟨fun n b hb => let ⟨a, h1, h2, _⟩ := h.inv.blk n b hb; ⟨a, h1, h2, fun hk => hk.elim⟩, h.inv.apart, fun i hi => hi.elim, rfl, rfl, rfl⟩, h.free⟩
end

end Ex
end Go.Proofs.YtlpjmjielpdhiaaGreatDoor
