/- THE WALK BY RECKONING, 4: lists of values over names. No condition. -/
import Derived.Test.YtlpjmjielpdhiaaGreatDoorE3
namespace Go.Proofs.YtlpjmjielpdhiaaGreatDoor
namespace Ex
open Go

def Le (r r' : Nat → Option Nm) : Prop := ∀ n a, r n = some a → r' n = some a
theorem Le.refl (r : Nat → Option Nm) : Le r r := fun _ _ h => h
theorem Le.trans {r r' r'' : Nat → Option Nm} (h : Le r r') (h' : Le r' r'') : Le r r'' := fun n a e => h' n a (h n a e)

theorem den_mono {r r' : Nat → Option Nm} (h : Le r r') : ∀ (x : AV) (l : List Value), den r x = some l → den r' x = some l := by
  intro x
  induction x with
  | prim v => intro l e; exact e
  | str s => intro l e; exact e
  | ptr n off =>
    intro l e
    simp only [den] at e ⊢
    cases hr : r n with
    | none => simp [hr] at e
    | some a => rw [h n a hr]; simpa [hr] using e
  | sl n off len c =>
    intro l e
    simp only [den] at e ⊢
    cases hr : r n with
    | none => simp [hr] at e
    | some a => rw [h n a hr]; simpa [hr] using e
  | mp n =>
    intro l e
    simp only [den] at e ⊢
    cases hr : r n with
    | none => simp [hr] at e
    | some a => rw [h n a hr]; simpa [hr] using e
  | ifc t v ih =>
    intro l e
    simp only [den] at e ⊢
    cases hv : den r v with
    | none => simp [hv] at e
    | some k => rw [ih k hv]; rw [hv] at e; exact e
  | agg cs ih =>
    intro l e
    simp only [den] at e ⊢
    cases hv : den r cs with
    | none => simp [hv] at e
    | some k => rw [ih k hv]; rw [hv] at e; exact e
  | tup cs ih =>
    intro l e
    simp only [den] at e ⊢
    cases hv : den r cs with
    | none => simp [hv] at e
    | some k => rw [ih k hv]; rw [hv] at e; exact e
  | fn f a b iha ihb =>
    intro l e
    simp only [den] at e ⊢
    cases ha : den r a with
    | none => simp [ha] at e
    | some x =>
      cases hb : den r b with
      | none => simp [ha, hb] at e
      | some y => rw [iha x ha, ihb y hb]; rw [ha, hb] at e; exact e
  | nil => intro l e; exact e
  | cons a b iha ihb =>
    intro l e
    simp only [den] at e ⊢
    cases ha : den r a with
    | none => simp [ha] at e
    | some x =>
      cases hb : den r b with
      | none => rw [ha, hb] at e; split at e <;> simp_all
      | some y => rw [iha x ha, ihb y hb]; rw [ha, hb] at e; exact e

theorem den_cons {r : Nat → Option Nm} {a b : AV} {l : List Value} (h : den r (.cons a b) = some l) :
    ∃ v k, den r a = some [v] ∧ den r b = some k ∧ l = v :: k := by
  simp only [den] at h
  split at h
  · rename_i x k ha hb
    exact ⟨x, k, ha, hb, by simpa using h.symm⟩
  · simp at h
theorem den_cons_of {r : Nat → Option Nm} {a b : AV} {v : Value} {k : List Value} (ha : den r a = some [v]) (hb : den r b = some k) : den r (.cons a b) = some (v :: k) := by
  simp only [den, ha, hb]
theorem den_agg {r : Nat → Option Nm} {cs : AV} {l : List Value} (h : den r (.agg cs) = some l) : ∃ k, den r cs = some k ∧ l = [.agg k.toArray] := by
  simp only [den] at h
  split at h
  · rename_i k hk; exact ⟨k, hk, by simpa using h.symm⟩
  · simp at h
theorem den_tup {r : Nat → Option Nm} {cs : AV} {l : List Value} (h : den r (.tup cs) = some l) : ∃ k, den r cs = some k ∧ l = [.tuple k.toArray] := by
  simp only [den] at h
  split at h
  · rename_i k hk; exact ⟨k, hk, by simpa using h.symm⟩
  · simp at h
theorem den_ptr {r : Nat → Option Nm} {n off : Nat} {l : List Value} (h : den r (.ptr n off) = some l) : ∃ a, r n = some a ∧ l = [.pointer (some ⟨a.blk, a.off + off, none⟩)] := by
  simp only [den] at h
  split at h
  · rename_i a ha; exact ⟨a, ha, by simpa using h.symm⟩
  · simp at h
theorem den_sl {r : Nat → Option Nm} {n off len : Nat} {c : Cap} {l : List Value} (h : den r (.sl n off len c) = some l) : ∃ a, r n = some a ∧ l = [.slice (some ⟨a.blk, a.off + off, none⟩) len (c.den a.kap)] := by
  simp only [den] at h
  split at h
  · rename_i a ha; exact ⟨a, ha, by simpa using h.symm⟩
  · simp at h
theorem den_mp {r : Nat → Option Nm} {n : Nat} {l : List Value} (h : den r (.mp n) = some l) : ∃ a, r n = some a ∧ l = [.map (some a.blk)] := by
  simp only [den] at h
  split at h
  · rename_i a ha; exact ⟨a, ha, by simpa using h.symm⟩
  · simp at h
theorem den_ifc {r : Nat → Option Nm} {t : Nat} {x : AV} {l : List Value} (h : den r (.ifc t x) = some l) : ∃ v, den r x = some [v] ∧ l = [.iface t v] := by
  simp only [den] at h
  split at h
  · rename_i v hv; exact ⟨v, hv, by simpa using h.symm⟩
  · simp at h
theorem den_fn {r : Nat → Option Nm} {f : Nat} {a b : AV} {l : List Value} (h : den r (.fn f a b) = some l) : ∃ x y, den r a = some x ∧ den r b = some y ∧ l = [.func (.func f) x.toArray y.toArray] := by
  simp only [den] at h
  split at h
  · rename_i x y hx hy; exact ⟨x, y, hx, hy, by simpa using h.symm⟩
  · simp at h
theorem den_prim {r : Nat → Option Nm} {v : Value} {l : List Value} (h : den r (.prim v) = some l) : l = [v] ∧ pr v = true := by
  simp only [den] at h
  cases hp : pr v with
  | true => simp [hp] at h; exact ⟨h.symm, rfl⟩
  | false => simp [hp] at h
theorem den_str {r : Nat → Option Nm} {s : List UInt8} {l : List Value} (h : den r (.str s) = some l) : l = [.string ⟨s.toArray⟩] := by
  simpa [den] using h.symm
theorem den_nil {r : Nat → Option Nm} {l : List Value} (h : den r .nil = some l) : l = [] := by simpa [den] using h.symm

section
variable {r : Nat → Option Nm}
theorem nth_den : ∀ (cs : AV) (i : Nat) (x : AV) (l : List Value), den r cs = some l → cs.nth i = some x → ∃ v, l[i]? = some v ∧ den r x = some [v] := by
  intro cs
  induction cs with
  | cons h t _ iht =>
    intro i x l hd hn
    obtain ⟨v, k, h1, h2, rfl⟩ := den_cons hd
    cases i with
    | zero => simp only [AV.nth, Option.some.injEq] at hn; subst hn; exact ⟨v, rfl, h1⟩
    | succ i => simp only [AV.nth] at hn; simpa using iht i x k h2 hn
  | _ => intro i x l _ hn; simp [AV.nth] at hn
theorem drop_den : ∀ (cs : AV) (i : Nat) (x : AV) (l : List Value), den r cs = some l → cs.drop i = some x → den r x = some (l.drop i) ∧ i ≤ l.length := by
  intro cs
  induction cs with
  | cons h t _ iht =>
    intro i x l hd hn
    cases i with
    | zero => simp only [AV.drop, Option.some.injEq] at hn; subst hn; exact ⟨by simpa using hd, Nat.zero_le _⟩
    | succ i =>
      obtain ⟨v, k, h1, h2, rfl⟩ := den_cons hd
      simp only [AV.drop] at hn
      obtain ⟨h3, h4⟩ := iht i x k h2 hn
      exact ⟨by simpa using h3, by simpa using h4⟩
  | _ =>
    intro i x l hd hn
    cases i with
    | zero => simp only [AV.drop, Option.some.injEq] at hn; subst hn; exact ⟨by simpa using hd, Nat.zero_le _⟩
    | succ i => simp [AV.drop] at hn
theorem take_den : ∀ (cs : AV) (i : Nat) (x : AV) (l : List Value), den r cs = some l → cs.take i = some x → den r x = some (l.take i) ∧ i ≤ l.length := by
  intro cs
  induction cs with
  | cons h t _ iht =>
    intro i x l hd hn
    cases i with
    | zero => simp only [AV.take, Option.some.injEq] at hn; subst hn; exact ⟨by simp [den], Nat.zero_le _⟩
    | succ i =>
      obtain ⟨v, k, h1, h2, rfl⟩ := den_cons hd
      simp only [AV.take] at hn
      split at hn
      · rename_i y hy
        simp only [Option.some.injEq] at hn; subst hn
        obtain ⟨h3, h4⟩ := iht i y k h2 hy
        exact ⟨by simpa using den_cons_of h1 h3, by simpa using h4⟩
      · simp at hn
  | _ =>
    intro i x l hd hn
    cases i with
    | zero => simp only [AV.take, Option.some.injEq] at hn; subst hn; exact ⟨by simp [den], Nat.zero_le _⟩
    | succ i => simp [AV.take] at hn
theorem app_den : ∀ (a b x : AV) (l k : List Value), den r a = some l → den r b = some k → a.app b = some x → den r x = some (l ++ k) := by
  intro a
  induction a with
  | cons h t _ iht =>
    intro b x l k ha hb hn
    obtain ⟨v, l', h1, h2, rfl⟩ := den_cons ha
    simp only [AV.app] at hn
    split at hn
    · rename_i y hy
      simp only [Option.some.injEq] at hn; subst hn
      simpa using den_cons_of h1 (iht b y l' k h2 hb hy)
    · simp at hn
  | nil =>
    intro b x l k ha hb hn
    rw [den_nil ha]
    simp only [AV.app, Option.some.injEq] at hn; subst hn; simpa using hb
  | _ => intro b x l k _ _ hn; simp [AV.app] at hn
theorem over_den : ∀ (c : AV) (off : Nat) (new x : AV) (l m : List Value), den r c = some l → den r new = some m → c.over off new = some x →
    den r x = some (l.take off ++ m ++ l.drop (off + m.length)) ∧ (m = [] ∨ off + m.length ≤ l.length) := by
  intro c
  induction c with
  | cons h t _ iht =>
    intro off new x l m hc hm hn
    cases new with
    | nil => rw [den_nil hm]; simp only [AV.over, Option.some.injEq] at hn; subst hn; exact ⟨by simpa using hc, .inl rfl⟩
    | cons y ys =>
      obtain ⟨v, l', h1, h2, rfl⟩ := den_cons hc
      obtain ⟨u, m', h3, h4, rfl⟩ := den_cons hm
      cases off with
      | zero =>
        simp only [AV.over] at hn
        split at hn
        · rename_i z hz
          simp only [Option.some.injEq] at hn; subst hn
          obtain ⟨h5, h6⟩ := iht 0 ys z l' m' h2 h4 hz
          refine ⟨?_, .inr ?_⟩
          · have := den_cons_of h3 h5
            simpa [Nat.add_comm] using this
          · rcases h6 with h6 | h6
            · simp [h6]
            · simp at h6 ⊢; omega
        · simp at hn
      | succ off =>
        simp only [AV.over] at hn
        split at hn
        · rename_i z hz
          simp only [Option.some.injEq] at hn; subst hn
          obtain ⟨h5, h6⟩ := iht off (.cons y ys) z l' (u :: m') h2 hm hz
          refine ⟨?_, .inr ?_⟩
          · rw [den_cons_of h1 h5, show off + 1 + (u :: m').length = (off + (u :: m').length) + 1 by omega]
            rfl
          · rcases h6 with h6 | h6
            · simp at h6
            · simp at h6 ⊢; omega
        · simp at hn
    | _ => simp [AV.over] at hn
  | _ =>
    intro off new x l m hc hm hn
    cases new with
    | nil => rw [den_nil hm]; simp only [AV.over, Option.some.injEq] at hn; subst hn; exact ⟨by simpa using hc, .inl rfl⟩
    | _ => simp [AV.over] at hn
theorem isLen_den : ∀ (cs : AV) (n : Nat) (l : List Value), den r cs = some l → cs.isLen n = true → l.length = n := by
  intro cs
  induction cs with
  | cons h t _ iht =>
    intro n l hd hn
    obtain ⟨v, k, h1, h2, rfl⟩ := den_cons hd
    cases n with
    | zero => simp [AV.isLen] at hn
    | succ n => simp only [AV.isLen] at hn; simpa using iht n k h2 hn
  | nil =>
    intro n l hd hn
    rw [den_nil hd]
    cases n with
    | zero => rfl
    | succ n => simp [AV.isLen] at hn
  | _ => intro n l _ hn; simp [AV.isLen] at hn
theorem pr_one {v : Value} (h : pr v = true) : v.oneCell' = true := by cases v <;> simp_all [pr, Value.oneCell']
theorem pr_cells {v : Value} (h : pr v = true) : v.cells = #[v] := by cases v <;> first | rfl | (simp [pr] at h)
theorem one_den {x : AV} {v : Value} (hx : x.one = true) (h : den r x = some [v]) : v.oneCell' = true := by
  cases x with
  | prim u => obtain ⟨h1, h2⟩ := den_prim h; simp at h1; subst h1; exact pr_one h2
  | str s => have := den_str h; simp at this; subst this; rfl
  | ptr n off => obtain ⟨a, _, e⟩ := den_ptr h; simp at e; subst e; rfl
  | sl n off len c => obtain ⟨a, _, e⟩ := den_sl h; simp at e; subst e; rfl
  | mp n => obtain ⟨a, _, e⟩ := den_mp h; simp at e; subst e; rfl
  | ifc t y => obtain ⟨a, _, e⟩ := den_ifc h; simp at e; subst e; rfl
  | fn f a b => obtain ⟨a, b, _, _, e⟩ := den_fn h; simp at e; subst e; rfl
  | _ => simp [AV.one] at hx
theorem allOne_den : ∀ (cs : AV) (l : List Value), cs.allOne = true → den r cs = some l → ∀ v ∈ l, v.oneCell' = true := by
  intro cs
  induction cs with
  | cons h t _ iht =>
    intro l ho hd
    obtain ⟨v, k, h1, h2, rfl⟩ := den_cons hd
    simp only [AV.allOne, Bool.and_eq_true] at ho
    intro u hu
    rcases List.mem_cons.1 hu with rfl | hu
    · exact one_den ho.1 h1
    · exact iht k ho.2 h2 u hu
  | nil => intro l _ hd; rw [den_nil hd]; simp
  | _ => intro l ho _; simp [AV.allOne] at ho
def AV.isV : AV → Bool
  | .nil => false
  | .cons _ _ => false
  | _ => true
theorem cells_isV {x : AV} {v : Value} (h : den r x = some [v]) (hn : x.isV = true) : den r x.cells = some v.cells.toList := by
  have key : v.cells = #[v] → x.cells = .cons x .nil → den r x.cells = some v.cells.toList := by
    intro h1 h2
    rw [h1, h2]
    exact den_cons_of h rfl
  cases x with
  | agg cs => obtain ⟨k, h1, h2⟩ := den_agg h; simp at h2; subst h2; simpa [AV.cells, Value.cells] using h1
  | tup cs => obtain ⟨k, h1, h2⟩ := den_tup h; simp at h2; subst h2; exact key rfl rfl
  | prim u => obtain ⟨h1, h2⟩ := den_prim h; simp at h1; subst h1; exact key (pr_cells h2) rfl
  | str s => have := den_str h; simp at this; subst this; exact key rfl rfl
  | ptr n off => obtain ⟨a, _, e⟩ := den_ptr h; simp at e; subst e; exact key rfl rfl
  | sl n off len c => obtain ⟨a, _, e⟩ := den_sl h; simp at e; subst e; exact key rfl rfl
  | mp n => obtain ⟨a, _, e⟩ := den_mp h; simp at e; subst e; exact key rfl rfl
  | ifc t y => obtain ⟨a, _, e⟩ := den_ifc h; simp at e; subst e; exact key rfl rfl
  | fn f a b => obtain ⟨a, b, _, _, e⟩ := den_fn h; simp at e; subst e; exact key rfl rfl
  | nil => simp [AV.isV] at hn
  | cons a b => simp [AV.isV] at hn
theorem cells_den {x : AV} {v : Value} {n : Nat} (h : den r x = some [v]) (hn : x.cells.isLen n = true) : den r x.cells = some v.cells.toList := by
  refine cells_isV h ?_
  cases x <;> first | rfl | (simp [AV.cells, AV.isLen] at hn)
theorem rep_den {z : AV} {l : List Value} (h : den r z = some l) : ∀ (n : Nat) (x : AV), z.rep n = some x → den r x = some (List.replicate n l).flatten := by
  intro n
  induction n with
  | zero => intro x hx; simp only [AV.rep, Option.some.injEq] at hx; subst hx; rfl
  | succ n ih =>
    intro x hx
    simp only [AV.rep] at hx
    split at hx
    · rename_i y hy
      rw [app_den z y x l _ h (ih y hy) hx, List.replicate_succ, List.flatten_cons]
    · simp at hx
theorem ofS_den {v : Value} {x : AV} (h : ofS v = some x) : den r x = some [v] := by
  cases v <;> simp only [ofS, pr, cond_true, cond_false, Option.some.injEq, reduceCtorEq] at h <;> subst h <;> simp [den, pr]
theorem ofL_den : ∀ (l : List Value) (x : AV), ofL l = some x → den r x = some l := by
  intro l
  induction l with
  | nil => intro x h; simp only [ofL, Option.some.injEq] at h; subst h; rfl
  | cons v l ih =>
    intro x h
    simp only [ofL] at h
    split at h
    · rename_i a b ha hb
      simp only [Option.some.injEq] at h; subst h
      exact den_cons_of (ofS_den ha) (ih b hb)
    · simp at h
theorem ofV_den {v : Value} {x : AV} (h : ofV v = some x) : den r x = some [v] := by
  unfold ofV at h
  split at h
  · split at h
    · rename_i cs l hl
      simp only [Option.some.injEq] at h; subst h
      simp [den, ofL_den _ _ hl]
    · simp at h
  · exact ofS_den h
theorem ofS_isV {v : Value} {x : AV} (h : ofS v = some x) : x.isV = true := by
  cases v <;> simp only [ofS, pr, cond_true, cond_false, Option.some.injEq, reduceCtorEq] at h <;> subst h <;> rfl
theorem ofV_isV {v : Value} {x : AV} (h : ofV v = some x) : x.isV = true := by
  unfold ofV at h
  split at h
  · split at h
    · simp only [Option.some.injEq] at h; subst h; rfl
    · simp at h
  · exact ofS_isV h
theorem undefA_den : den r undefA = some [undef] := rfl
end

namespace Tr
variable {α : Type}
theorem get_mk (d n : Nat) : (Tr.mk d : Tr α).get n = none := by
  induction d generalizing n with
  | zero => rfl
  | succ d ih =>
    cases n with
    | zero => rfl
    | succ m => simp only [mk, get]; cases Nat.beq (m.mod 2) 0 <;> simp [ih]
theorem get_set (t : Tr α) : ∀ (n : Nat) (x : Option α) (m : Nat) (u : α), (t.set n x).get m = some u → (m = n ∧ x = some u) ∨ (m ≠ n ∧ t.get m = some u) := by
  induction t with
  | leaf => intro n x m u h; simp [set, get] at h
  | node v l r ihl ihr =>
    intro n x m u h
    have parts : ∀ a b : Nat, Nat.mod a 2 = Nat.mod b 2 → Nat.div a 2 = Nat.div b 2 → a = b := fun a b h1 h2 => by
      have e1 := Nat.div_add_mod a 2
      have e2 := Nat.div_add_mod b 2
      have h1' : a % 2 = b % 2 := h1
      have h2' : a / 2 = b / 2 := h2
      omega
    cases n with
    | zero =>
      cases m with
      | zero => left; exact ⟨rfl, h⟩
      | succ m => right; exact ⟨by simp, by simpa [set, get] using h⟩
    | succ n =>
      cases m with
      | zero => right; refine ⟨by simp, ?_⟩; simp only [set] at h; cases hb : Nat.beq (n.mod 2) 0 <;> simpa [hb, get] using h
      | succ m =>
        simp only [set] at h
        cases hb : Nat.beq (n.mod 2) 0 with
        | true =>
          simp only [hb, cond_true, get] at h
          cases hc : Nat.beq (m.mod 2) 0 with
          | true =>
            simp only [hc, cond_true] at h
            rcases ihl _ _ _ _ h with ⟨h1, h2⟩ | ⟨h1, h2⟩
            · left; exact ⟨by rw [parts m n (by rw [Nat.eq_of_beq_eq_true hb, Nat.eq_of_beq_eq_true hc]) h1], h2⟩
            · right; exact ⟨fun e => h1 (by simp at e; rw [e]), by simpa [get, hc] using h2⟩
          | false =>
            simp only [hc, cond_false] at h
            right; exact ⟨fun e => (by simp at e; rw [e, hb] at hc; exact absurd hc (by simp)), by simpa [get, hc] using h⟩
        | false =>
          simp only [hb, cond_false, get] at h
          cases hc : Nat.beq (m.mod 2) 0 with
          | true =>
            simp only [hc, cond_true] at h
            right; exact ⟨fun e => (by simp at e; rw [e, hb] at hc; exact absurd hc (by simp)), by simpa [get, hc] using h⟩
          | false =>
            simp only [hc, cond_false] at h
            rcases ihr _ _ _ _ h with ⟨h1, h2⟩ | ⟨h1, h2⟩
            · left
              refine ⟨?_, h2⟩
              have hm2 : m % 2 = 1 := by
                have : ¬ m % 2 = 0 := fun e => by have : Nat.beq (m.mod 2) 0 = true := by rw [show m.mod 2 = 0 from e]; rfl
                                                  rw [this] at hc; exact absurd hc (by simp)
                omega
              have hn2 : n % 2 = 1 := by
                have : ¬ n % 2 = 0 := fun e => by have : Nat.beq (n.mod 2) 0 = true := by rw [show n.mod 2 = 0 from e]; rfl
                                                  rw [this] at hb; exact absurd hb (by simp)
                omega
              rw [parts m n (by show m % 2 = n % 2; omega) h1]
            · right; exact ⟨fun e => h1 (by simp at e; rw [e]), by simpa [get, hc] using h2⟩
end Tr

theorem eqBytes_iff : ∀ (a b : List UInt8), eqBytes a b = (a == b)
  | [], [] => rfl
  | [], _ :: _ => rfl
  | _ :: _, [] => rfl
  | a :: x, b :: y => by
    rw [eqBytes, eqBytes_iff x y, List.cons_beq_cons]
    congr 1
    rw [Bool.eq_iff_iff, Nat.beq_eq, beq_iff_eq]
    exact ⟨fun h => UInt8.toNat_inj.1 h, fun h => by rw [h]⟩

end Ex
end Go.Proofs.YtlpjmjielpdhiaaGreatDoor
