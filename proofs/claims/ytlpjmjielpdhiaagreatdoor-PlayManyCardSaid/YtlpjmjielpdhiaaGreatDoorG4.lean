/- THE WALK BY RECKONING, 23: the contracts of the program's closed calls. No condition. -/
import Derived.Test.YtlpjmjielpdhiaaGreatDoorG2
namespace Go.Proofs.YtlpjmjielpdhiaaGreatDoor
namespace Ex
open Go Go.RowKit

theorem all_mk (d : Nat) : (Tr.mk d : Tr Blk).all Blk.tight = true := by
  induction d with
  | zero => rfl
  | succ d ih => simp [Tr.mk, Tr.all, ih]

/-- An address of a session that holds nothing. -/
def Sess (a : Addr) (w : World) : Prop := ∃ r nm, r 5 = some nm ∧ a = ⟨nm.blk, nm.off + 0, none⟩ ∧ Lies r hpS 6 w
theorem Sess.below {a : Addr} {w w' : World} (h : Sess a w) (hb : Below w.heap.size w w') : Sess a w' := by
  obtain ⟨r, nm, h1, h2, h3⟩ := h
  exact ⟨r, nm, h1, h2, h3.below hb⟩

theorem new_calls (w : World) : Calls Tryz.prog 7 #[.int .i64 1] w (fun e w' => ∃ a, e = .returned (.pointer (some a)) ∧ Below w.heap.size w w' ∧ Sess a w') := by
  have hc := new_chk
  cases hx : exCall Tryz.prog [189] 100 5 30 7 (.cons (.prim (.int .i64 1)) .nil) ⟨Tr.mk 5, 0⟩ with
  | none => rw [hx] at hc; cases hc
  | some q =>
    obtain ⟨v, s'⟩ := q
    rw [hx] at hc
    simp only [newOk, Bool.and_eq_true, Nat.beq_eq] at hc
    obtain ⟨⟨h1, h2⟩, h3⟩ := hc
    have e1 := AV.same_eq _ _ h1
    have e2 := Tr.same_eq (fun _ _ => Blk.same_eq) _ _ h2
    subst e1
    refine (calls_lies (hn := []) ids_ok mixed hx (all_mk 5) (fun n b hb => absurd hb (by rw [Tr.get_mk]; simp)) rfl (Lies.nil w 5) (l := [.int .i64 1]) rfl).mono ?_
    rintro e w' ⟨r', u, _, h4, rfl, h5, _, h6⟩
    obtain ⟨nm, h7, h8⟩ := den_ptr h4
    cases one_eq h8
    refine ⟨_, rfl, h5, r', nm, h7, rfl, ?_⟩
    have := Lies.of_good h6
    rw [e2, h3] at this
    exact this

theorem ask_calls (w : World) : Calls Tryz.prog 8 #[.agg cmdL.toArray] w (fun e w' => e = .returned (.iface 54 (.agg cmdL.toArray)) ∧ Below w.heap.size w w') := by
  have hc := ask_chk
  cases hx : exCall Tryz.prog [189] 100 5 30 8 (.cons (.agg cmdA) .nil) ⟨Tr.mk 5, 0⟩ with
  | none => rw [hx] at hc; cases hc
  | some q =>
    obtain ⟨v, s'⟩ := q
    rw [hx] at hc
    have e1 := AV.same_eq _ _ hc
    subst e1
    refine (calls_lies (hn := []) ids_ok mixed hx (all_mk 5) (fun n b hb => absurd hb (by rw [Tr.get_mk]; simp)) rfl (Lies.nil w 5) (l := [.agg cmdL.toArray]) rfl).mono ?_
    rintro e w' ⟨r', u, _, h4, rfl, h5, _, h6⟩
    have : den r' (.ifc 54 (.agg cmdA)) = some [.iface 54 (.agg cmdL.toArray)] := rfl
    rw [this] at h4
    cases one_eq (Option.some.inj h4)
    exact ⟨rfl, h5⟩

def ansL : List Value := [.int .i64 0, .int .i64 0, .int .i64 0, .int .i64 0, .int .i64 0, .int .i64 0, .int .i64 0, .int .i64 0, .slice none 0 0, .slice none 0 0, .int .i64 0, .int .i64 0, .int .i64 0, .int .i64 0, .int .i64 0, .slice none 0 0, .string ⟨#[]⟩]
theorem get_hpS (n : Nat) (b : Blk) (h : hpS.get n = some b) : n ∈ [0, 1, 2, 3, 4, 5] := by
  unfold hpS at h
  rcases Tr.get_set _ _ _ _ _ h with ⟨rfl, _⟩ | ⟨_, h⟩
  · simp
  rcases Tr.get_set _ _ _ _ _ h with ⟨rfl, _⟩ | ⟨_, h⟩
  · simp
  rcases Tr.get_set _ _ _ _ _ h with ⟨rfl, _⟩ | ⟨_, h⟩
  · simp
  rcases Tr.get_set _ _ _ _ _ h with ⟨rfl, _⟩ | ⟨_, h⟩
  · simp
  rcases Tr.get_set _ _ _ _ _ h with ⟨rfl, _⟩ | ⟨_, h⟩
  · simp
  rcases Tr.get_set _ _ _ _ _ h with ⟨rfl, _⟩ | ⟨_, h⟩
  · simp
  rw [Tr.get_mk] at h; cases h
theorem do_calls {a : Addr} {w : World} (hS : Sess a w) : Calls Tryz.prog 10 #[.agg cmdL.toArray, .pointer (some a)] w (fun e w' => e = .returned (.agg ansL.toArray) ∧ Below w.heap.size w w') := by
  obtain ⟨r, nm, hr, rfl, hL⟩ := hS
  have hc := do_chk
  cases hx : exCall Tryz.prog [189] 100 5 30 10 (.cons (.agg cmdA) (.cons (.ptr 5 0) .nil)) ⟨hpS, 6⟩ with
  | none => rw [hx] at hc; cases hc
  | some q =>
    obtain ⟨v, s'⟩ := q
    rw [hx] at hc
    simp only [doOk, Bool.and_eq_true] at hc
    have e1 := AV.same_eq _ _ hc.1
    subst e1
    have hd : den r (.cons (.agg cmdA) (.cons (.ptr 5 0) .nil)) = some [.agg cmdL.toArray, .pointer (some ⟨nm.blk, nm.off + 0, none⟩)] :=
      den_cons_of rfl (den_cons_of (by simp [den, hr]) rfl)
    refine (calls_lies (hn := [0, 1, 2, 3, 4, 5]) ids_ok mixed hx tightS get_hpS hc.2 hL hd).mono ?_
    rintro e w' ⟨r', u, _, h4, rfl, h5, _, _⟩
    have : den r' ansA = some [.agg ansL.toArray] := rfl
    rw [this] at h4
    cases one_eq (Option.some.inj h4)
    exact ⟨rfl, h5⟩
end Ex
end Go.Proofs.YtlpjmjielpdhiaaGreatDoor
