/- THE WALK BY RECKONING, 15: append. No condition. -/
import Derived.Test.YtlpjmjielpdhiaaGreatDoorF11
set_option linter.unusedSimpArgs false
set_option linter.unusedVariables false
namespace Go.Proofs.YtlpjmjielpdhiaaGreatDoor
namespace Ex
open Go

section
variable {P : Program} {E : Env} {r r' : Nat → Option Nm} {s s' : Tr Blk} {w w' : World}

theorem Inv.drew (hI : Inv E r s w) : Inv E r s w.drew :=
  ⟨fun n b hn => let ⟨a, h1, h2, h3⟩ := hI.blk n b hn; ⟨a, h1, h2.mono (Le.refl r) rfl, h3⟩, hI.apart, hI.keep, hI.os, hI.output, hI.tape⟩

theorem zeroCells_size (zero : Array Value) (n : Nat) : (Builtin.zeroCells zero n).size = n * zero.size := by simp [Builtin.zeroCells]

/-- a store from within the known cells on -/
theorem store_on {b e : Nat} {pre l post nl : List Value} {p : Nat} (h1 : w.heap[b]? = some (.cells (pre ++ l ++ post).toArray e (0, 0))) (hp : p ≤ l.length) (hroom : pre.length + p + nl.length ≤ (pre ++ l ++ post).length) (hone : ∀ v ∈ nl, v.oneCell' = true) :
    ∃ w' post', (storeCells ⟨b, pre.length + p, none⟩ nl).run P w = .ok () w' ∧ w'.heap.size = w.heap.size ∧ (∀ i, i ≠ b → w'.heap[i]? = w.heap[i]?) ∧ w'.os = w.os ∧ w'.output = w.output ∧ w'.tape = w.tape ∧
      w'.heap[b]? = some (.cells (pre ++ (l.take p ++ nl) ++ post').toArray e (0, 0)) ∧ (pre ++ (l.take p ++ nl) ++ post').length = (pre ++ l ++ post).length := by
  refine ⟨_, (pre ++ l ++ post).drop (pre.length + p + nl.length), run_storeCells_here (P := P) w (o := p) (vs := nl) h1 hroom hone, setRow_size _ _, fun i hi => setRow_ne _ hi, rfl, rfl, rfl, ?_, ?_⟩
  · rw [setRow_eq _ h1]
    congr 2
    have e1 : (pre ++ l ++ post).take (pre.length + p) = pre ++ l.take p := by
      rw [List.append_assoc, List.take_append, List.take_of_length_le (by omega), List.take_append_of_le_length (by omega)]
      simp
    rw [e1]
    simp
  · simp only [List.length_append, List.length_take, List.length_drop] at hroom ⊢
    omega

/-- a new row behind a growth -/
theorem push_grown (hI : Inv E r s w) {k : Nat} (hk : r k = none) {e z m nc : Nat} {cs zz : AV} {l : List Value} {rest : Array Value} (hd : den r cs = some l) (hl : l.length = m * z) (hm : m ≤ nc) (hrest : rest.size = (nc - m) * z) :
    Inv E (upd r k ⟨w.heap.size, 0, nc⟩) (s.set k (some (.cells e z cs m false))) (w.alloc (.cells (l.toArray ++ rest) e)) := by
  refine hI.push hk (o := .cells (l.toArray ++ rest) e) rfl rfl rfl rfl rfl ?_
  refine ⟨[], l, rest.toList, ?_, rfl, den_mono (upd_le hk) _ _ hd, hm, ?_, fun h => by simp at h⟩
  · show (w.heap.push _)[w.heap.size]? = _
    rw [Array.getElem?_push_size]
    congr 2
    apply Array.toList_inj.1; simp
  · simp only [List.nil_append, List.length_append, hl, Array.length_toList, hrest, Nat.zero_add]
    rw [← Nat.add_mul, Nat.add_sub_cancel' hm]
    exact Nat.le_refl _

def AOk (P : Program) (E : Env) (r : Nat → Option Nm) (k : Nat) (w : World) (m : Result Value) (q : OpR) : Prop :=
  ∃ v s' used, q = .val v s' used ∧ ∃ r' w' u, Le r r' ∧ (∀ n, n ≠ k → r n = none → r' n = none) ∧ (used = false → r' k = none) ∧ Inv E r' s' w' ∧ den r' v = some [u] ∧ m = .ok u w'

theorem AOk.same {k : Nat} {m : Result Value} {v : AV} {u : Value} (hk : r k = none) (h1 : Inv E r s' w') (h2 : den r v = some [u]) (h3 : m = .ok u w') : AOk P E r k w m (.val v s' false) :=
  ⟨v, s', false, rfl, r, w', u, Le.refl r, fun _ _ h => h, fun _ => hk, h1, h2, h3⟩
theorem AOk.upd {k : Nat} {m : Result Value} {v : AV} {u : Value} {a : Nm} (hk : r k = none) (h1 : Inv E (upd r k a) s' w') (h2 : den (upd r k a) v = some [u]) (h3 : m = .ok u w') : AOk P E r k w m (.val v s' true) :=
  ⟨v, s', true, rfl, _, w', u, upd_le hk, upd_none, fun e => by simp at e, h1, h2, h3⟩

set_option maxHeartbeats 1600000 in
theorem xAppend_sound (hI : Inv E r s w) {k0 : Nat} (hk : r k0 = none) {t : TypeId} {t2 : Option TypeId} {x y : AV} {u v : Value} {q : OpR} (hx : den r x = some [u]) (hy : den r y = some [v]) (h : xAppend P s k0 t t2 x y = some q)
    (ts : Array TypeId) (h0 : ts[0]? = some t) (h1 : ts[1]? = t2) (ty : TypeId) : AOk P E r k0 w ((Builtin.append_ ts ty #[u, v]).run P w) q := by
  unfold xAppend at h
  split at h
  · rename_i e ut hu
    split at h
    · simp at h
    · rename_i d hni hd
      have hni' : ∀ k, d ≠ .int k := fun k e => by subst e; exact hni k rfl
      split at h
      · rename_i z by' zz hz hby hzr
        split at h
        · rename_i m new hsrc
          cases hb : (zz.cells.isLen (z + 1) && new.allOne && Nat.ble by' 1000000 && Nat.ble m 1000000 && new.isLen (m * (z + 1))) with
          | false => simp [hb] at h
          | true =>
            simp only [hb, cond_true] at h
            simp only [Bool.and_eq_true] at hb
            obtain ⟨⟨⟨⟨b0, b1⟩, b2⟩, b3⟩, b4⟩ := hb
            have b2 := Nat.le_of_ble_eq_true b2
            have b3 := Nat.le_of_ble_eq_true b3
            obtain ⟨nl, hnd, hlen, hfirst⟩ := srcA_sound (P := P) hI hy hsrc
            obtain ⟨nl', hnd', _, hfirst'⟩ := srcA_sound (P := P) hI.drew hy hsrc
            rw [hnd] at hnd'; cases hnd'
            have hnl := isLen_den _ _ _ hnd b4
            have hone := allOne_den new nl b1 hnd
            obtain ⟨zv, hzv, hz2, hz3⟩ := run_zero (r := r) hzr w.drew
            have hzs : zv.cells.size = z + 1 := by simpa using isLen_den _ _ _ hz3 b0
            split at h
            · -- nil
              cases one_eq (den_prim hx).1
              split at h
              · simp only [Option.some.injEq] at h; subst h
                refine AOk.same hk hI hx ?_
                cases d
                case int k => exact absurd rfl (hni' k)
                all_goals simp [Builtin.append_, h0, h1, run_underlying hu, run_size hz, run_underlying hd, hlen, hfirst]
              · rename_i m' hm'
                simp only [Option.some.injEq] at h; subst h
                obtain ⟨nc, hnc, hrun⟩ := run_append_grow (P := P) (w := w) (ty := ty) (n := 0) (c := 0) (base := none) (old := #[]) (zv := zv) h0 h1 hu hd hni' hz hby b2 hlen (by omega) (by cases m with
                  | zero => exact absurd rfl hm'
                  | succ m => omega) (by simp [Builtin.firstCells]) hfirst' hzv
                have hp := push_grown hI.drew hk (e := e) (z := z + 1) (m := m) (nc := nc) (zz := zz) (rest := Builtin.zeroCells zv.cells (nc - m)) hnd hnl (by omega) (by rw [zeroCells_size, hzs])
                refine AOk.upd hk hp (u := .slice (some ⟨w.drew.heap.size, 0, none⟩) m nc) (by simp [den, upd_self, Cap.den]) ?_
                rw [hrun]
                simp
            · rename_i n off len c
              obtain ⟨a, ha, e1⟩ := den_sl hx
              cases one_eq e1
              cases hl6 : Nat.ble len 1000000 with
              | false => simp [hl6] at h
              | true =>
                simp only [hl6, cond_true] at h
                have hl6 := Nat.le_of_ble_eq_true hl6
                split at h
                · rename_i old e' z' cs lo wh hold hg
                  obtain ⟨a', pre, l, post, ha', g1, g2, g3, g4, g5, g6, g7⟩ := rowOf hI hg
                  rw [ha] at ha'; cases ha'
                  -- the old cells
                  obtain ⟨l1, hl1, hoff, holdl⟩ : ∃ l1, den r old = some l1 ∧ off + len * (z + 1) ≤ l.length ∧ l1 = (l.drop off).take (len * (z + 1)) := by
                    unfold rdN at hold
                    rw [hg] at hold
                    simp only at hold
                    split at hold
                    · rename_i y1 hy1
                      obtain ⟨k1, k2⟩ := drop_den cs off y1 l g3 hy1
                      obtain ⟨k3, k4⟩ := take_den y1 _ old _ k1 hold
                      exact ⟨_, k3, by simp only [List.length_drop] at k4; omega, rfl⟩
                    · simp at hold
                  have hl1l : l1.length = len * (z + 1) := by rw [holdl]; simp; omega
                  have hfold : ∀ w1 : World, w1.heap = w.heap → (Builtin.firstCells (z + 1) len (.slice (some ⟨a.blk, a.off + off, none⟩) len (c.den a.kap))).run P w1 = .ok l1.toArray w1 := by
                    intro w1 hw1
                    have hc : ∀ j v, l1[j]? = some v → w1.cell? ⟨a.blk, a.off + off + j, none⟩ = some v := by
                      intro j v hv
                      rw [← g2, Nat.add_assoc]
                      refine cellAt (by rw [hw1]; exact g1) ?_
                      rw [holdl] at hv
                      have hj : j < len * (z + 1) := by
                        have := (List.getElem?_eq_some_iff.1 hv).1
                        simp at this; omega
                      rw [List.getElem?_take_of_lt hj, List.getElem?_drop] at hv
                      exact hv
                    have := run_cells (P := P) hc
                    rw [hl1l] at this
                    simp [Builtin.firstCells, this]
                  have hcap := capLo_le hI ha c
                  -- the growth
                  have grow : c.den a.kap < len + m → ∀ cs', old.app new = some cs' → ∃ nc, len + m ≤ nc ∧ den r cs' = some (l1 ++ nl) ∧ (l1 ++ nl).length = (len + m) * (z + 1) ∧
                      (Builtin.append_ ts ty #[.slice (some ⟨a.blk, a.off + off, none⟩) len (c.den a.kap), v]).run P w = .ok (.slice (some ⟨w.drew.heap.size, 0, none⟩) (len + m) nc) (w.drew.alloc (.cells ((l1 ++ nl).toArray ++ Builtin.zeroCells zv.cells (nc - (len + m))) e)) := by
                    intro hlt cs' happ
                    obtain ⟨nc, hnc, hrun⟩ := run_append_grow (P := P) (w := w) (ty := ty) (n := len) (c := c.den a.kap) (base := some ⟨a.blk, a.off + off, none⟩) (old := l1.toArray) (zv := zv) h0 h1 hu hd hni' hz hby b2 hlen (by omega) hlt (hfold _ rfl) hfirst' hzv
                    refine ⟨nc, hnc, app_den _ _ _ _ _ hl1 hnd happ, by simp [hl1l, hnl, Nat.add_mul], ?_⟩
                    rw [hrun]
                    congr 3
                    apply Array.toList_inj.1; simp
                  cases hin : (old.allOne && Nat.ble (len + m) (capLo s n c)) with
                  | true =>
                    simp only [hin, cond_true] at h
                    simp only [Bool.and_eq_true] at hin
                    have hle := Nat.le_of_ble_eq_true hin.2
                    split at h
                    · rename_i k1
                      split at h
                      · rename_i s1 hwr
                        simp only [Option.some.injEq] at h; subst h
                        obtain ⟨a2, w2, ha2, hst, hI2⟩ := wr_sound (P := P) hI hnd hwr
                        rw [ha] at ha2; cases ha2
                        refine AOk.same hk hI2 (u := .slice (some ⟨a.blk, a.off + off, none⟩) (len + m) k1) (by simp [den, ha, Cap.den]) ?_
                        refine run_append_in h0 h1 hu hd hni' hz hlen hfirst hle ?_
                        rw [add_none, Nat.add_assoc]
                        simpa using hst
                      · simp at h
                    · rename_i i
                      cases hc5 : (Nat.beq e' e && Nat.beq z' (z + 1) && Nat.beq off (i * (z + 1)) && Nat.ble i lo && !wh) with
                      | false => simp [hc5] at h
                      | true =>
                        simp only [hc5, cond_true] at h
                        simp only [Bool.and_eq_true, Bool.not_eq_true'] at hc5
                        obtain ⟨⟨⟨⟨c1, c2⟩, c3⟩, c6⟩, c4⟩ := hc5
                        have c6 := Nat.le_of_ble_eq_true c6
                        have c1 := Nat.eq_of_beq_eq_true c1
                        have c2 := Nat.eq_of_beq_eq_true c2
                        have c3 := Nat.eq_of_beq_eq_true c3
                        subst c1; subst c2
                        split at h
                        · rename_i pr' hpr
                          split at h
                          · rename_i cs' happ
                            simp only [Option.some.injEq] at h; subst h
                            obtain ⟨t1, t3⟩ := take_den cs _ pr' l g3 hpr
                            have hcl : capLo s n (.room i) = lo - i := by simp [capLo, hg]
                            rw [hcl] at hle
                            have hroom : pre.length + (off + len * (z + 1)) + nl.length ≤ (pre ++ l ++ post).length := by
                              refine Nat.le_trans ?_ g5
                              rw [g2, hnl, c3]
                              have : (i + (len + m)) * (z + 1) ≤ a.kap * (z + 1) := Nat.mul_le_mul_right _ (by omega)
                              rw [Nat.add_mul, Nat.add_mul] at this
                              omega
                            obtain ⟨w2, post', hst, q1, q2, q3, q4, q5, q6, q7⟩ := store_on (P := P) g1 t3 hroom hone
                            have hI2 : Inv E r (s.set n (some (.cells e' (z + 1) cs' lo wh))) w2 := by
                              refine hI.touch hg ha q1 q2 q3 q4 q5 ?_
                              exact ⟨pre, l.take (off + len * (z + 1)) ++ nl, post', q6, g2, app_den _ _ _ _ _ t1 hnd happ, g4, by rw [q7]; exact g5, fun e => by rw [c4] at e; cases e⟩
                            refine AOk.same hk hI2 (u := .slice (some ⟨a.blk, a.off + off, none⟩) (len + m) (Cap.den a.kap (.room i))) (by simp [den, ha]) ?_
                            refine run_append_in h0 h1 hu hd hni' hz hlen hfirst (Nat.le_trans hle (by rw [← hcl]; exact hcap)) ?_
                            rw [add_none, Nat.add_assoc, ← g2]
                            simpa using hst
                          · simp at h
                        · simp at h
                  | false =>
                    simp only [hin, cond_false] at h
                    cases ho1 : old.allOne with
                    | false => simp [ho1] at h
                    | true =>
                      simp only [ho1, cond_true] at h
                      split at h
                      · simp at h
                      · rename_i cs' happ
                        split at h
                        · rename_i k1
                          cases hk1 : Nat.ble (len + m) k1 with
                          | true => simp [hk1] at h
                          | false =>
                            simp only [hk1, cond_false, Option.some.injEq] at h; subst h
                            have hlt : k1 < len + m := by
                              apply Nat.lt_of_not_le
                              intro hle
                              rw [Nat.ble_eq_true_of_le hle] at hk1; cases hk1
                            obtain ⟨nc, hnc, hd2, hl2, hrun⟩ := grow hlt cs' happ
                            have hp := push_grown hI.drew hk (e := e) (z := z + 1) (m := len + m) (nc := nc) (zz := zz) (rest := Builtin.zeroCells zv.cells (nc - (len + m))) hd2 hl2 hnc (by rw [zeroCells_size, hzs])
                            exact AOk.upd hk hp (u := .slice (some ⟨w.drew.heap.size, 0, none⟩) (len + m) nc) (by simp [den, upd_self, Cap.den]) hrun
                        · rename_i i
                          cases hc5 : (Nat.beq e' e && Nat.beq z' (z + 1) && Nat.beq off (i * (z + 1)) && Nat.ble i lo && !wh) with
                          | false => simp [hc5] at h
                          | true =>
                            simp only [hc5, cond_true, Option.some.injEq] at h; subst h
                            simp only [Bool.and_eq_true, Bool.not_eq_true'] at hc5
                            obtain ⟨⟨⟨⟨c1, c2⟩, c3⟩, c6⟩, c4⟩ := hc5
                            have c6 := Nat.le_of_ble_eq_true c6
                            have c1 := Nat.eq_of_beq_eq_true c1
                            have c2 := Nat.eq_of_beq_eq_true c2
                            have c3 := Nat.eq_of_beq_eq_true c3
                            subst c1; subst c2
                            by_cases hfit : len + m ≤ Cap.den a.kap (.room i)
                            · -- in place, whatever the old name was
                              have hfit' : len + m ≤ a.kap - i := hfit
                              have hroom : pre.length + (off + len * (z + 1)) + nl.length ≤ (pre ++ l ++ post).length := by
                                refine Nat.le_trans ?_ g5
                                rw [g2, hnl, c3]
                                have : (i + (len + m)) * (z + 1) ≤ a.kap * (z + 1) := Nat.mul_le_mul_right _ (by omega)
                                rw [Nat.add_mul, Nat.add_mul] at this
                                omega
                              obtain ⟨w2, post', hst, q1, q2, q3, q4, q5, q6, q7⟩ := store_on (P := P) g1 hoff hroom hone
                              have hd2 := app_den _ _ _ _ _ hl1 hnd happ
                              have hsplit : l.take (off + len * (z + 1)) = l.take off ++ l1 := by
                                rw [holdl, List.take_add]
                              have hI2 : Inv E (upd r k0 ⟨a.blk, a.off + off, a.kap - i⟩) ((s.set n none).set k0 (some (.cells e' (z + 1) cs' (len + m) false))) w2 := by
                                refine hI.rename hk hg ha rfl q1 q2 q3 q4 q5 ?_
                                refine ⟨pre ++ l.take off, l1 ++ nl, post', ?_, ?_, den_mono (upd_le hk) _ _ hd2, hfit', ?_, fun e => by cases e⟩
                                · rw [q6, hsplit]; simp
                                · simp [g2]; omega
                                · have : (pre ++ l.take off ++ (l1 ++ nl) ++ post').length = (pre ++ l ++ post).length := by
                                    rw [← q7, hsplit]; simp
                                  rw [this]
                                  refine Nat.le_trans ?_ g5
                                  have h8 : i * (z + 1) + (a.kap - i) * (z + 1) = a.kap * (z + 1) := by rw [← Nat.add_mul, Nat.add_sub_cancel' (by omega)]
                                  show a.off + off + (a.kap - i) * (z + 1) ≤ a.off + a.kap * (z + 1)
                                  rw [← h8, c3]
                                  omega
                              refine AOk.upd hk hI2 (u := .slice (some ⟨a.blk, a.off + off, none⟩) (len + m) (a.kap - i)) (by simp [den, upd_self, Cap.den]) ?_
                              refine run_append_in h0 h1 hu hd hni' hz hlen hfirst hfit ?_
                              rw [add_none, Nat.add_assoc, ← g2]
                              simpa using hst
                            · obtain ⟨nc, hnc, hd2, hl2, hrun⟩ := grow (by omega) cs' happ
                              have hI1 : Inv E r (s.set n none) w := hI.drop hg ha rfl (fun _ _ => rfl) rfl rfl rfl
                              have hp := push_grown hI1.drew hk (e := e') (z := z + 1) (m := len + m) (nc := nc) (zz := zz) (rest := Builtin.zeroCells zv.cells (nc - (len + m))) hd2 hl2 hnc (by rw [zeroCells_size, hzs])
                              exact AOk.upd hk hp (u := .slice (some ⟨w.drew.heap.size, 0, none⟩) (len + m) nc) (by simp [den, upd_self, Cap.den]) hrun
                · simp at h
            · simp at h
        · simp at h
      · simp at h
    · simp at h
  · simp at h
end

end Ex
end Go.Proofs.YtlpjmjielpdhiaaGreatDoor
