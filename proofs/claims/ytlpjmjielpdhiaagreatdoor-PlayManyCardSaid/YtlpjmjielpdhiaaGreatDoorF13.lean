/- THE WALK BY RECKONING, 16: every operation that changes something. No condition. -/
import Derived.Test.YtlpjmjielpdhiaaGreatDoorF12
set_option linter.unusedSimpArgs false
set_option linter.unusedVariables false
namespace Go.Proofs.YtlpjmjielpdhiaaGreatDoor
namespace Ex
open Go

section
variable {P : Program} {E : Env} {r r' : Nat → Option Nm} {s s' : Tr Blk} {w w' : World} {ev : Operand → Option AV} {ρ : Operand → Value}

theorem liesAt_at {e : TypeId} (hc : P.cellsOf e = 1) (count off n : Nat) (hn : off + n ≤ count) : liesAt P P.depth e count off e n = true := by
  have hd : P.depth = (2 * (P.types.size + Made.depth) + 1) + 1 := rfl
  rw [hd]
  simp only [liesAt, Bool.or_eq_true]
  left
  rw [hd]
  simp [rowAt, hc, hn, sameLayout]
  exact .inl (Nat.mod_one off)
theorem bytesA_den : ∀ (x : AV) (l : List Value) (bs : List UInt8), den r x = some l → bytesA x = some bs → l = bs.map fun b => Value.int .u8 b.toNat := by
  intro x
  induction x with
  | nil => intro l bs hd h; rw [den_nil hd]; simp only [bytesA, Option.some.injEq] at h; subst h; rfl
  | cons a t _ iht =>
    intro l bs hd h
    obtain ⟨v, k, h1, h2, rfl⟩ := den_cons hd
    unfold bytesA at h
    split at h
    · rename_i e; cases e
    · rename_i b t' e
      simp only [AV.cons.injEq] at e
      obtain ⟨rfl, rfl⟩ := e
      cases one_eq (den_prim h1).1
      cases hb : Nat.blt b 256 with
      | false => simp [hb] at h
      | true =>
        simp only [hb, cond_true] at h
        have hlt := blt_iff hb
        split at h
        · rename_i l' hl'
          simp only [Option.some.injEq] at h; subst h
          rw [iht k l' h2 hl']
          simp [UInt8.toNat_ofNat', Nat.mod_eq_of_lt hlt]
        · simp at h
    · simp at h
  | _ => intro l bs hd h; simp [bytesA] at h

theorem freeze_size (a : Addr) (n : Nat) : (w.freeze a n).heap.size = w.heap.size := by unfold World.freeze; split <;> simp
theorem freeze_ne {a : Addr} {n i : Nat} (h : i ≠ a.block) : (w.freeze a n).heap[i]? = w.heap[i]? := by
  unfold World.freeze; split
  · rfl
  · simp [Array.getElem?_modify, Ne.symm h]
theorem freeze_os (a : Addr) (n : Nat) : (w.freeze a n).os = w.os ∧ (w.freeze a n).output = w.output ∧ (w.freeze a n).tape = w.tape := by unfold World.freeze; split <;> exact ⟨rfl, rfl, rfl⟩

theorem run_unsafeString {ts : Array TypeId} {ty t e0 : TypeId} {a : Addr} {kk : IntKind} {k : Nat} {bs : ByteArray} (h0 : ts[0]? = some t) (hu : P.underlying t = some (.pointer e0)) (hk : k ≤ 1000000)
    (hv : (variablesAt a e0 (k + 1)).run P w = .ok true w) (hl : (loadBytes a .empty (k + 1)).run P w = .ok bs w) :
    (Builtin.unsafeString_ ts ty #[.pointer (some a), .int kk ((k + 1 : Nat) : Int)]).run P w = .ok (.string bs) (w.freeze a (k + 1)) := by
  have hmax : IntKind.i64.max = 9223372036854775807 := rfl
  have n1 : ¬ ((k : Int) + 1 < 0) := by omega
  have n2 : ¬ (9223372036854775807 < (k : Int) + 1) := by omega
  have n3 : ¬ ((k : Int) + 1 = 0) := by omega
  have key : ∀ m : Sem Value, m = Builtin.unsafeString_ ts ty #[.pointer (some a), .int kk ((k + 1 : Nat) : Int)] → m.run P w = .ok (.string bs) (w.freeze a (k + 1)) := by
    intro m hm
    delta Builtin.unsafeString_ at hm
    conv at hm => rhs; whnf
    subst hm
    simp [asInt, asIntOf, h0, hmax, n1, n2, n3, elemOf, run_underlying hu, hv, hl]
  exact key _ rfl

theorem xUnsafeString_sound (hI : Inv E r s w) {k0 : Nat} (hk : r k0 = none) {t : TypeId} {x y : AV} {u v : Value} {q : OpR} (hx : den r x = some [u]) (hy : den r y = some [v]) (h : xUnsafeString P s t x y = some q)
    (ts : Array TypeId) (h0 : ts[0]? = some t) (ty : TypeId) : AOk P E r k0 w ((Builtin.unsafeString_ ts ty #[u, v]).run P w) q := by
  unfold xUnsafeString at h
  split at h
  · rename_i n off k hn
    obtain ⟨kk, rfl⟩ := asN_sound hy hn
    obtain ⟨a, ha, e1⟩ := den_ptr hx
    cases one_eq e1
    split at h
    · rename_i e0 e z cs lo wh hu hg
      cases hb : (Nat.beq e0 e && Nat.beq z 1 && Nat.ble k 1000000) with
      | false => simp [hb] at h
      | true =>
        simp only [hb, cond_true] at h
        simp only [Bool.and_eq_true] at hb
        obtain ⟨⟨b1, b2⟩, b3⟩ := hb
        have b1 := Nat.eq_of_beq_eq_true b1
        have b3 := Nat.le_of_ble_eq_true b3
        subst b1
        split at h
        · rename_i l hue hz hrd
          split at h
          · rename_i bs hbs
            simp only [Option.some.injEq] at h; subst h
            obtain ⟨a', l1, ha', hl1, hd1, hc⟩ := rdN_sound hI hrd
            rw [ha] at ha'; cases ha'
            have hbl := bytesA_den l l1 bs hd1 hbs
            have hbn : bs.length = k + 1 := by rw [hbl] at hl1; simpa using hl1
            obtain ⟨a2, pre, l2, post, ha2, g1, g2, g3, _⟩ := rowOf hI hg
            rw [ha] at ha2; cases ha2
            have hsh := shapeOf g1
            have hcells : P.cellsOf e0 = 1 := by
              unfold szO at hz
              split at hz
              · rename_i i hi; simp only [Option.some.injEq] at hz; simp [Program.cellsOf, hi, hz]
              · simp at hz
            have hcell : ∀ j x, bs[j]? = some x → w.cell? ((⟨a.blk, a.off + off, none⟩ : Addr).add j) = some (.int .u8 x.toNat) := by
              intro j x hj
              rw [add_none]
              apply hc
              rw [hbl]
              simp [hj]
            have hlb := Lib.run_loadBytes (P := P) w bs ⟨a.blk, a.off + off, none⟩ .empty hcell
            rw [hbn] at hlb
            have hlast : a.off + off + (k + 1) ≤ (pre ++ l2 ++ post).length := by
              have := hc k (.int .u8 ((bs.getD k 0).toNat)) (by rw [hbl]; simp [show k < bs.length by omega])
              have h9 : w.cell? ⟨a.blk, a.off + off + k, none⟩ ≠ none := by rw [this]; simp
              simp only [World.cell?, g1, Option.isSome_none, Bool.false_eq_true, if_false, List.getElem?_toArray] at h9
              have h10 : a.off + off + k < (pre ++ l2 ++ post).length := by
                apply Nat.lt_of_not_le
                intro hle
                exact h9 (List.getElem?_eq_none hle)
              omega
            have hlies := liesAt_at (P := P) hcells ((pre ++ l2 ++ post).length / P.cellsOf e0) (a.off + off) (k + 1) (by rw [hcells]; simpa using hlast)
            have hv : (variablesAt ⟨a.blk, a.off + off, none⟩ e0 (k + 1)).run P w = .ok true w := by
              simp only [List.size_toArray] at hsh
              generalize (pre ++ l2 ++ post).length = N at hsh hlies
              simp [variablesAt, hsh, hlies]
            have hI2 : Inv E r (s.set n none) (w.freeze ⟨a.blk, a.off + off, none⟩ (k + 1)) :=
              hI.drop hg ha (freeze_size _ _) (fun i hi => freeze_ne hi) (freeze_os _ _).1 (freeze_os _ _).2.1 (freeze_os _ _).2.2
            refine AOk.same hk hI2 (u := .string ⟨bs.toArray⟩) rfl ?_
            exact run_unsafeString h0 hu b3 hv (by rw [hlb]; simp)
          · simp at h
        · simp at h
    · simp at h
  · simp at h
theorem SOk.of_AOk {k0 : Nat} {m : Result Value} {m' : Result Next} {q : OpR} (h : AOk P E r k0 w m q) (hm : ∀ u w', m = .ok u w' → m' = .ok (.value u) w') : SOk P E r k0 w m' q := by
  obtain ⟨v, s', used, rfl, r', w', u, h1, h2, h3, h4, h5, h6⟩ := h
  exact ⟨r', w', u, h1, h2, h3, h4, h5, .inl (hm u w' h6)⟩

theorem exS_sound (hI : Inv E r s w) (hev : EvOk r ev ρ) {k0 : Nat} (hk : r k0 = none) {o : Oper} {q : OpR} (h : exS P ev s k0 o = some q) : SOk P E r k0 w ((execOp ρ o).run P w) q := by
  unfold exS at h
  split at h
  case h_1 t ho =>
    split at h
    · rename_i z hz
      obtain ⟨zv, h1, h2, _⟩ := run_zero (r := r) hz w
      obtain ⟨v', s', rfl, a, w', g1, x, g2, g3⟩ := xVar_sound (P := P) hI hk h2 h
      refine SOk.of_var hk g1 g2 ?_
      simp only [Sem.run_bind, Sem.run_pure] at g3
      simp only [execOp, ho, Instr.alloc, Sem.run_bind, Sem.run_pure, h1, Result.andThen_ok]
      generalize (newVar t zv).run P w = m at g3
      cases m with
      | halt _ _ => simp at g3
      | ok y w1 =>
        simp only [Result.andThen_ok, Result.ok.injEq] at g3
        obtain ⟨rfl, rfl⟩ := g3
        rfl
    · simp at h
  case h_2 t x ho =>
    split at h
    · rename_i xv hx
      obtain ⟨v', s', rfl, a, w', g1, y, g2, g3⟩ := xVar_sound (P := P) hI hk (hev x _ hx) h
      refine SOk.of_var hk g1 g2 ?_
      simp only [Sem.run_bind, Sem.run_pure] at g3
      simp only [execOp, ho, Instr.box, Sem.run_bind, Sem.run_pure, Result.andThen_ok]
      generalize (newVar t (ρ x)).run P w = m at g3
      cases m with
      | halt _ _ => simp at g3
      | ok y w1 =>
        simp only [Result.andThen_ok, Result.ok.injEq] at g3
        obtain ⟨rfl, rfl⟩ := g3
        rfl
    · simp at h
  case h_3 t n ps ho =>
    split at h
    · rename_i l hl
      obtain ⟨v', s', rfl, a, w', g1, y, g2, g3⟩ := xBuildSlice_sound (P := P) hI hk (mapP_sound hev _ _ hl) h
      refine SOk.of_var hk g1 g2 ?_
      have e : ∀ f : Nat × Operand → Nat × Value, (List.map f ps.toList).toArray = ps.map f := fun f => by
        apply Array.toList_inj.1; simp
      rw [e] at g3
      simp only [execOp, ho, Sem.run_bind, g3, Result.andThen_ok, Sem.run_pure]
    · simp at h
  case h_4 t a x ho =>
    split at h
    · rename_i av xv ha hx
      split at h
      · rename_i s1 hs1
        simp only [Option.some.injEq] at h; subst h
        obtain ⟨w', g1, g2⟩ := xStore_sound (P := P) hI (hev x _ hx) (hev a _ ha) hs1
        exact ⟨r, w', undef, Le.refl r, fun _ _ h => h, fun _ => hk, g1, undefA_den, .inr ⟨rfl, by simp [execOp, ho, g2]⟩⟩
      · simp at h
    · simp at h
  case h_5 t rr ho =>
    have newMap : ∀ (hint : Option Value), (∀ x, hint = some x → (∃ k e, P.underlying t = some (.map k e)) ∧ ∃ k i, x = .int k i) → (Instr.makeMap t hint).run P w = .ok (.map (some w.heap.size)) (w.alloc (.map #[] 0)) := by
      intro hint hh
      cases hint with
      | none => simp [Instr.makeMap]
      | some x =>
        obtain ⟨⟨k, e, hu⟩, k', i, rfl⟩ := hh x rfl
        simp [Instr.makeMap, run_underlying hu, asInt, asIntOf]
    have hp : Inv E (upd r k0 ⟨w.heap.size, 0, 0⟩) (s.set k0 (some (.map [] 0))) (w.alloc (.map #[] 0)) := by
      refine hI.push hk (o := .map #[] 0) rfl rfl rfl rfl rfl ?_
      exact ⟨#[], by show (w.heap.push _)[w.heap.size]? = _; simp, trivial⟩
    split at h
    · simp only [Option.some.injEq] at h; subst h
      refine SOk.of_var hk hp (x := .map (some w.heap.size)) (by simp [den, upd_self]) ?_
      simp [execOp, ho, newMap none (by simp)]
    · rename_i x kt et hu
      split at h
      · rename_i hx
        simp only [Option.some.injEq] at h; subst h
        refine SOk.of_var hk hp (x := .map (some w.heap.size)) (by simp [den, upd_self]) ?_
        have := one_eq (den_prim (hev x _ hx)).1
        have h2 := newMap (some (ρ x)) (fun y hy => by cases hy; exact ⟨⟨_, _, hu⟩, _, _, this⟩)
        simp [execOp, ho, h2]
      · simp at h
    · simp at h
  case h_6 t l c ho =>
    split at h
    · rename_i lv cv hl hc
      obtain ⟨v', s', rfl, a, w', g1, y, g2, g3⟩ := xMakeSlice_sound (P := P) hI hk (hev l _ hl) (hev c _ hc) h
      refine SOk.of_var hk g1 g2 ?_
      simp only [execOp, ho, Sem.run_bind, g3, Result.andThen_ok, Sem.run_pure]
    · simp at h
  case h_7 t m k x ho =>
    split at h
    · rename_i mv kv xv hm hkk hx
      split at h
      · rename_i s1 hs1
        simp only [Option.some.injEq] at h; subst h
        obtain ⟨w', g1, g2⟩ := xUpdate_sound (P := P) hI (hev m _ hm) (hev k _ hkk) (hev x _ hx) hs1
        exact ⟨r, w', undef, Le.refl r, fun _ _ h => h, fun _ => hk, g1, undefA_den, .inr ⟨rfl, by simp [execOp, ho, g2]⟩⟩
      · simp at h
    · simp at h
  case h_8 t m k x ho =>
    split at h
    · rename_i mv kv xv hm hkk hx
      split at h
      · rename_i s1 hs1
        simp only [Option.some.injEq] at h; subst h
        obtain ⟨w', g1, g2⟩ := xUpdate_sound (P := P) hI (hev m _ hm) (hev k _ hkk) (hev x _ hx) hs1
        exact ⟨r, w', undef, Le.refl r, fun _ _ h => h, fun _ => hk, g1, undefA_den, .inr ⟨rfl, by simp [execOp, ho, g2]⟩⟩
      · simp at h
    · simp at h
  case h_9 t x ho =>
    split at h
    · rename_i xv hx
      unfold xRange at h
      split at h
      · rename_i l hu
        simp only [Option.some.injEq] at h; subst h
        have e := one_eq (den_str (hev x _ hx))
        have hp : Inv E (upd r k0 ⟨w.heap.size, 0, 0⟩) (s.set k0 (some (.iter l 0))) (w.alloc (.stringIter ⟨l.toArray⟩ 0)) := by
          refine hI.push hk (o := .stringIter ⟨l.toArray⟩ 0) rfl rfl rfl rfl rfl ?_
          exact ⟨by show (w.heap.push _)[w.heap.size]? = _; simp, rfl⟩
        refine SOk.of_var hk hp (x := .pointer (some ⟨w.heap.size, 0, none⟩)) (by simp [den, upd_self]) ?_
        simp [execOp, ho, e, Instr.range, run_underlying hu]
      · simp at h
    · simp at h
  case h_10 it isS ho =>
    split at h
    · rename_i a ha
      obtain ⟨v, s', rfl, w', u, g1, g2, g3⟩ := xNext_sound (P := P) hI hk (hev it _ ha) h o.type
      refine SOk.of_same hk g1 g2 ?_
      simp only [execOp, ho, Sem.run_bind, g3, Result.andThen_ok, Sem.run_pure]
    · simp at h
  case h_11 c ho =>
    have earr : (List.map ρ c.args.toList).toArray = c.args.map ρ := by apply Array.toList_inj.1; simp
    split at h
    · rename_i b hc
      split at h
      · rename_i as has
        have h1 := mapO_sound hev _ _ has
        unfold xBuiltinS at h
        split at h
        · rename_i t x y ht
          obtain ⟨u, k, h2, h3, e⟩ := den_cons h1
          obtain ⟨v, k', h4, h5, e'⟩ := den_cons h3
          rw [den_nil h5] at e'
          rw [e'] at e
          rw [e] at earr
          have := xAppend_sound (P := P) hI hk h2 h4 h c.argTypes ht rfl o.type
          refine SOk.of_AOk this fun z w' hz => ?_
          simp only [execOp, ho, resolve, hc, Sem.run_bind, Sem.run_pure, Result.andThen_ok, invoke, builtin, ← earr, hz]
        · rename_i t x y ht
          obtain ⟨u, k, h2, h3, e⟩ := den_cons h1
          obtain ⟨v, k', h4, h5, e'⟩ := den_cons h3
          rw [den_nil h5] at e'
          rw [e'] at e
          rw [e] at earr
          obtain ⟨v', s', rfl, w', z, g1, g2, g3⟩ := xCopy_sound (P := P) hI h2 h4 h c.argTypes ht o.type
          refine SOk.of_same hk g1 g2 ?_
          simp only [execOp, ho, resolve, hc, Sem.run_bind, Sem.run_pure, Result.andThen_ok, invoke, builtin, ← earr, g3]
        · rename_i t x y ht
          obtain ⟨u, k, h2, h3, e⟩ := den_cons h1
          obtain ⟨v, k', h4, h5, e'⟩ := den_cons h3
          rw [den_nil h5] at e'
          rw [e'] at e
          rw [e] at earr
          have := xUnsafeString_sound (P := P) hI hk h2 h4 h c.argTypes ht o.type
          refine SOk.of_AOk this fun z w' hz => ?_
          simp only [execOp, ho, resolve, hc, Sem.run_bind, Sem.run_pure, Result.andThen_ok, invoke, builtin, ← earr, hz]
        · simp at h
      · simp at h
    · rename_i f hc
      split at h
      · rename_i fv as hf has
        have h1 := mapO_sound hev _ _ has
        unfold xCall at h
        split at h
        · rename_i f' first captured
          obtain ⟨x', y', h3, h4, e⟩ := den_fn (hev f _ hf)
          have e := one_eq e
          split at h
          · rename_i fn hfn
            cases hb : (fn.body.isSome && !(fn.name == "runtime.NumGoroutine")) with
            | false => simp [hb] at h
            | true =>
              simp only [hb, cond_true] at h
              simp only [Bool.and_eq_true, Bool.not_eq_true'] at hb
              split at h
              · rename_i l1 hl1
                split at h
                · rename_i l2 hl2
                  simp only [Option.some.injEq] at h; subst h
                  have d1 := app_den _ _ _ _ _ h1 h4 hl1
                  have d2 := app_den _ _ _ _ _ h3 d1 hl2
                  refine ⟨_, d2, ?_⟩
                  have hb1 : fn.body.isNone = false := by cases hq : fn.body <;> simp_all
                  have e2 : (x' ++ (List.map ρ c.args.toList ++ y')).toArray = x'.toArray ++ c.args.map ρ ++ y'.toArray := by
                    apply Array.toList_inj.1; simp
                  rw [e2]
                  simp only [execOp, ho, resolve, hc, e, Deferred.ofValue, Sem.run_bind, Sem.run_pure, Result.andThen_ok, invoke, callFunc, run_program, hfn, hb.2, hb1, Bool.false_eq_true, if_false]
                · simp at h
              · simp at h
          · simp at h
        · simp at h
      · simp at h
    · simp at h
  case h_12 => simp at h
end

end Ex
end Go.Proofs.YtlpjmjielpdhiaaGreatDoor
