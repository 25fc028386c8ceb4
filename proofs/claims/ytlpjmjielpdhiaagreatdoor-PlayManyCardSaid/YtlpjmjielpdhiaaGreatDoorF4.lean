/- THE WALK BY RECKONING, 7: two values. No condition. -/
import Derived.Test.YtlpjmjielpdhiaaGreatDoorF3
import Derived.ChangeKeysEq
set_option linter.unusedSimpArgs false
set_option linter.unusedVariables false
namespace Go.Proofs.YtlpjmjielpdhiaaGreatDoor
namespace Ex
open Go

section
variable {P : Program} {E : Env} {r : Nat → Option Nm} {s : Tr Blk} {w : World}

theorem one_eq {α : Type} {a b : α} (h : [a] = [b]) : a = b := by simpa using h

theorem noFrozen {b : Nat} {c : Array Value} {e : TypeId} (h : w.heap[b]? = some (.cells c e (0, 0))) (o : Nat) (sp : Option Nat) : w.frozen? ⟨b, o, sp⟩ = false := by
  simp [World.frozen?, h]
theorem shapeOf {b : Nat} {c : Array Value} {e : TypeId} (h : w.heap[b]? = some (.cells c e (0, 0))) : w.shape? b = some (e, c.size) := by
  simp [World.shape?, h]
theorem run_sameAddr_ne {b b' o o' : Nat} {c c' : Array Value} {e e' : TypeId} (h : w.heap[b]? = some (.cells c e (0, 0))) (h' : w.heap[b']? = some (.cells c' e' (0, 0))) (hne : b ≠ b') :
    (sameAddr ⟨b, o, none⟩ ⟨b', o', none⟩).run P w = .ok false w := by
  have hb : (b == b') = false := by simpa using hne
  simp [sameAddr, hb, hne, noFrozen h, noFrozen h', noView, viewAt, shapeOf h, shapeOf h', mayBeOne, stringish]
theorem run_sameAddr_eq {b o o' : Nat} : (sameAddr ⟨b, o, none⟩ ⟨b, o', none⟩).run P w = .ok (o == o') w := by
  have : ((⟨b, o, none⟩ : Addr) == ⟨b, o', none⟩) = (o == o') := by
    rw [Bool.eq_iff_iff, beq_iff_eq, beq_iff_eq]
    simp
  simp [sameAddr, this]

theorem eqS_sound (hI : Inv E r s w) {t : TypeId} {x y : AV} {u v : Value} {b : Bool} (hx : den r x = some [u]) (hy : den r y = some [v]) (h : eqS P s t x y = some b) (d : Nat) :
    (Op.equalIn (d + 1) t u v).run P w = .ok b w := by
  unfold eqS at h
  split at h
  · rename_i a c hu
    cases one_eq (den_prim hx).1; cases one_eq (den_prim hy).1
    simp only [Option.some.injEq] at h; subst h
    simp [Op.equalIn, run_underlying hu]
  · rename_i k0 k a k' c hu
    cases one_eq (den_prim hx).1; cases one_eq (den_prim hy).1
    split at h
    · rename_i hk
      simp only [Option.some.injEq] at h; subst h
      simp [Op.equalIn, run_underlying hu, hk]
    · simp at h
  · rename_i a c hu
    cases one_eq (den_str hx); cases one_eq (den_str hy)
    simp only [Option.some.injEq] at h; subst h
    simp [Op.equalIn, run_underlying hu, beq_toListBytes, eqBytes_iff]
  · rename_i hu
    cases one_eq (den_prim hx).1; cases one_eq (den_prim hy).1
    simp only [Option.some.injEq] at h; subst h
    simp [Op.equalIn, run_underlying hu]
  · rename_i n o hu
    obtain ⟨a, ha, e⟩ := den_ptr hy
    cases one_eq (den_prim hx).1; cases one_eq e
    simp only [Option.some.injEq] at h; subst h
    simp [Op.equalIn, run_underlying hu]
  · rename_i n o hu
    obtain ⟨a, ha, e⟩ := den_ptr hx
    cases one_eq (den_prim hy).1; cases one_eq e
    simp only [Option.some.injEq] at h; subst h
    simp [Op.equalIn, run_underlying hu]
  · rename_i e n o m q hu
    obtain ⟨a, ha, e1⟩ := den_ptr hx
    obtain ⟨c, hc, e2⟩ := den_ptr hy
    cases one_eq e1; cases one_eq e2
    split at h
    · rename_i hz hn hm
      simp only [Option.some.injEq] at h; subst h
      obtain ⟨a', pre, l, post, ha', h1, _⟩ := rowOf hI hn
      obtain ⟨c', pre', l', post', hc', h2, _⟩ := rowOf hI hm
      rw [ha] at ha'; cases ha'
      rw [hc] at hc'; cases hc'
      have goal : (sameAddr ⟨a.blk, a.off + o, none⟩ ⟨c.blk, c.off + q, none⟩).run P w = .ok (Nat.beq n m && Nat.beq o q) w := by
        cases hnm : Nat.beq n m with
        | true =>
          have := Nat.eq_of_beq_eq_true hnm
          subst this
          rw [ha] at hc; cases hc
          rw [run_sameAddr_eq, Bool.true_and]
          congr 1
          rw [Bool.eq_iff_iff, beq_iff_eq, Nat.beq_eq]
          omega
        | false =>
          have hne : n ≠ m := fun e => by subst e; simp at hnm
          rw [run_sameAddr_ne h1 h2 (hI.apart n m _ _ a c hn hm hne ha hc)]
          rfl
      simp [Op.equalIn, run_underlying hu, run_size hz, goal]
    · simp at h
  · rename_i n c e m c2 hu
    cases one_eq (den_prim hx).1; cases one_eq (den_prim hy).1
    simp only [Option.some.injEq] at h; subst h
    simp [Op.equalIn, run_underlying hu]
  · rename_i hu
    obtain ⟨a, ha, e⟩ := den_sl hy
    cases one_eq (den_prim hx).1; cases one_eq e
    simp only [Option.some.injEq] at h; subst h
    simp [Op.equalIn, run_underlying hu]
  · rename_i hu
    obtain ⟨a, ha, e⟩ := den_sl hx
    cases one_eq (den_prim hy).1; cases one_eq e
    simp only [Option.some.injEq] at h; subst h
    simp [Op.equalIn, run_underlying hu]
  · rename_i hu
    cases one_eq (den_prim hx).1; cases one_eq (den_prim hy).1
    simp only [Option.some.injEq] at h; subst h
    simp [Op.equalIn, run_underlying hu]
  · rename_i hu
    obtain ⟨a, ha, e⟩ := den_mp hy
    cases one_eq (den_prim hx).1; cases one_eq e
    simp only [Option.some.injEq] at h; subst h
    simp [Op.equalIn, run_underlying hu]
  · rename_i hu
    obtain ⟨a, ha, e⟩ := den_mp hx
    cases one_eq (den_prim hy).1; cases one_eq e
    simp only [Option.some.injEq] at h; subst h
    simp [Op.equalIn, run_underlying hu]
  · rename_i hu
    cases one_eq (den_prim hx).1; cases one_eq (den_prim hy).1
    simp only [Option.some.injEq] at h; subst h
    simp [Op.equalIn, run_underlying hu]
  · rename_i hu
    obtain ⟨_, _, _, _, e⟩ := den_fn hy
    cases one_eq (den_prim hx).1; cases one_eq e
    simp only [Option.some.injEq] at h; subst h
    simp [Op.equalIn, run_underlying hu]
  · rename_i hu
    obtain ⟨_, _, _, _, e⟩ := den_fn hx
    cases one_eq (den_prim hy).1; cases one_eq e
    simp only [Option.some.injEq] at h; subst h
    simp [Op.equalIn, run_underlying hu]
  · rename_i hu
    obtain ⟨_, _, e⟩ := den_ifc hy
    cases one_eq (den_prim hx).1; cases one_eq e
    simp only [Option.some.injEq] at h; subst h
    simp [Op.equalIn, run_underlying hu]
  · rename_i hu
    obtain ⟨_, _, e⟩ := den_ifc hx
    cases one_eq (den_prim hy).1; cases one_eq e
    simp only [Option.some.injEq] at h; subst h
    simp [Op.equalIn, run_underlying hu]
  · simp at h

theorem run_part_scalar {t : TypeId} {l : List Value} {off : Nat} {v : Value} (hag : isAg P t = some false) (h : l[off]? = some v) (w : World) : (part t l.toArray off).run P w = .ok v w := by
  simp [part, run_agg hag, h]
theorem eqFs_sound (hI : Inv E r s w) {x y : AV} {k l : List Value} (hx : den r x = some k) (hy : den r y = some l) (d : Nat) : ∀ (fs : List Field) (b : Bool), eqFs P s x y fs = some b →
    (Op.eqFields (d + 1) k.toArray l.toArray fs).run P w = .ok b w := by
  intro fs
  induction fs with
  | nil => intro b h; simp only [eqFs, Option.some.injEq] at h; subst h; rfl
  | cons f fs ih =>
    intro b h
    simp only [eqFs] at h
    cases hn : f.name == "_" with
    | true => simp [hn] at h
    | false =>
      simp only [hn, cond_false] at h
      have hne : f.name ≠ "_" := by simpa using hn
      split at h
      · rename_i a c hag ha hc
        obtain ⟨u, h1, h2⟩ := nth_den x f.offset a k hx ha
        obtain ⟨v, h3, h4⟩ := nth_den y f.offset c l hy hc
        split at h
        · rename_i he
          have := eqS_sound hI h2 h4 he d
          simp [Op.eqFields, hne, run_part_scalar hag h1, run_part_scalar hag h3, this, ih b h]
        · rename_i he
          simp only [Option.some.injEq] at h; subst h
          have := eqS_sound hI h2 h4 he d
          simp [Op.eqFields, hne, run_part_scalar hag h1, run_part_scalar hag h3, this]
        · simp at h
      · simp at h

theorem eqAs_sound (hI : Inv E r s w) {e : TypeId} {x y : AV} {k l : List Value} (hx : den r x = some k) (hy : den r y = some l) (d : Nat) (hag : isAg P e = some false) : ∀ (n i : Nat) (b : Bool), eqAs P s e x y i n = some b →
    (Op.eqItems (d + 1) e 1 k.toArray l.toArray (List.range' i n)).run P w = .ok b w := by
  intro n
  induction n with
  | zero => intro i b h; simp only [eqAs, Option.some.injEq] at h; subst h; rfl
  | succ n ih =>
    intro i b h
    simp only [eqAs] at h
    split at h
    · rename_i a c ha hc
      obtain ⟨u, h1, h2⟩ := nth_den x i a k hx ha
      obtain ⟨v, h3, h4⟩ := nth_den y i c l hy hc
      rw [List.range'_succ]
      split at h
      · rename_i he
        have := eqS_sound hI h2 h4 he d
        simp [Op.eqItems, run_part_scalar hag h1, run_part_scalar hag h3, this, ih (i + 1) b h]
      · rename_i he
        simp only [Option.some.injEq] at h; subst h
        have := eqS_sound hI h2 h4 he d
        simp [Op.eqItems, run_part_scalar hag h1, run_part_scalar hag h3, this]
      · simp at h
    · simp at h

/-- '==' runs no guard here -/
def still (P : Program) (op : BinOp) (t : TypeId) (u v : Value) : Prop := ∀ X Y (w : World), (eqGuard op t X Y u v).run P w = .ok () w

theorem still_of {op : BinOp} {t : TypeId} {u v : Value} (h : ¬ (u = .nilIface ∧ v = .nilIface)) (h2 : ¬ ∃ xs ys, u = .agg xs ∧ v = .agg ys) : still P op t u v := by
  intro X Y w
  unfold eqGuard
  split <;> (rw [Sem.run_ite]; split <;> first | rfl | skip) <;>
  · split
    · exact absurd ⟨rfl, rfl⟩ h
    · exact absurd ⟨_, _, rfl, rfl⟩ h2
    · rfl

theorem eqS_still {t : TypeId} {x y : AV} {u v : Value} {b : Bool} (hx : den r x = some [u]) (hy : den r y = some [v]) (h : eqS P s t x y = some b) (op : BinOp) : still P op t u v := by
  unfold eqS at h
  split at h
  case h_19 => simp at h
  all_goals
    first
      | (cases one_eq (den_prim hx).1; cases one_eq (den_prim hy).1; exact still_of (by simp) (by simp))
      | (cases one_eq (den_str hx); cases one_eq (den_str hy); exact still_of (by simp) (by simp))
      | (obtain ⟨_, _, e⟩ := den_ptr hy; cases one_eq (den_prim hx).1; cases one_eq e; exact still_of (by simp) (by simp))
      | (obtain ⟨_, _, e⟩ := den_ptr hx; cases one_eq (den_prim hy).1; cases one_eq e; exact still_of (by simp) (by simp))
      | (obtain ⟨_, _, e⟩ := den_ptr hx; obtain ⟨_, _, e'⟩ := den_ptr hy; cases one_eq e; cases one_eq e'; exact still_of (by simp) (by simp))
      | (obtain ⟨_, _, e⟩ := den_sl hy; cases one_eq (den_prim hx).1; cases one_eq e; exact still_of (by simp) (by simp))
      | (obtain ⟨_, _, e⟩ := den_sl hx; cases one_eq (den_prim hy).1; cases one_eq e; exact still_of (by simp) (by simp))
      | (obtain ⟨_, _, e⟩ := den_mp hy; cases one_eq (den_prim hx).1; cases one_eq e; exact still_of (by simp) (by simp))
      | (obtain ⟨_, _, e⟩ := den_mp hx; cases one_eq (den_prim hy).1; cases one_eq e; exact still_of (by simp) (by simp))
      | (obtain ⟨_, _, _, _, e⟩ := den_fn hy; cases one_eq (den_prim hx).1; cases one_eq e; exact still_of (by simp) (by simp))
      | (obtain ⟨_, _, _, _, e⟩ := den_fn hx; cases one_eq (den_prim hy).1; cases one_eq e; exact still_of (by simp) (by simp))
      | (obtain ⟨_, _, e⟩ := den_ifc hy; cases one_eq (den_prim hx).1; cases one_eq e; exact still_of (by simp) (by simp))
      | (obtain ⟨_, _, e⟩ := den_ifc hx; cases one_eq (den_prim hy).1; cases one_eq e; exact still_of (by simp) (by simp))

theorem bin_of_equal {t : TypeId} {u v : Value} {b : Bool} (h : (Op.equal t u v).run P w = .ok b w) (he : binOp .eql t u v = (do pure (.bool (← Op.equal t u v)))) (hn : binOp .neq t u v = (do pure (.bool (!(← Op.equal t u v))))) :
    (binOp .eql t u v).run P w = .ok (.bool b) w ∧ (binOp .neq t u v).run P w = .ok (.bool (!b)) w := by
  rw [he, hn]
  simp [h]
theorem eqS_bin {t : TypeId} {x y : AV} {u v : Value} {b : Bool} (hx : den r x = some [u]) (hy : den r y = some [v]) (h : eqS P s t x y = some b) (hE : (Op.equal t u v).run P w = .ok b w) :
    (binOp .eql t u v).run P w = .ok (.bool b) w ∧ (binOp .neq t u v).run P w = .ok (.bool (!b)) w := by
  unfold eqS at h
  split at h
  case h_2 =>
    cases one_eq (den_prim hx).1; cases one_eq (den_prim hy).1
    split at h
    · rename_i hk
      simp only [Option.some.injEq] at h; subst h; subst hk
      constructor
      · simp [binOp, Op.intCmp]
      · simp [binOp, Op.intCmp, bne]
    · simp at h
  case h_3 =>
    cases one_eq (den_str hx); cases one_eq (den_str hy)
    simp only [Option.some.injEq] at h; subst h
    rw [binOp_string_eql, binOp_string_neq]
    simp [eqBytes_iff]
  case h_19 => simp at h
  all_goals
    first
      | (cases one_eq (den_prim hx).1; cases one_eq (den_prim hy).1; exact bin_of_equal hE rfl rfl)
      | (obtain ⟨_, _, e⟩ := den_ptr hy; cases one_eq (den_prim hx).1; cases one_eq e; exact bin_of_equal hE rfl rfl)
      | (obtain ⟨_, _, e⟩ := den_ptr hx; cases one_eq (den_prim hy).1; cases one_eq e; exact bin_of_equal hE rfl rfl)
      | (obtain ⟨_, _, e⟩ := den_ptr hx; obtain ⟨_, _, e'⟩ := den_ptr hy; cases one_eq e; cases one_eq e'; exact bin_of_equal hE rfl rfl)
      | (obtain ⟨_, _, e⟩ := den_sl hy; cases one_eq (den_prim hx).1; cases one_eq e; exact bin_of_equal hE rfl rfl)
      | (obtain ⟨_, _, e⟩ := den_sl hx; cases one_eq (den_prim hy).1; cases one_eq e; exact bin_of_equal hE rfl rfl)
      | (obtain ⟨_, _, e⟩ := den_mp hy; cases one_eq (den_prim hx).1; cases one_eq e; exact bin_of_equal hE rfl rfl)
      | (obtain ⟨_, _, e⟩ := den_mp hx; cases one_eq (den_prim hy).1; cases one_eq e; exact bin_of_equal hE rfl rfl)
      | (obtain ⟨_, _, _, _, e⟩ := den_fn hy; cases one_eq (den_prim hx).1; cases one_eq e; exact bin_of_equal hE rfl rfl)
      | (obtain ⟨_, _, _, _, e⟩ := den_fn hx; cases one_eq (den_prim hy).1; cases one_eq e; exact bin_of_equal hE rfl rfl)
      | (obtain ⟨_, _, e⟩ := den_ifc hy; cases one_eq (den_prim hx).1; cases one_eq e; exact bin_of_equal hE rfl rfl)
      | (obtain ⟨_, _, e⟩ := den_ifc hx; cases one_eq (den_prim hy).1; cases one_eq e; exact bin_of_equal hE rfl rfl)

theorem eqA_sound (hI : Inv E r s w) {t : TypeId} {x y : AV} {u v : Value} {b : Bool} (hx : den r x = some [u]) (hy : den r y = some [v]) (h : eqA P s t x y = some b) :
    ((binOp .eql t u v).run P w = .ok (.bool b) w ∧ (binOp .neq t u v).run P w = .ok (.bool (!b)) w) ∧ ∀ op, still P op t u v := by
  unfold eqA at h
  split at h
  · rename_i fs xs ys hu
    obtain ⟨k, hk, e1⟩ := den_agg hx
    obtain ⟨l, hl, e2⟩ := den_agg hy
    cases one_eq e1; cases one_eq e2
    cases hg : (P.stoodInHeld t || P.eqGuardType P.depth t) with
    | true => simp [hg] at h
    | false =>
      simp only [hg, cond_false] at h
      simp only [Bool.or_eq_false_iff] at hg
      have hf : P.fieldsOf t = fs := by simp [Program.fieldsOf, hu]
      refine ⟨bin_of_equal ?_ rfl rfl, fun op X Y w => run_eqGuard_agg w op t X Y _ _ hg.2⟩
      unfold Op.equal Op.maxDepth
      rw [run_equalIn_struct w 9999 t _ _ (by rw [hf]; exact hu) hg.1, hf]
      exact eqFs_sound hI hk hl 9998 fs.toList b h
  · rename_i n e xs ys hu
    obtain ⟨k, hk, e1⟩ := den_agg hx
    obtain ⟨l, hl, e2⟩ := den_agg hy
    cases one_eq e1; cases one_eq e2
    cases hg : P.eqGuardType P.depth t with
    | true => simp [hg] at h
    | false =>
      simp only [hg, cond_false] at h
      refine ⟨bin_of_equal ?_ rfl rfl, fun op X Y w => run_eqGuard_agg w op t X Y _ _ hg⟩
      split at h
      · rename_i hag hz
        have hz' := hz
        unfold szO at hz'
        split at hz'
        · rename_i i hi
          simp only [Option.some.injEq] at hz'
          unfold Op.equal Op.maxDepth
          rw [run_equalIn_array w 9999 _ _ hu hi, show P.cellsOf e = 1 by simp [Program.cellsOf, hi, hz'], List.range_eq_range']
          exact eqAs_sound hI hk hl 9998 hag n 0 b h
        · simp at hz'
      · simp at h
  · exact ⟨eqS_bin hx hy h (eqS_sound hI hx hy h 9999), eqS_still hx hy h⟩

theorem intBin_pr {op : BinOp} {k : IntKind} {a b : Int} {q : Value} (h : intBin op k a b = some q) : pr q = true := by
  cases op <;> simp only [intBin, Option.some.injEq, reduceCtorEq] at h <;> (try split at h) <;> (try simp only [Option.some.injEq, reduceCtorEq] at h) <;> subst h <;> rfl
theorem intBin_run {op : BinOp} {k : IntKind} {a b : Int} {q : Value} (t : TypeId) (h : intBin op k a b = some q) (w : World) : (binOp op t (.int k a) (.int k b)).run P w = .ok q w := by
  cases op <;> simp only [intBin, Option.some.injEq, reduceCtorEq] at h <;>
    first
      | (subst h; simp [binOp, Op.intArith, Op.intBits, Op.intCmp]; done)
      | (split at h
         · simp at h
         · rename_i h0; simp only [Option.some.injEq] at h; subst h; simp [binOp, Op.intDiv, h0])
theorem shiftA_pr {op : BinOp} {k : IntKind} {a b : Int} {q : Value} (h : shiftA op k a b = some q) : pr q = true := by
  unfold shiftA at h
  split at h
  · simp at h
  · split at h <;> simp only [Option.some.injEq, reduceCtorEq] at h <;> subst h <;> rfl
theorem binA_sound (hI : Inv E r s w) {op : BinOp} {t : TypeId} {x y z : AV} {u v : Value} (hx : den r x = some [u]) (hy : den r y = some [v]) (h : binA P s op t x y = some z) :
    ∃ q, den r z = some [q] ∧ ∀ X Y, (do eqGuard op t X Y u v; binOp op t u v).run P w = .ok q w := by
  have fin : ∀ {q : Value}, den r z = some [q] → still P op t u v → (binOp op t u v).run P w = .ok q w → ∃ q, den r z = some [q] ∧ ∀ X Y, (do eqGuard op t X Y u v; binOp op t u v).run P w = .ok q w :=
    fun {q} h1 h2 h3 => ⟨q, h1, fun X Y => by simp [Sem.run_bind, h2 X Y w, h3]⟩
  unfold binA at h
  split at h
  · cases one_eq (den_prim hx).1; cases one_eq (den_prim hy).1
    split at h
    · rename_i q hq
      simp only [Option.some.injEq] at h; subst h
      refine fin (q := q) (by simp [den, shiftA_pr hq]) (still_of (by simp) (by simp)) ?_
      unfold shiftA at hq
      split at hq
      · simp at hq
      · rename_i hn
        simp only [Option.some.injEq] at hq; subst hq
        simp [binOp, Op.shift, hn]
    · simp at h
  · cases one_eq (den_prim hx).1; cases one_eq (den_prim hy).1
    split at h
    · rename_i q hq
      simp only [Option.some.injEq] at h; subst h
      refine fin (q := q) (by simp [den, shiftA_pr hq]) (still_of (by simp) (by simp)) ?_
      unfold shiftA at hq
      split at hq
      · simp at hq
      · rename_i hn
        simp only [Option.some.injEq] at hq; subst hq
        simp [binOp, Op.shift, hn]
    · simp at h
  · cases one_eq (den_prim hx).1; cases one_eq (den_prim hy).1
    split at h
    · rename_i hk
      subst hk
      split at h
      · rename_i q hq
        simp only [Option.some.injEq] at h; subst h
        exact fin (q := q) (by simp [den, intBin_pr hq]) (still_of (by simp) (by simp)) (intBin_run t hq w)
      · simp at h
    · simp at h
  · rename_i a b
    cases one_eq (den_str hx); cases one_eq (den_str hy)
    cases op <;> simp only [strBin, Option.some.injEq, reduceCtorEq] at h
    case add =>
      cases hb : Nat.ble (a.length + b.length) 1000000 with
      | false => simp [hb] at h
      | true =>
        simp only [hb, cond_true, Option.some.injEq] at h; subst h
        have hle := Nat.le_of_ble_eq_true hb
        refine fin rfl (still_of (by simp) (by simp)) ?_
        rw [binOp_string_add, run_string_add_sum w _ _ (by show a.toArray.size + b.toArray.size ≤ _; simp; omega)]
        congr 2
    case eql => subst h; exact fin rfl (still_of (by simp) (by simp)) (by rw [binOp_string_eql]; simp [eqBytes_iff])
    case neq => subst h; exact fin rfl (still_of (by simp) (by simp)) (by rw [binOp_string_neq]; simp [eqBytes_iff])
  · split at h
    · rename_i b hb
      simp only [Option.some.injEq] at h; subst h
      obtain ⟨h1, h2⟩ := eqA_sound hI hx hy hb
      exact fin rfl (h2 _) h1.1
    · simp at h
  · split at h
    · rename_i b hb
      simp only [Option.some.injEq] at h; subst h
      obtain ⟨h1, h2⟩ := eqA_sound hI hx hy hb
      exact fin rfl (h2 _) h1.2
    · simp at h
  · simp at h
end

end Ex
end Go.Proofs.YtlpjmjielpdhiaaGreatDoor
