/- THE WALK BY RECKONING, 9: maps, builtins, and all operations that only look. No condition. -/
import Derived.Test.YtlpjmjielpdhiaaGreatDoorF5
set_option linter.unusedSimpArgs false
set_option linter.unusedVariables false
namespace Go.Proofs.YtlpjmjielpdhiaaGreatDoor
namespace Ex
open Go

section
variable {P : Program} {E : Env} {r : Nat → Option Nm} {s : Tr Blk} {w : World}

theorem keyEq_sound {d : TypeDesc} {x y : AV} {u v : Value} {b : Bool} (hx : den r x = some [u]) (hy : den r y = some [v]) (h : keyEq d x y = some b) : Instr.sameNow d u v = some b := by
  unfold keyEq at h
  split at h
  · cases one_eq (den_prim hx).1; cases one_eq (den_prim hy).1
    split at h
    · rename_i hk; simp only [Option.some.injEq] at h; subst h; simp [Instr.sameNow, hk]
    · simp at h
  · cases one_eq (den_str hx); cases one_eq (den_str hy)
    simp only [Option.some.injEq] at h; subst h
    simp [Instr.sameNow, beq_toListBytes, eqBytes_iff]
  · simp at h
def FR (r : Nat → Option Nm) : Option (Nat × AV) → Option (Nat × Value) → Prop
  | none, none => True
  | some (i, x), some (j, v) => i = j ∧ den r x = some [v]
  | none, some _ => False
  | some _, none => False
theorem findA_sound {d : TypeDesc} {k : AV} {kv : Value} (hk : den r k = some [kv]) : ∀ (es : List (AV × AV × Nat)) (ms : List MapEntry) (i : Nat) (q : Option (Nat × AV)), esOk r es ms → findA d k es i = some q →
    ∃ z, Instr.findNow d kv ms i = some z ∧ FR r q z
  | [], [], i, q, _, h => by simp only [findA, Option.some.injEq] at h; subst h; exact ⟨none, rfl, trivial⟩
  | [], _ :: _, _, _, ho, _ => ho.elim
  | _ :: _, [], _, _, ho, _ => ho.elim
  | e :: es, m :: ms, i, q, ⟨h1, h2, h3, h4⟩, h => by
    simp only [findA] at h
    split at h
    · rename_i he
      simp only [Option.some.injEq] at h; subst h
      exact ⟨some (i, m.val), by simp [Instr.findNow, keyEq_sound hk h1 he], rfl, h2⟩
    · rename_i he
      obtain ⟨z, h5, h6⟩ := findA_sound hk es ms (i + 1) q h4 h
      exact ⟨z, by simp [Instr.findNow, keyEq_sound hk h1 he, h5], h6⟩
    · simp at h
theorem run_checkKey' {d : TypeDesc} {t : TypeId} {k : AV} {kv : Value} (hk : den r k = some [kv]) (hu : P.underlying t = some d) (h : plainKey d k = true) (empty : Bool) (n : Nat) (w : World) :
    (Instr.checkKey empty (n + 1) t kv).run P w = .ok () w := by
  unfold plainKey at h
  split at h
  · cases one_eq (den_prim hk).1; simp [Instr.checkKey, run_underlying hu]
  · cases one_eq (den_str hk); simp [Instr.checkKey, run_underlying hu]
  · simp at h
theorem run_checkKey {d : TypeDesc} {t : TypeId} {k : AV} {kv : Value} (hk : den r k = some [kv]) (hu : P.underlying t = some d) (h : plainKey d k = true) (empty : Bool) (w : World) :
    (Instr.checkKey empty 10000 t kv).run P w = .ok () w := run_checkKey' hk hu h empty 9999 w
theorem run_findKey {d : TypeDesc} {t : TypeId} {kv : Value} {ms : List MapEntry} {z : Option (Nat × Value)} (hu : P.underlying t = some d) (h : Instr.findNow d kv ms 0 = some z) (w : World) :
    (Instr.findKey t kv ms).run P w = .ok z w := by
  simp [Instr.findKey, run_underlying hu, h]
theorem run_getMap {b : Nat} {m : Array MapEntry} {c : Nat} (h : w.heap[b]? = some (.map m c)) : (getObj b).run P w = .ok (.map m c) w := by
  simp [getObj, Sem.run, h]

theorem xLookup_sound (hI : Inv E r s w) {t : TypeId} {x ix y : AV} {ok : Bool} {u i : Value} (hx : den r x = some [u]) (hi : den r ix = some [i]) (h : xLookup P s t x ix ok = some y) :
    ∃ q, den r y = some [q] ∧ (Instr.lookup t u i ok).run P w = .ok q w := by
  unfold xLookup at h
  split at h
  · rename_i k e hu
    split at h
    · rename_i d z hk hz
      cases hp : plainKey d ix with
      | false => simp [hp] at h
      | true =>
        simp only [hp, cond_true] at h
        obtain ⟨zv, hz1, hz2, _⟩ := run_zero (r := r) hz w
        -- the entries
        have key : ∀ es, (match x with
            | .prim (.map none) => some []
            | .mp n => match s.get n with
              | some (.map es _) => some es
              | _ => none
            | _ => none) = some es → ∃ ms : Array MapEntry, esOk r es ms.toList ∧ ((u = .map none ∧ ms = #[]) ∨ ∃ b c, u = .map (some b) ∧ w.heap[b]? = some (.map ms c)) := by
          intro es he
          split at he
          · cases one_eq (den_prim hx).1
            simp only [Option.some.injEq] at he; subst he
            exact ⟨#[], trivial, .inl ⟨rfl, rfl⟩⟩
          · rename_i n
            obtain ⟨a, ha, e1⟩ := den_mp hx
            cases one_eq e1
            split at he
            · rename_i es' clk hg
              simp only [Option.some.injEq] at he; subst he
              obtain ⟨a', ha', ⟨m, h1, h2⟩, _⟩ := hI.blk n _ hg
              rw [ha] at ha'; cases ha'
              exact ⟨m, h2, .inr ⟨_, _, rfl, h1⟩⟩
            · simp at he
          · simp at he
        split at h
        · rename_i es he
          obtain ⟨ms, ho, hK⟩ := key es he
          split at h
          · rename_i j v hf
            obtain ⟨zz, h1, h2⟩ := findA_sound hi es ms.toList 0 _ ho hf
            cases zz with
            | none => exact h2.elim
            | some jv =>
              obtain ⟨j', vv⟩ := jv
              obtain ⟨_, h3⟩ := h2
              simp only [Option.some.injEq] at h; subst h
              cases ok with
              | true =>
                refine ⟨.tuple #[vv, .bool true], by simp [den, h3, pr], ?_⟩
                rcases hK with ⟨rfl, rfl⟩ | ⟨b, c, rfl, hb⟩
                · simp [Instr.lookup, run_underlying hu, run_checkKey hi hk hp, run_findKey hk h1]
                · simp [Instr.lookup, run_underlying hu, run_getMap hb, run_checkKey hi hk hp, run_findKey hk h1]
              | false =>
                refine ⟨vv, by simpa using h3, ?_⟩
                rcases hK with ⟨rfl, rfl⟩ | ⟨b, c, rfl, hb⟩
                · simp [Instr.lookup, run_underlying hu, run_checkKey hi hk hp, run_findKey hk h1]
                · simp [Instr.lookup, run_underlying hu, run_getMap hb, run_checkKey hi hk hp, run_findKey hk h1]
          · rename_i hf
            obtain ⟨zz, h1, h2⟩ := findA_sound hi es ms.toList 0 _ ho hf
            cases zz with
            | some _ => exact h2.elim
            | none =>
              simp only [Option.some.injEq] at h; subst h
              cases ok with
              | true =>
                refine ⟨.tuple #[zv, .bool false], by simp [den, hz2, pr], ?_⟩
                rcases hK with ⟨rfl, rfl⟩ | ⟨b, c, rfl, hb⟩
                · simp [Instr.lookup, run_underlying hu, run_checkKey hi hk hp, run_findKey hk h1, hz1]
                · simp [Instr.lookup, run_underlying hu, run_getMap hb, run_checkKey hi hk hp, run_findKey hk h1, hz1]
              | false =>
                refine ⟨zv, by simpa using hz2, ?_⟩
                rcases hK with ⟨rfl, rfl⟩ | ⟨b, c, rfl, hb⟩
                · simp [Instr.lookup, run_underlying hu, run_checkKey hi hk hp, run_findKey hk h1, hz1]
                · simp [Instr.lookup, run_underlying hu, run_getMap hb, run_checkKey hi hk hp, run_findKey hk h1, hz1]
          · simp at h
        · simp at h
    · simp at h
  · simp at h

theorem esOk_length : ∀ (es : List (AV × AV × Nat)) (ms : List MapEntry), esOk r es ms → es.length = ms.length
  | [], [], _ => rfl
  | [], _ :: _, e => e.elim
  | _ :: _, [], e => e.elim
  | _ :: es, _ :: ms, ⟨_, _, _, h4⟩ => by simp [esOk_length es ms h4]

theorem xLen_sound (hI : Inv E r s w) {t : TypeId} {x y : AV} {u : Value} (hx : den r x = some [u]) (h : xLen P s t x = some y) (ts : Array TypeId) (ht : ts[0]? = some t) (ty : TypeId) :
    ∃ q, den r y = some [q] ∧ (Builtin.len_ ts ty #[u]).run P w = .ok q w := by
  unfold xLen at h
  split at h
  · rename_i l hu
    cases one_eq (den_str hx)
    simp only [Option.some.injEq] at h; subst h
    have hs : (⟨l.toArray⟩ : ByteArray).size = l.length := by show l.toArray.size = _; simp
    exact ⟨_, rfl, by simp [Builtin.len_, ht, run_underlying hu, goInt, hs]⟩
  · rename_i n e hu
    simp only [Option.some.injEq] at h; subst h
    refine ⟨_, rfl, ?_⟩
    cases u <;> simp [Builtin.len_, ht, run_underlying hu, goInt]
  · rename_i e n o k c hu
    obtain ⟨a, ha, e1⟩ := den_sl hx
    cases one_eq e1
    simp only [Option.some.injEq] at h; subst h
    exact ⟨_, rfl, by simp [Builtin.len_, ht, run_underlying hu, goInt]⟩
  · rename_i e o k c hu
    cases one_eq (den_prim hx).1
    simp only [Option.some.injEq] at h; subst h
    exact ⟨_, rfl, by simp [Builtin.len_, ht, run_underlying hu, goInt]⟩
  · rename_i hu
    cases one_eq (den_prim hx).1
    simp only [Option.some.injEq] at h; subst h
    exact ⟨_, rfl, by simp [Builtin.len_, ht, run_underlying hu, goInt]⟩
  · rename_i n hu
    obtain ⟨a, ha, e1⟩ := den_mp hx
    cases one_eq e1
    split at h
    · rename_i es clk hg
      simp only [Option.some.injEq] at h; subst h
      obtain ⟨a', ha', ⟨m, h1, h2⟩, _⟩ := hI.blk n _ hg
      rw [ha] at ha'; cases ha'
      have := esOk_length es m.toList h2
      exact ⟨_, rfl, by simp [Builtin.len_, ht, run_underlying hu, goInt, run_getMap h1, this]⟩
    · simp at h
  · simp at h

theorem xMinMax_sound (mx : Bool) : ∀ (l : List AV) (x y : AV) (u : Value) (vs : List Value), den r x = some [u] → (∀ (i : Nat) (a : AV), l[i]? = some a → ∃ v, vs[i]? = some v ∧ den r a = some [v]) → l.length = vs.length → xMinMax mx x l = some y →
    ∃ q, den r y = some [q] ∧ (vs.foldlM (if mx then Builtin.max2 else Builtin.min2) u).run P w = .ok q w := by
  intro l
  induction l with
  | nil =>
    intro x y u vs hx _ hl h
    cases vs with
    | cons _ _ => simp at hl
    | nil => simp only [xMinMax, Option.some.injEq] at h; subst h; exact ⟨u, hx, by simp⟩
  | cons a l ih =>
    intro x y u vs hx hv hl h
    cases vs with
    | nil => simp at hl
    | cons v vs =>
      obtain ⟨v', hv', ha⟩ := hv 0 a rfl
      simp only [List.getElem?_cons_zero, Option.some.injEq] at hv'; subst hv'
      unfold xMinMax at h
      split at h
      · rename_i e; simp at e
      · rename_i e k b k' c l' hcons
        simp only [List.cons.injEq] at hcons
        obtain ⟨rfl, rfl⟩ := hcons
        cases one_eq (den_prim hx).1; cases one_eq (den_prim ha).1
        obtain ⟨q, h1, h2⟩ := ih _ y (.int k (if (if mx then c > b else c < b) then c else b)) vs rfl (fun i a hi => by simpa using hv (i + 1) a (by simpa using hi)) (by simpa using hl) h
        refine ⟨q, h1, ?_⟩
        rw [List.foldlM_cons]
        cases mx <;> simp_all [Builtin.max2, Builtin.min2]
      · simp at h
theorem listA_den : ∀ (x : AV) (l : List Value), den r x = some l → (∀ n, x.isLen n = true → (listA x).length = l.length) ∧ ∀ (i : Nat) (a : AV), (listA x)[i]? = some a → ∃ v, l[i]? = some v ∧ den r a = some [v] := by
  intro x
  induction x with
  | cons h t _ iht =>
    intro l hd
    obtain ⟨v, k, h1, h2, rfl⟩ := den_cons hd
    obtain ⟨h3, h4⟩ := iht k h2
    refine ⟨fun n hn => ?_, fun i a hi => ?_⟩
    · cases n with
      | zero => simp [AV.isLen] at hn
      | succ n => simp only [AV.isLen] at hn; simp [listA, h3 n hn]
    · cases i with
      | zero => simp only [listA, List.getElem?_cons_zero, Option.some.injEq] at hi; subst hi; exact ⟨v, rfl, h1⟩
      | succ i => simp only [listA, List.getElem?_cons_succ] at hi; simpa using h4 i a hi
  | nil => intro l hd; rw [den_nil hd]; exact ⟨fun _ _ => rfl, fun i a hi => by simp [listA] at hi⟩
  | _ => intro l hd; exact ⟨fun n hn => by simp [AV.isLen] at hn, fun i a hi => by simp [listA] at hi⟩
end

end Ex
end Go.Proofs.YtlpjmjielpdhiaaGreatDoor
