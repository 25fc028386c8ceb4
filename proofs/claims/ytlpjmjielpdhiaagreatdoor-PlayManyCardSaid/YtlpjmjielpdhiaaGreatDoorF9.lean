/- THE WALK BY RECKONING, 12: stores, maps, iterators. No condition. -/
import Derived.Test.YtlpjmjielpdhiaaGreatDoorF8
set_option linter.unusedSimpArgs false
set_option linter.unusedVariables false
namespace Go.Proofs.YtlpjmjielpdhiaaGreatDoor
namespace Ex
open Go

section
variable {P : Program} {E : Env} {r r' : Nat → Option Nm} {s s' : Tr Blk} {w w' : World}

theorem setRow_size (g : Nat) (cs : Array Value) : (w.setRow g cs).heap.size = w.heap.size := by simp [World.setRow]
theorem setRow_ne {g i : Nat} (cs : Array Value) (h : i ≠ g) : (w.setRow g cs).heap[i]? = w.heap[i]? := by
  simp [World.setRow, Array.getElem?_modify, Ne.symm h]
theorem setRow_eq {g e : Nat} {c : Array Value} {fr : Nat × Nat} (cs : Array Value) (h : w.heap[g]? = some (.cells c e fr)) : (w.setRow g cs).heap[g]? = some (.cells cs e fr) := by
  simp [World.setRow, Array.getElem?_modify, h]

theorem wr_sound (hI : Inv E r s w) {n off : Nat} {vs : AV} {m : List Value} (hd : den r vs = some m) (h : wr s n off vs = some s') :
    ∃ a w', r n = some a ∧ (storeCells ⟨a.blk, a.off + off, none⟩ m).run P w = .ok () w' ∧ Inv E r s' w' := by
  unfold wr at h
  split at h
  · rename_i e z cs lo wh hg
    cases ho : vs.allOne with
    | false => simp [ho] at h
    | true =>
      simp only [ho, cond_true] at h
      split at h
      · rename_i cs' hov
        simp only [Option.some.injEq] at h; subst h
        obtain ⟨a, pre, l, post, ha, h1, h2, h3, h4, h5, h6, h7⟩ := rowOf hI hg
        obtain ⟨h8, h9⟩ := over_den cs off vs cs' l m h3 hd hov
        have hone := allOne_den vs m ho hd
        rcases h9 with rfl | h9
        · refine ⟨a, w, ha, rfl, ?_⟩
          simp only [List.append_nil, List.length_nil, Nat.add_zero, List.take_append_drop] at h8
          exact hI.touch hg ha rfl (fun _ _ => rfl) rfl rfl rfl ⟨pre, l, post, h1, h2, h8, h4, h5, h6⟩
        · have hrun := run_storeCells_here (P := P) w (o := off) (vs := m) h1 (by simp; omega) hone
          refine ⟨a, _, ha, by rw [← h2]; exact hrun, ?_⟩
          refine hI.touch hg ha (setRow_size _ _) (fun i hi => setRow_ne _ hi) rfl rfl rfl ?_
          refine ⟨pre, l.take off ++ m ++ l.drop (off + m.length), post, ?_, h2, h8, h4, ?_, h6⟩
          · rw [setRow_eq _ h1]
            congr 2
            have e1 : (pre ++ l ++ post).take (pre.length + off) = pre ++ l.take off := by
              rw [List.append_assoc, List.take_append, List.take_of_length_le (by omega), List.take_append_of_le_length (by omega)]
              simp
            have e2 : (pre ++ l ++ post).drop (pre.length + off + m.length) = l.drop (off + m.length) ++ post := by
              rw [List.append_assoc, List.drop_append, List.drop_eq_nil_of_le (by omega), List.drop_append_of_le_length (by omega)]
              simp [Nat.add_assoc]
            rw [e1, e2]
            simp
          · simp only [List.length_append, List.length_take, List.length_drop] at h5 ⊢
            omega
      · simp at h
  · simp at h

theorem xStore_sound (hI : Inv E r s w) {t : TypeId} {x a : AV} {u v : Value} (hx : den r x = some [u]) (ha : den r a = some [v]) (h : xStore P s t x a = some s') :
    ∃ w', Inv E r s' w' ∧ (Instr.storeAt t v u).run P w = .ok () w' := by
  cases a with
  | ptr n off =>
    obtain ⟨b, hb, e⟩ := den_ptr ha
    cases one_eq e
    simp only [xStore] at h
    split at h
    · rename_i z hz
      cases hl : x.cells.isLen z with
      | false => simp [hl] at h
      | true =>
        simp only [hl, cond_true] at h
        have hc := cells_den hx hl
        have hlen := isLen_den _ _ _ hc hl
        obtain ⟨b', w', hb', h1, h2⟩ := wr_sound (P := P) hI hc h
        rw [hb] at hb'; cases hb'
        refine ⟨w', h2, ?_⟩
        have : u.cells.size = z := by simpa using hlen
        simp [Instr.storeAt, Instr.sureAddr, storeVar, run_size hz, this, h1]
    · simp at h
  | _ => simp [xStore] at h

theorem esOk_append : ∀ (es : List (AV × AV × Nat)) (ms : List MapEntry) (e : AV × AV × Nat) (m : MapEntry), esOk r es ms → den r e.1 = some [m.key] → den r e.2.1 = some [m.val] → e.2.2 = m.born → esOk r (es ++ [e]) (ms ++ [m])
  | [], [], e, m, _, h1, h2, h3 => ⟨h1, h2, h3, trivial⟩
  | [], _ :: _, _, _, h, _, _, _ => h.elim
  | _ :: _, [], _, _, h, _, _, _ => h.elim
  | _ :: es, _ :: ms, e, m, ⟨a, b, c, d⟩, h1, h2, h3 => ⟨a, b, c, esOk_append es ms e m d h1 h2 h3⟩
theorem esOk_set {v k : AV} {vv kv : Value} (hv : den r v = some [vv]) (hk : den r k = some [kv]) : ∀ (es : List (AV × AV × Nat)) (ms : List MapEntry) (i : Nat), esOk r es ms →
    esOk r (setVal v es i k) (ms.modify i fun e => { e with key := kv, val := vv })
  | [], [], i, _ => by cases i <;> trivial
  | [], _ :: _, _, h => h.elim
  | _ :: _, [], _, h => h.elim
  | (a, b, c) :: es, m :: ms, 0, ⟨h1, h2, h3, h4⟩ => by
    simp only [setVal, List.modify_zero_cons]
    exact ⟨hk, hv, h3, h4⟩
  | e :: es, m :: ms, i + 1, ⟨h1, h2, h3, h4⟩ => by
    simp only [setVal, List.modify_succ_cons]
    exact ⟨h1, h2, h3, esOk_set hv hk es ms i h4⟩
/-- a key that is found by '==' over ints or strings has the same bits -/
theorem findNow_key {d : TypeDesc} {kv : Value} : ∀ (ms : List MapEntry) (i j : Nat) (v : Value), Instr.findNow d kv ms i = some (some (j, v)) → i ≤ j ∧ ∃ m, ms[j - i]? = some m ∧ Instr.sameNow d kv m.key = some true
  | [], i, j, v, h => by simp [Instr.findNow] at h
  | m :: ms, i, j, v, h => by
    simp only [Instr.findNow] at h
    split at h
    · rename_i he
      simp only [Option.some.injEq, Prod.mk.injEq] at h
      obtain ⟨rfl, _⟩ := h
      exact ⟨Nat.le_refl _, m, by simp, he⟩
    · obtain ⟨h1, m', h2, h3⟩ := findNow_key ms (i + 1) j v h
      refine ⟨by omega, m', ?_, h3⟩
      rw [show j - i = (j - (i + 1)) + 1 by omega]
      simpa using h2
    · simp at h
theorem sameNow_eq {d : TypeDesc} {u v : Value} (h : Instr.sameNow d u v = some true) (hp : (∃ k a, u = .int k a) ∨ ∃ a, u = .string a) : v = u := by
  rcases hp with ⟨k, a, rfl⟩ | ⟨a, rfl⟩
  · cases d <;> cases v <;> simp [Instr.sameNow] at h <;> (try (obtain ⟨rfl, rfl⟩ := h; rfl))
  · cases d <;> cases v <;> simp [Instr.sameNow] at h <;> (try (rw [beq_toListBytes, beq_iff_eq, ByteArray.toList_eq, ByteArray.toList_eq] at h; congr 1; exact (ByteArray.ext (Array.toList_inj.1 h)).symm))
theorem run_keyStays (n : Nat) (u : Value) (hp : (∃ k a, u = .int k a) ∨ ∃ a, u = .string a) (w : World) : (Instr.keyThatStays u u).run P w = .ok u w := by
  have : Instr.sameBits 10000 u u = true := by
    rcases hp with ⟨k, a, rfl⟩ | ⟨a, rfl⟩
    · simp [Instr.sameBits]
    · simp [Instr.sameBits, beq_toListBytes]
  simp [Instr.keyThatStays, this]
theorem plainKey_shape {d : TypeDesc} {k : AV} {u : Value} (hk : den r k = some [u]) (h : plainKey d k = true) : (∃ k a, u = .int k a) ∨ ∃ a, u = .string a := by
  unfold plainKey at h
  split at h
  · cases one_eq (den_prim hk).1; exact .inl ⟨_, _, rfl⟩
  · cases one_eq (den_str hk); exact .inr ⟨_, rfl⟩
  · simp at h
theorem run_setMap {b c c' : Nat} {m m' : Array MapEntry} (h : w.heap[b]? = some (.map m c)) : (setObj b (.map m' c')).run P w = .ok () { w with heap := w.heap.setIfInBounds b (.map m' c') } := by
  simp [setObj, Sem.run, h]

theorem xUpdate_sound (hI : Inv E r s w) {t : TypeId} {x k v : AV} {xv kv vv : Value} (hx : den r x = some [xv]) (hk : den r k = some [kv]) (hv : den r v = some [vv]) (h : xUpdate P s t x k v = some s') :
    ∃ w', Inv E r s' w' ∧ (Instr.mapUpdate t xv kv vv).run P w = .ok () w' := by
  unfold xUpdate at h
  split at h
  · rename_i kt et n hu
    obtain ⟨a, ha, e⟩ := den_mp hx
    cases one_eq e
    split at h
    · rename_i d es clk hd hg
      cases hp : plainKey d k with
      | false => simp [hp] at h
      | true =>
        simp only [hp, cond_true] at h
        obtain ⟨a', ha', ⟨m, h1, h2⟩, _⟩ := hI.blk n _ hg
        rw [ha] at ha'; cases ha'
        have hlt := (Array.getElem?_eq_some_iff.1 h1).1
        have hshape := plainKey_shape hk hp
        split at h
        · rename_i i y hf
          simp only [Option.some.injEq] at h; subst h
          obtain ⟨zz, h3, h4⟩ := findA_sound hk es m.toList 0 _ h2 hf
          cases zz with
          | none => exact h4.elim
          | some jv =>
            obtain ⟨j, jv⟩ := jv
            obtain ⟨rfl, h5⟩ := h4
            obtain ⟨_, m', h6, h7⟩ := findNow_key _ _ _ _ h3
            have hkey := sameNow_eq h7 hshape
            simp only [Nat.sub_zero, Array.getElem?_toList] at h6
            refine ⟨{ w with heap := w.heap.setIfInBounds a.blk (.map (m.modify i fun e => { e with key := kv, val := vv }) clk) }, ?_, ?_⟩
            · refine hI.touch hg ha (by simp) (fun q hq => by simp [Array.getElem?_setIfInBounds_ne (Ne.symm hq)]) rfl rfl rfl ?_
              refine ⟨m.modify i fun e => { e with key := kv, val := vv }, by simp [Array.getElem?_setIfInBounds_self, hlt], ?_⟩
              rw [Array.toList_modify]
              exact esOk_set hv hk es m.toList i h2
            · simp [Instr.mapUpdate, run_underlying hu, run_getMap h1, run_checkKey hk hd hp, run_findKey hd h3, h6, hkey, run_keyStays 0 kv hshape, run_setMap h1]
        · rename_i hf
          simp only [Option.some.injEq] at h; subst h
          obtain ⟨zz, h3, h4⟩ := findA_sound hk es m.toList 0 _ h2 hf
          cases zz with
          | some _ => exact h4.elim
          | none =>
            refine ⟨{ w with heap := w.heap.setIfInBounds a.blk (.map (m.push { key := kv, val := vv, born := clk }) (clk + 1)) }, ?_, ?_⟩
            · refine hI.touch hg ha (by simp) (fun q hq => by simp [Array.getElem?_setIfInBounds_ne (Ne.symm hq)]) rfl rfl rfl ?_
              refine ⟨m.push { key := kv, val := vv, born := clk }, by simp [Array.getElem?_setIfInBounds_self, hlt], ?_⟩
              rw [Array.toList_push]
              exact esOk_append es m.toList _ _ h2 hk hv rfl
            · simp [Instr.mapUpdate, run_underlying hu, run_getMap h1, run_checkKey hk hd hp, run_findKey hd h3, run_setMap h1]
        · simp at h
    · simp at h
  · simp at h

theorem xNext_sound (hI : Inv E r s w) {k : Nat} (hk : r k = none) {x : AV} {xv : Value} {isS : Bool} {q : OpR} (hx : den r x = some [xv]) (h : xNext s x isS = some q) (ty : TypeId) :
    ∃ v s', q = .val v s' false ∧ ∃ w' u, Inv E r s' w' ∧ den r v = some [u] ∧ (Instr.next xv isS ty).run P w = .ok u w' := by
  unfold xNext at h
  split at h
  · rename_i n
    obtain ⟨a, ha, e⟩ := den_ptr hx
    cases one_eq e
    split at h
    · rename_i l pos hg
      obtain ⟨a', ha', h1, _⟩ := hI.blk n _ hg
      rw [ha] at ha'; cases ha'
      obtain ⟨h1, h0⟩ := h1
      have hlt := (Array.getElem?_eq_some_iff.1 h1).1
      have hs : (⟨l.toArray⟩ : ByteArray).size = l.length := by show l.toArray.size = _; simp
      have hget : (getObj a.blk).run P w = .ok (.stringIter ⟨l.toArray⟩ pos) w := by simp [getObj, Sem.run, h1]
      have hset : ∀ p, (setObj a.blk (.stringIter ⟨l.toArray⟩ p)).run P w = .ok () { w with heap := w.heap.setIfInBounds a.blk (.stringIter ⟨l.toArray⟩ p) } := fun p => by simp [setObj, Sem.run, h1]
      cases hb : Nat.blt pos l.length with
      | true =>
        simp only [hb, cond_true, Option.some.injEq] at h; subst h
        have hlt2 := blt_iff hb
        refine ⟨_, _, rfl, { w with heap := w.heap.setIfInBounds a.blk (.stringIter ⟨l.toArray⟩ (pos + (Utf8.decode ⟨l.toArray⟩ pos).2)) }, .tuple #[.bool true, .int .i64 pos, .int .i32 (Utf8.decode ⟨l.toArray⟩ pos).1], ?_, by simp [den, pr], ?_⟩
        · refine hI.touch hg ha (by simp) (fun q hq => by simp [Array.getElem?_setIfInBounds_ne (Ne.symm hq)]) rfl rfl rfl ?_
          exact ⟨by simp [Array.getElem?_setIfInBounds_self, hlt], h0⟩
        · simp [Instr.next, h0, hget, hs, hlt2, hset, goInt]
      | false =>
        simp only [hb, cond_false, Option.some.injEq] at h; subst h
        have hge : ¬ pos < l.length := fun e => by
          have : Nat.blt pos l.length = true := Nat.ble_eq_true_of_le (Nat.succ_le_of_lt e)
          rw [this] at hb; cases hb
        refine ⟨_, _, rfl, w, .tuple #[.bool false], hI, by simp [den, pr], ?_⟩
        simp [Instr.next, h0, hget, hs, hge]
    · simp at h
  · simp at h
end

end Ex
end Go.Proofs.YtlpjmjielpdhiaaGreatDoor
