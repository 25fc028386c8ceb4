/- THE WALK OF 'play.Run' over n commands that ask for the rows of an empty session, and of the law. Under n at most 3000. -/
import Derived.Test.YtlpjmjielpdhiaaGreatDoorG4
import Derived.Deep.LoopGhost
import Derived.Deep.Cut
import Derived.OwnWalk
import Derived.WalkSmall
set_option linter.unusedSimpArgs false
set_option linter.unusedVariables false
namespace Go.Proofs.YtlpjmjielpdhiaaGreatDoor
namespace Ex
open Go Go.RowKit

theorem info30 : (Tryz.prog.info? 30).map (fun i => (i.zero, i.size, i.bytes)) = some (some (.agg #[.int .i64 0, .int .i64 0, .string ByteArray.empty, .string ByteArray.empty, .string ByteArray.empty, .slice none 0 0, .slice none 0 0, .slice none 0 0, .string ByteArray.empty]), 9, 152) := by kernel_rfl
theorem info43 : (Tryz.prog.info? 43).map (fun i => (i.zero, i.size, i.bytes)) = some (some (.agg ansL.toArray), 17, 192) := by kernel_rfl
theorem wpList_call {P : Program} {ops : Array Oper} {rest : List Oper} {op : Oper} {a : Act} {w : World} {Q : Exit → Act → World → Prop} (hgd : op.guard = none) (f : FuncId) (args : Array Operand) (ts : Array TypeId)
    (ho : op.op = .call { callee := .value (.func f), args := args, argTypes := ts }) (fn : Func) (hf : P.funcs[f]? = some fn) (hb : fn.body.isNone = false) (hn : (fn.name == "runtime.NumGoroutine") = false) (vs : Array Value) (hv : args.toList.map a.eval = vs.toList)
    (h : Calls P f vs w fun e w' => ∃ v, e = .returned v ∧ wpList P ops Q rest (a.put op.dst v) w') : wpList P ops Q (op :: rest) a w :=
  wpList_plain hgd fun K hK => by
    have hrun : (execOp a.eval op).run P w = .ok (.enter f vs) w := by
      simp only [execOp, ho, resolve, Act.eval, Deferred.ofValue, Sem.run_bind, Sem.run_pure, Result.andThen_ok, invoke, callFunc, run_program, hf, hb, hn, Bool.false_eq_true, if_false]
      have e : args.map a.eval = vs := by apply Array.toList_inj.1; simpa using hv
      have e2 : (#[] : Array Value) ++ Array.map a.eval args ++ #[] = vs := by rw [← e]; simp
      rw [← e2]
    unfold Oper.wp
    rw [hrun]
    refine h.mono ?_
    rintro e w' ⟨v, rfl, hw⟩
    exact hK _ _ hw
theorem wpList_value {P : Program} {ops : Array Oper} {rest : List Oper} {op : Oper} {a : Act} {w w' : World} {v : Value} {Q : Exit → Act → World → Prop} (hgd : op.guard = none) (hr : (execOp a.eval op).run P w = .ok (.value v) w') (h : wpList P ops Q rest (a.put op.dst v) w') : wpList P ops Q (op :: rest) a w :=
  wpList_plain hgd fun K hK => by
    unfold Oper.wp
    rw [hr]
    exact hK _ _ h
theorem ansL_one : ∀ u ∈ ansL, u.oneCell' = true := by simp [ansL, Value.oneCell']
theorem ownsRow_below {w w' : World} {base : Nat} {e : TypeId} {size : Nat} {v : Value} {n : Nat} {xs : List Value} (h : w.ownsRow base e size v n xs) (hb : Below w.heap.size w w') : w'.ownsRow base e size v n xs :=
  h.kept (row := none) ⟨hb.os, hb.tape, hb.output, hb.size, fun k hk _ => hb.block k hk⟩ (by cases v.ownBlock <;> simp)
theorem wpList_store_row {P : Program} {ops : Array Oper} {rest : List Oper} {op : Oper} {a : Act} {w : World} {Q : Exit → Act → World → Prop} (hgd : op.guard = none) (ty : TypeId) (x y : Operand) (ho : op.op = .store ty x y)
    (g : Nat) (t : TypeId) (old cells : Array Value) (hx : a.eval x = .pointer (some ⟨g, 0, none⟩)) (hy : a.eval y = .agg cells) (hg : w.heap[g]? = some (.cells old t (0, 0)))
    (hi : (P.info? ty).map (·.size) = some cells.size) (hs : old.size = cells.size) (h1 : cells.all (·.oneCell') = true)
    (h : wpList P ops Q rest (a.put op.dst undef) (w.setRow g cells)) : wpList P ops Q (op :: rest) a w :=
  wpList_plain hgd fun _ hK => by
    unfold Oper.wp execOp
    simp only [ho, hx, hy, Instr.storeAt, Instr.sureAddr, Sem.run_bind, Sem.run_pure, Result.andThen_ok, run_storeVar_row w g t ty old cells hg hi hs h1]
    exact hK _ _ h
theorem ask_calls' (w : World) : Calls Tryz.prog 8 #[.agg #[.int .i64 5, .int .i64 0, .string ⟨#[]⟩, .string ⟨#[]⟩, .string ⟨#[]⟩, .slice none 0 0, .slice none 0 0, .slice none 0 0, .string ⟨#[]⟩]] w (fun e w' => e = .returned (.iface 54 (.agg #[.int .i64 5, .int .i64 0, .string ⟨#[]⟩, .string ⟨#[]⟩, .string ⟨#[]⟩, .slice none 0 0, .slice none 0 0, .slice none 0 0, .string ⟨#[]⟩])) ∧ Below w.heap.size w w') := ask_calls w
theorem do_calls' {a : Addr} {w : World} (hS : Sess a w) : Calls Tryz.prog 10 #[.agg #[.int .i64 5, .int .i64 0, .string ⟨#[]⟩, .string ⟨#[]⟩, .string ⟨#[]⟩, .slice none 0 0, .slice none 0 0, .slice none 0 0, .string ⟨#[]⟩], .pointer (some a)] w (fun e w' => e = .returned (.agg #[.int .i64 0, .int .i64 0, .int .i64 0, .int .i64 0, .int .i64 0, .int .i64 0, .int .i64 0, .int .i64 0, .slice none 0 0, .slice none 0 0, .int .i64 0, .int .i64 0, .int .i64 0, .int .i64 0, .int .i64 0, .slice none 0 0, .string ⟨#[]⟩]) ∧ Below w.heap.size w w') := do_calls hS
theorem as51 (w : World) : (Instr.typeAssert (.iface 54 (.agg #[.int .i64 5, .int .i64 0, .string ⟨#[]⟩, .string ⟨#[]⟩, .string ⟨#[]⟩, .slice none 0 0, .slice none 0 0, .slice none 0 0, .string ⟨#[]⟩])) 48 51 true).run Tryz.prog w = .ok (.tuple #[.agg #[.int .i64 0, .int .i64 0, .string ⟨#[]⟩, .string ⟨#[]⟩, .string ⟨#[]⟩, .slice none 0 0, .slice none 0 0, .slice none 0 0, .string ⟨#[]⟩], .bool false]) w := by kernel_rfl
theorem as54 (w : World) : (Instr.typeAssert (.iface 54 (.agg #[.int .i64 5, .int .i64 0, .string ⟨#[]⟩, .string ⟨#[]⟩, .string ⟨#[]⟩, .slice none 0 0, .slice none 0 0, .slice none 0 0, .string ⟨#[]⟩])) 48 54 true).run Tryz.prog w = .ok (.tuple #[.agg #[.int .i64 5, .int .i64 0, .string ⟨#[]⟩, .string ⟨#[]⟩, .string ⟨#[]⟩, .slice none 0 0, .slice none 0 0, .slice none 0 0, .string ⟨#[]⟩], .bool true]) w := by kernel_rfl
set_option maxHeartbeats 1600000 in
set_option maxRecDepth 1000000 in
theorem run_calls (A : Option Addr) (n c : Nat) (w : World) (hn : n ≤ 1000) (b o : Nat) (hA : 0 < n → A = some ⟨b, o, none⟩) (hcell : ∀ i, i < n → ∀ k v, cmdL[k]? = some v → w.cell? ⟨b, o + i * 9 + k, none⟩ = some v) :
    Calls Tryz.prog 5 #[.int .i64 1, .slice A n c] w fun e w' => Below w.heap.size w w' ∧ ∃ B k, e = .returned (.tuple #[.slice B n k, .int .i64 0]) := by
  obtain ⟨i0, hi, hz0, hz1, hz2⟩ := info_parts info43
  go_enter Tryz.func5, Tryz.ntmps5
  go_wp2_with (go_at_call 7; refine (new_calls _).mono ?_; rintro e w1 ⟨a, rfl, hb1, hS⟩)
  obtain ⟨w2, hrun, hown, hgr⟩ := run_make_own (P := Tryz.prog) w1 w1.heap.size 31 43 i0 _ 17 Tryz.underlying31 hi hz0 hz1 .i64 .i64 n (by rw [hz2]; omega) (by unfold maxLen; omega) (Nat.le_refl _)
  rw [hrun]
  have hb2 : Below w1.heap.size w1 w2 := Below.grown (Below.refl _ _) hgr (Nat.le_refl _) (fun k e => by cases e)
  clear hrun hgr
  have HI : Hid (Tryz.prog.info? 43 = some i0 ∧ i0.zero = some (.agg ansL.toArray) ∧ i0.size = 17 ∧ i0.bytes = 192) := ⟨hi, hz0, hz1, hz2⟩
  clear hz0 hz1 hz2 hi
  go_wp2
  go_loopg [7, 29] n (fun k v7 v29 wr => ∃ i : Nat, k = n - i ∧ i ≤ n ∧ v29 = .int .i64 (i : Int) ∧ (∃ xs, wr.ownsRow w1.heap.size 43 17 v7 i xs) ∧ Below w1.heap.size w1 wr)
  case atStart => exact ⟨0, rfl, Nat.zero_le _, rfl, ⟨[], hown⟩, hb2⟩
  case round =>
    obtain ⟨i, hk, hi, rfl, ⟨xs, hown'⟩, hb⟩ := hrel
    by_cases hlt : i < n
    · obtain rfl := hA (by omega)
      have hbb : b < w.heap.size := World.block_lt_of_cell? _ _ (hcell i hlt 0 _ rfl)
      have hbw : ∀ k v, cmdL[k]? = some v → wr.cell? ⟨b, o + i * 9 + k, none⟩ = some v := fun k v hv => by
        rw [hb.cell (show b < w1.heap.size by have := hb1.size; omega), hb1.cell hbb]; exact hcell i hlt k v hv
      have hx0 : wr.cell? ⟨b, o + i * 9, none⟩ = some (.int .i64 5) := hbw 0 _ rfl
      have hx1 : wr.cell? ⟨b, o + i * 9 + 1, none⟩ = some (.int .i64 0) := hbw 1 _ rfl
      have hx2 : wr.cell? ⟨b, o + i * 9 + 2, none⟩ = some (.string ⟨#[]⟩) := hbw 2 _ rfl
      have hx3 : wr.cell? ⟨b, o + i * 9 + 3, none⟩ = some (.string ⟨#[]⟩) := hbw 3 _ rfl
      have hx4 : wr.cell? ⟨b, o + i * 9 + 4, none⟩ = some (.string ⟨#[]⟩) := hbw 4 _ rfl
      have hx5 : wr.cell? ⟨b, o + i * 9 + 5, none⟩ = some (.slice none 0 0) := hbw 5 _ rfl
      have hx6 : wr.cell? ⟨b, o + i * 9 + 6, none⟩ = some (.slice none 0 0) := hbw 6 _ rfl
      have hx7 : wr.cell? ⟨b, o + i * 9 + 7, none⟩ = some (.slice none 0 0) := hbw 7 _ rfl
      have hx8 : wr.cell? ⟨b, o + i * 9 + 8, none⟩ = some (.string ⟨#[]⟩) := hbw 8 _ rfl
      have hlt' : (i : Int) < (n : Int) := by omega
      go_upto_region 11 with fail
      generalize hW1 : World.alloc (World.alloc wr _) _ = W1
      have h10 : W1.heap[wr.heap.size + 1]? = some (.cells #[.int .i64 6, .int .i64 0, .int .i64 0, .int .i64 0, .int .i64 0, .int .i64 0, .int .i64 0, .int .i64 0, .slice none 0 0, .slice none 0 0, .int .i64 0, .int .i64 0, .int .i64 0, .int .i64 0, .int .i64 0, .slice none 0 0, .string ⟨#[]⟩] 43 (0, 0)) := by
        rw [← hW1]; exact heap_alloc2_new wr _ _
      have h9 : W1.heap[wr.heap.size]? = some (.cells #[.int .i64 5, .int .i64 0, .string ⟨#[]⟩, .string ⟨#[]⟩, .string ⟨#[]⟩, .slice none 0 0, .slice none 0 0, .slice none 0 0, .string ⟨#[]⟩] 30 (0, 0)) := by
        rw [← hW1]; exact heap_alloc2_old wr _ _
      have hbW : Below wr.heap.size wr W1 := by rw [← hW1]; exact ((Below.refl _ _).alloc (Nat.le_refl _) _).alloc (by simp) _
      clear hW1 hx0 hx1 hx2 hx3 hx4 hx5 hx6 hx7 hx8
      generalize hg : wr.heap.size = g at *
      have hc0 : W1.cell? ⟨g, 0, none⟩ = some (.int .i64 5) := by rw [cell_of_row _ _ _ _ _ _ h9]; rfl
      have hc1 : W1.cell? ⟨g, 1, none⟩ = some (.int .i64 0) := by rw [cell_of_row _ _ _ _ _ _ h9]; rfl
      have hc2 : W1.cell? ⟨g, 2, none⟩ = some (.string ⟨#[]⟩) := by rw [cell_of_row _ _ _ _ _ _ h9]; rfl
      have hc3 : W1.cell? ⟨g, 3, none⟩ = some (.string ⟨#[]⟩) := by rw [cell_of_row _ _ _ _ _ _ h9]; rfl
      have hc4 : W1.cell? ⟨g, 4, none⟩ = some (.string ⟨#[]⟩) := by rw [cell_of_row _ _ _ _ _ _ h9]; rfl
      have hc5 : W1.cell? ⟨g, 5, none⟩ = some (.slice none 0 0) := by rw [cell_of_row _ _ _ _ _ _ h9]; rfl
      have hc6 : W1.cell? ⟨g, 6, none⟩ = some (.slice none 0 0) := by rw [cell_of_row _ _ _ _ _ _ h9]; rfl
      have hc7 : W1.cell? ⟨g, 7, none⟩ = some (.slice none 0 0) := by rw [cell_of_row _ _ _ _ _ _ h9]; rfl
      have hc8 : W1.cell? ⟨g, 8, none⟩ = some (.string ⟨#[]⟩) := by rw [cell_of_row _ _ _ _ _ _ h9]; rfl
      have ha1 := as51
      have ha2 := as54
      go_upto_region 17 with (go_at_call 8; refine (ask_calls' _).mono ?_; rintro e w3 ⟨rfl, hb3⟩)
      clear ha1 ha2 hc0 hc1 hc2 hc3 hc4 hc5 hc6 hc7 hc8
      have h10' := (hb3.block (g + 1) (Array.getElem?_eq_some_iff.1 h10).1).trans h10
      have hS3 : Sess a w3 := ((hS.below hb).below (by rw [hg]; exact hbW)).below hb3
      have hi43 : (Tryz.prog.info? 43).map (·.size) = some 17 := by kernel_rfl
      have hi54 : (Tryz.prog.info? 54).map (·.size) = some 9 := by kernel_rfl
      have hb10 := (Array.getElem?_eq_some_iff.1 h10').1
      go_upto_region 18 with fail
      refine wp_region_list ?_
      refine wpList_load_row rfl 54 (.tmp 14) rfl w3.heap.size rfl 54 _ (0, 0) _ (heap_alloc_new w3 _) Tryz.underlying54 rfl hi54 ?_
      refine wpList_plain rfl fun K hK => ?_
      refine hK _ _ ?_
      refine wpList_call rfl 10 _ _ rfl _ Tryz.func10 (by kernel_rfl) (by kernel_rfl) #[.agg #[.int .i64 5, .int .i64 0, .string ⟨#[]⟩, .string ⟨#[]⟩, .string ⟨#[]⟩, .slice none 0 0, .slice none 0 0, .slice none 0 0, .string ⟨#[]⟩], .pointer (some a)] rfl ((do_calls' (hS3.below ((Below.refl _ _).alloc (Nat.le_refl _) _))).mono ?_)
      rintro e w4 ⟨rfl, hb4⟩
      have h10x := (hb4.block (g + 1) (by simp; omega)).trans ((Below.heap_alloc w3 _ (g + 1) hb10).trans h10')
      refine ⟨_, rfl, ?_⟩
      refine wpList_store_row rfl 43 (.tmp 10) (.tmp 53) rfl (g + 1) 43 _ _ rfl rfl h10x hi43 rfl (by simp [Value.oneCell']) ?_
      have h5 := setRow_eq #[.int .i64 0, .int .i64 0, .int .i64 0, .int .i64 0, .int .i64 0, .int .i64 0, .int .i64 0, .int .i64 0, .slice none 0 0, .slice none 0 0, .int .i64 0, .int .i64 0, .int .i64 0, .int .i64 0, .int .i64 0, .slice none 0 0, .string ⟨#[]⟩] h10x
      have hbg : Below g wr (w4.setRow (g + 1) #[.int .i64 0, .int .i64 0, .int .i64 0, .int .i64 0, .int .i64 0, .int .i64 0, .int .i64 0, .int .i64 0, .slice none 0 0, .slice none 0 0, .int .i64 0, .int .i64 0, .int .i64 0, .int .i64 0, .int .i64 0, .slice none 0 0, .string ⟨#[]⟩]) := by
        refine ⟨?_, ?_, ?_, ?_, fun k hk => ?_⟩
        · exact hb4.os.trans (hb3.os.trans hbW.os)
        · exact hb4.tape.trans (hb3.tape.trans hbW.tape)
        · exact hb4.output.trans (hb3.output.trans hbW.output)
        · rw [setRow_size]; have := hb4.size; have := hb3.size; have := hbW.size; simp at *; omega
        · have hg3 : g + 1 < w3.heap.size := hb10
          have hg1 : g + 1 < W1.heap.size := (Array.getElem?_eq_some_iff.1 h10).1
          rw [setRow_ne _ (by omega), hb4.block k (by simp; omega), Below.heap_alloc w3 _ k (by omega), hb3.block k (by omega), hbW.block k hk]
      generalize w4.setRow (g + 1) #[.int .i64 0, .int .i64 0, .int .i64 0, .int .i64 0, .int .i64 0, .int .i64 0, .int .i64 0, .int .i64 0, .slice none 0 0, .slice none 0 0, .int .i64 0, .int .i64 0, .int .i64 0, .int .i64 0, .int .i64 0, .slice none 0 0, .string ⟨#[]⟩] = W5 at *
      clear h10x hb4 hS3 h10' hb3 h10 h9 hbW
      show Exit.inBlock 3 _ .normal _ _
      go_upto_region 19 with fail
      refine wp_region_list ?_
      refine wpList_plain rfl fun K hK => ?_
      refine hK _ _ ?_
      refine wpList_load_row rfl 43 (.tmp 10) rfl (g + 1) rfl 43 _ (0, 0) _ h5 Tryz.underlying43 rfl hi43 ?_
      refine wpList_value rfl (by kernel_rfl : (execOp _ _).run Tryz.prog W5 = .ok (.value (.slice (some ⟨W5.heap.size, 0, none⟩) 1 1)) (W5.alloc (.cells ansL.toArray 43))) ?_
      have hown6 := ownsRow_below hown' (show Below wr.heap.size wr (W5.alloc (.cells ansL.toArray 43)) by rw [hg]; exact hbg.alloc (by have := hbg.size; omega) _)
      have hnew := heap_alloc_new W5 (.cells ansL.toArray 43)
      obtain ⟨hi, hz0, hz1, hz2⟩ := HI.out
      have hnews : ∀ j u, ansL[j]? = some u → (W5.alloc (.cells ansL.toArray 43)).cell? ((⟨W5.heap.size, 0, none⟩ : Addr).add j) = some u := by
        intro j u hu
        rw [add_none, Nat.zero_add, cell_of_row _ _ _ _ _ _ hnew]
        simpa using hu
      have hbs : w1.heap.size ≤ (W5.alloc (.cells ansL.toArray 43)).heap.size := by have := hbg.size; have := hb.size; simp; omega
      refine wpList_append_own (W5.alloc (.cells ansL.toArray 43)) rfl (.tmp 54) (.tmp 56) 31 rfl w1.heap.size 43 i0 _ 17 192 Tryz.underlying31 hi hz0 hz1 hz2 rfl (by omega) u7 i xs ?e54 hown6 ⟨W5.heap.size, 0, none⟩ 1 1 ansL ?e56 rfl hnews ansL_one (by unfold maxLen; omega) (by omega) hbs ?_
      case e54 => rfl
      case e56 => rfl
      intro v' w6 hown7 hgr7 _
      clear hi hz0 hz1 hz2
      have hbn : Below w1.heap.size w1 w6 := by
        refine Below.grown ((hb.trans (Below.mono hbg (by have := hb.size; omega))).alloc (by have := hbg.size; have := hb.size; omega) _) hgr7 hbs (fun k hk => ?_)
        exact (World.ownsRow.lt hown6 k hk).1
      clear hbg hbs hnews hnew hown6 h5 hgr7 hown' hb hbw hb10
      refine wpList_plain rfl fun K hK => ?_
      refine hK _ _ ?_
      clear hK
      show Exit.inBlock 2 _ .normal _ _
      go_upto_region 20 with fail
      go_wp2
      go_roundg (n - (i + 1))
      case measure => omega
      case rel => exact ⟨i + 1, rfl, by omega, by simp, ⟨_, hown7⟩, hbn⟩
    · obtain rfl : i = n := by omega
      go_wp2
      refine ⟨rfl, .tuple #[u7, .int .i64 0], by kernel_rfl, ?_⟩
      refine ⟨hb1.trans (Below.mono hb hb1.size), ?_⟩
      obtain ⟨_, h | ⟨g, cap, cur, rfl, _⟩⟩ := hown'
      · obtain ⟨rfl, h0⟩ := h
        rw [h0]
        exact ⟨_, _, rfl⟩
      · exact ⟨_, _, rfl⟩
end Ex
end Go.Proofs.YtlpjmjielpdhiaaGreatDoor
