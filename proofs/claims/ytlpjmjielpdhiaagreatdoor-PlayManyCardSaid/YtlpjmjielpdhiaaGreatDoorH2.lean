/- THE WALK OF THE LAW 'PlayMany'. No condition. -/
import Derived.Test.YtlpjmjielpdhiaaGreatDoorH1
import Derived.Test.YtlpjmjielpdhiaaGreatDoorG3
set_option linter.unusedSimpArgs false
set_option linter.unusedVariables false
namespace Go.Proofs.YtlpjmjielpdhiaaGreatDoor
namespace Ex
open Go Go.RowKit

theorem same_calls (w : World) : Calls Tryz.prog 4 #[] w (fun e w' => e = .returned (.bool true) ∧ Below w.heap.size w w') := by
  have hc := same_chk
  cases hx : exCall Tryz.prog [189] 100 11 30 4 .nil ⟨Tr.mk 11, 0⟩ with
  | none => rw [hx] at hc; cases hc
  | some q =>
    obtain ⟨v, s'⟩ := q
    rw [hx] at hc
    have e1 := AV.same_eq _ _ hc
    subst e1
    refine (calls_lies (hn := []) ids_ok mixed hx (all_mk 11) (fun n b hb => absurd hb (by rw [Tr.get_mk]; simp)) rfl (Lies.nil w 11) (l := []) rfl).mono ?_
    rintro e w' ⟨r', u, _, h4, rfl, h5, _, h6⟩
    have : den r' (.prim (.bool true)) = some [.bool true] := rfl
    rw [this] at h4
    cases one_eq (Option.some.inj h4)
    exact ⟨rfl, h5⟩

set_option maxHeartbeats 1600000 in
set_option maxRecDepth 1000000 in
theorem run_many (A : Option Addr) (n c : Nat) (w : World) (hn : 1000 < n) :
    Calls Tryz.prog 5 #[.int .i64 1, .slice A n c] w fun e w' => Below w.heap.size w w' ∧ e = .returned (.tuple #[.slice none 0 0, .int .i64 12]) := by
  have hgt : (1000 : Int) < (n : Int) := by omega
  go_enter Tryz.func5, Tryz.ntmps5
  go_wp2_with (go_at_call 7; refine (new_calls _).mono ?_; rintro e w1 ⟨a, rfl, hb1, hS⟩)
  exact ⟨rfl, _, by kernel_rfl, hb1, rfl⟩

theorem flat_get (l : List Value) : ∀ (n i k : Nat), i < n → k < l.length → (List.replicate n l).flatten[i * l.length + k]? = l[k]?
  | 0, i, k, hi, _ => by omega
  | n + 1, 0, k, _, hk => by
    rw [List.replicate_succ, List.flatten_cons, Nat.zero_mul, Nat.zero_add, List.getElem?_append_left hk]
  | n + 1, i + 1, k, hi, hk => by
    rw [List.replicate_succ, List.flatten_cons, List.getElem?_append_right (by rw [Nat.succ_mul]; omega)]
    rw [show (i + 1) * l.length + k - l.length = i * l.length + k by rw [Nat.succ_mul]; omega]
    exact flat_get l n i k (by omega) hk
theorem cmdL_one : ∀ u ∈ cmdL, u.oneCell' = true := by simp [cmdL, Value.oneCell']

set_option maxHeartbeats 3200000 in
set_option maxRecDepth 1000000 in
theorem many_walk (n : Int) (w : World) : Calls Tryz.prog 3 #[.int .i64 n] w fun e w' => e = .returned (.bool true) ∧ Below w.heap.size w w' := by
  obtain ⟨i0, hi, hz0, hz1, hz2⟩ := info_parts info30
  have HI : Hid (Tryz.prog.info? 30 = some i0 ∧ i0.zero = some (.agg #[.int .i64 0, .int .i64 0, .string ByteArray.empty, .string ByteArray.empty, .string ByteArray.empty, .slice none 0 0, .slice none 0 0, .slice none 0 0, .string ByteArray.empty]) ∧ i0.size = 9 ∧ i0.bytes = 152) := ⟨hi, hz0, hz1, hz2⟩
  clear hz0 hz1 hz2 hi
  by_cases h1 : n < 0
  · go_enter Tryz.func3, Tryz.ntmps3
    go_wp2_with (go_at_call 4; refine (same_calls _).mono ?_; rintro e w1 ⟨rfl, hb1⟩)
    go_ret
    exact ⟨rfl, hb1⟩
  by_cases h2 : 3000 < n
  · have h1' : ¬ n < 0 := by omega
    go_enter Tryz.func3, Tryz.ntmps3
    go_wp2_with (go_at_call 4; refine (same_calls _).mono ?_; rintro e w1 ⟨rfl, hb1⟩)
    go_ret
    exact ⟨rfl, hb1⟩
  obtain ⟨N, rfl⟩ : ∃ N : Nat, n = (N : Int) := ⟨n.toNat, by omega⟩
  have hN : N ≤ 3000 := by omega
  have hn0 : decide ((N : Int) < 0) = false := decide_eq_false (by omega)
  have hn3 : decide ((3000 : Int) < (N : Int)) = false := decide_eq_false (by omega)
  clear h1 h2
  go_enter Tryz.func3, Tryz.ntmps3
  go_wp2_with fail
  go_loopg [3, 14] N (fun k v3 v14 wr => ∃ i : Nat, k = N - i ∧ i ≤ N ∧ v14 = .int .i64 (i : Int) ∧ wr.ownsRow w.heap.size 30 9 v3 i (List.replicate i cmdL).flatten ∧ Below w.heap.size w wr)
  case atStart => exact ⟨0, rfl, Nat.zero_le _, rfl, World.ownsRow_nil _ _ _ _, Below.refl _ _⟩
  case round =>
    obtain ⟨i, hk, hi, rfl, hown, hb⟩ := hrel
    by_cases hlt : i < N
    · have hlt' : (i : Int) < (N : Int) := by omega
      go_upto_region 6 with fail
      refine wp_region_list ?_
      refine wpList_plain rfl fun K hK => ?_
      refine hK _ _ ?_
      clear hK
      refine wpList_value rfl (by kernel_rfl : (execOp _ _).run Tryz.prog wr = .ok (.value (.agg cmdL.toArray)) wr) ?_
      refine wpList_value rfl (by kernel_rfl : (execOp _ _).run Tryz.prog wr = .ok (.value (.slice (some ⟨wr.heap.size, 0, none⟩) 1 1)) (wr.alloc (.cells cmdL.toArray 30))) ?_
      have hown6 := hown.alloc (.cells cmdL.toArray 30)
      have hnew := heap_alloc_new wr (.cells cmdL.toArray 30)
      obtain ⟨hi, hz0, hz1, hz2⟩ := HI.out
      have hnews : ∀ j u, cmdL[j]? = some u → (wr.alloc (.cells cmdL.toArray 30)).cell? ((⟨wr.heap.size, 0, none⟩ : Addr).add j) = some u := by
        intro j u hu
        rw [add_none, Nat.zero_add, cell_of_row _ _ _ _ _ _ hnew]
        simpa using hu
      have hbs : w.heap.size ≤ (wr.alloc (.cells cmdL.toArray 30)).heap.size := by have := hb.size; simp; omega
      refine wpList_append_own (wr.alloc (.cells cmdL.toArray 30)) rfl (.tmp 16) (.tmp 18) 23 rfl w.heap.size 30 i0 _ 9 152 Tryz.underlying23 hi hz0 hz1 hz2 rfl (by omega) u3 i _ ?e16 hown6 ⟨wr.heap.size, 0, none⟩ 1 1 cmdL ?e18 rfl hnews cmdL_one (by unfold maxLen; omega) (by omega) hbs ?_
      case e16 => rfl
      case e18 => rfl
      intro v' w6 hown7 hgr7 _
      clear hi hz0 hz1 hz2
      have hbn : Below w.heap.size w w6 := Below.grown (hb.alloc hb.size _) hgr7 hbs (fun k hk => (World.ownsRow.lt hown6 k hk).1)
      rw [show (List.replicate i cmdL).flatten ++ cmdL = (List.replicate (i + 1) cmdL).flatten by rw [List.replicate_succ', List.flatten_append]; simp] at hown7
      clear hbs hnews hnew hown6 hgr7 hown hb
      refine wpList_plain rfl fun K hK => ?_
      refine hK _ _ ?_
      clear hK
      show Exit.inBlock 1 _ .normal _ _
      go_upto_region 7 with fail
      go_wp2
      go_roundg (N - (i + 1))
      case measure => omega
      case rel => exact ⟨i + 1, rfl, by omega, by simp, hown7, hbn⟩
    · obtain rfl : i = N := by omega
      have hcall : ∀ W, wr = W → ∃ A c, u3 = .slice A i c ∧ (i ≤ 1000 → Calls Tryz.prog 5 #[.int .i64 1, .slice A i c] W fun e w' => Below W.heap.size W w' ∧ ∃ B k, e = .returned (.tuple #[.slice B i k, .int .i64 0])) := by
        intro W hW
        subst hW
        obtain ⟨hl, h | ⟨g, cap, cur, rfl, hg⟩⟩ := hown
        · obtain ⟨rfl, rfl⟩ := h
          exact ⟨none, 0, rfl, fun hle => run_calls none 0 0 wr hle 0 0 (fun h => absurd h (Nat.lt_irrefl 0)) (fun i hi => absurd hi (Nat.not_lt_zero i))⟩
        · have hown' : wr.ownsRow w.heap.size 30 9 (.slice (some ⟨g, 0, none⟩) i cap) i (List.replicate i cmdL).flatten := ⟨hl, .inr ⟨g, cap, cur, rfl, hg⟩⟩
          refine ⟨some ⟨g, 0, none⟩, cap, rfl, fun hle => run_calls (some ⟨g, 0, none⟩) i cap wr hle g 0 (fun _ => rfl) fun j hj k v hv => ?_⟩
          have hk9 : k < cmdL.length := (List.getElem?_eq_some_iff.1 hv).1
          have := hown'.cells rfl (j * 9 + k) v (by rw [show j * 9 = j * cmdL.length from rfl, flat_get cmdL i j k hj hk9]; exact hv)
          rw [add_none] at this
          rw [show 0 + j * 9 + k = 0 + (j * 9 + k) by omega]
          exact this
      obtain ⟨A, c, rfl, hrun⟩ := hcall wr rfl
      clear hown hcall
      by_cases hle : i ≤ 1000
      · have hRun := hrun hle
        have hgt : decide ((1000 : Int) < (i : Int)) = false := decide_eq_false (by omega)
        have heq : ((i : Int) == (i : Int)) = true := by simp
        clear hrun
        go_wp2_with (first
          | (go_at_call 5; refine hRun.mono ?_; rintro e w2 ⟨hb2, B, kk, rfl⟩)
          | (go_at_call 4; refine (same_calls _).mono ?_; rintro e w3 ⟨rfl, hb3⟩))
        go_ret
        exact ⟨rfl, hb.trans ((Below.mono hb2 hb.size).trans (Below.mono hb3 (Nat.le_trans hb.size hb2.size)))⟩
      · have hlt5 : 1000 < i := by omega
        have hgt : decide ((1000 : Int) < (i : Int)) = true := decide_eq_true (by omega)
        clear hrun
        go_wp2_with (first
          | (go_at_call 5; refine (run_many _ _ _ _ hlt5).mono ?_; rintro e w2 ⟨hb2, rfl⟩)
          | (go_at_call 4; refine (same_calls _).mono ?_; rintro e w3 ⟨rfl, hb3⟩))
        go_ret
        exact ⟨rfl, hb.trans ((Below.mono hb2 hb.size).trans (Below.mono hb3 (Nat.le_trans hb.size hb2.size)))⟩
end Ex
end Go.Proofs.YtlpjmjielpdhiaaGreatDoor
