/- QueryReads: whatever any text is read as is a right selector and has just that text; any other text is refused, and nothing is read. No condition; the library's variables are tied to the program's text by the given tie. -/
import Derived.Test.YtjbobecnlpiejaaDoorSR4
import Derived.Test.YtjbobecnlpiejaaDoorCards
import Derived.Test.YtjbobecnlpiejaaDoorTie
import Derived.SevenTiedAt
set_option linter.unusedVariables false
set_option linter.unusedSimpArgs false
namespace Go.Proofs.YtjbobecnlpiejaaDoor.Q
open Go.Proofs.YtjbobecnlpiejaaDoorZ
open Go.RowKit Go.Proofs.YtjbobecnlpiejaaDoorW.PrintWords Go.Proofs.YtjbobecnlpiejaaDoorW.PrintLast Go.Proofs.YtjbobecnlpiejaaDoorW.PrintMore
attribute [local go_sem] qvb qwb qzb qyb
def qoc.row (x : S46) (o a : List Bool) : List S41 → Nat → Option (List Bool)
 | [], _ => some []
 | p :: r, k => (qgc.f p x).bind fun h => (qoc.row x o a r (k + 1)).bind fun t => some ((h && (k == 0 || (if p.f0 = true then o else a).getD (k - 1) false)) :: t)
def qoc.go (l : List S41) : List S46 → List (List Bool) → List (List Bool) → Option (List (List Bool))
 | [], o, _ => some o
 | x :: r, o, a => if 0 ≤ x.f1 ∧ x.f1 < (o.length : Int) then (qoc.row x (o.getD x.f1.toNat []) (a.getD x.f1.toNat []) l 0).bind fun t => qoc.go l r (o ++ [t]) (a ++ [List.zipWith (· || ·) (a.getD x.f1.toNat []) t]) else none
def qoc.f (l0 : List S41) (l1 : List S46) : Option (List (List Bool)) :=
 if 0 < l0.length ∧ l0.length ≤ 1000000 ∧ l1.length ≤ 1000000 then qoc.go l0 l1 [List.replicate l0.length false] [List.replicate l0.length false] else none
def FRow (w W : World) (g c : Nat) (l : List Bool) : Prop := Kd.R Kd.bool 4 W w.heap.size (fun _ => True) (.slice (some ⟨g, 0, none⟩) l.length c) l
theorem FRow.frame {w W W1 : World} {g c : Nat} {l : List Bool} (h : FRow w W g c l) (e : W1.heap[g]? = W.heap[g]?) : FRow w W1 g c l :=
 Kd.R_mono (Kd.R_step (Kd.R_tight rfl h) (fun k hk _ => by cases hk; exact e)) (fun _ _ => trivial)
theorem FRow.lt {w W : World} {g c : Nat} {l : List Bool} (h : FRow w W g c l) : g < W.heap.size ∧ w.heap.size ≤ g := ⟨Kd.R_lt h g rfl, Kd.R_base h g rfl⟩
theorem FRow.cell {w W : World} {g c : Nat} {l : List Bool} (h : FRow w W g c l) (i : Nat) (hi : i < l.length) : W.cell? ⟨g, i, none⟩ = some (.bool (l.getD i false)) ∧ W.frozen? ⟨g, i, none⟩ = false := by
 have := Kd.R_cell false h (i : Int) (by omega) (by omega)
 rw [Int.toNat_natCast] at this
 unfold rdOf at this
 rw [Int.toNat_natCast] at this
 exact this
theorem FRow.put {w W : World} {g c : Nat} {l : List Bool} (h : FRow w W g c l) (i : Nat) (x : Bool) : FRow w (W.setCell ⟨g, i, none⟩ (.bool x)) g c (l.set i x) := by
 have := (Kd.R_put h (i : Int) x).1
 rw [Int.toNat_natCast] at this
 unfold FRow
 rw [List.length_set]
 exact this
theorem made_one (z : Value) (n : Nat) (h : z.cells = #[z]) : madeCells z.cells n = Array.replicate n z := by
 rw [h]
 apply Array.ext
 ·simp [size_madeCells]
 ·intro j h1 h2
  simp [madeCells, Nat.mod_one]
theorem make_tables (n : Nat) (hn : n ≤ 1000000) (W : World) : (Instr.makeSlice 65 (.int .i64 ((n : Int) + 1)) (.int .i64 ((n : Int) + 1))).run Tryd.prog W = .ok (.slice (some ⟨W.heap.size, 0, none⟩) (n + 1) (n + 1)) (W.alloc (.cells (Array.replicate (n + 1) (.slice none 0 0)) 67)) := by
 have hi : (Tryd.prog.info? 67).map (fun i => (i.zero, i.size, i.bytes)) = some (some (.slice none 0 0), 1, 24) := by kernel_rfl
 obtain ⟨i0, h0, hz⟩ := Option.map_eq_some_iff.1 hi
 simp only [Prod.mk.injEq] at hz
 have hr := run_make (P := Tryd.prog) W 65 67 i0 (.slice none 0 0) Tryd.underlying65 h0 hz.1 .i64 .i64 ((n : Int) + 1) ((n : Int) + 1) (by omega) (by omega) (by rw [hz.2.2]; omega) (by omega)
 rw [hz.2.1, made_one _ _ rfl] at hr
 have e : ((n : Int) + 1).toNat = n + 1 := by omega
 rw [e, Nat.mul_one] at hr
 exact hr
theorem make_row (m : Nat) (hm : m ≤ 1000000) (W : World) : (Instr.makeSlice 67 (.int .i64 (m : Int)) (.int .i64 (m : Int))).run Tryd.prog W = .ok (.slice (some ⟨W.heap.size, 0, none⟩) m m) (W.alloc (.cells (Array.replicate m (.bool false)) 4)) := by
 have hi : (Tryd.prog.info? 4).map (fun i => (i.zero, i.size, i.bytes)) = some (some (.bool false), 1, 1) := by kernel_rfl
 obtain ⟨i0, h0, hz⟩ := Option.map_eq_some_iff.1 hi
 simp only [Prod.mk.injEq] at hz
 have hr := run_make (P := Tryd.prog) W 67 4 i0 (.bool false) Tryd.underlying67 h0 hz.1 .i64 .i64 (m : Int) (m : Int) (by omega) (by omega) (by rw [hz.2.2]; omega) (by omega)
 rw [hz.2.1, made_one _ _ rfl] at hr
 rw [Int.toNat_natCast, Nat.mul_one] at hr
 exact hr
theorem FRow.made (w W : World) (m : Nat) (hm : m ≤ 1000000) (hs : w.heap.size ≤ W.heap.size) : FRow w (W.alloc (.cells (Array.replicate m (.bool false)) 4)) W.heap.size m (List.replicate m false) := by
 refine Kd.R_of_own ⟨by simp [encs], .inr ⟨W.heap.size, m, Array.replicate m (.bool false), by simp, hs, blk_new _ _, by simp, ?_, by simp, ?_⟩⟩ (fun _ _ => trivial)
 ·unfold maxLen; omega
 ·simp [encs]
structure FI (w : World) (n m q : Nat) (gs hs cs : Nat → Nat) (o a : List (List Bool)) (W : World) : Prop where
 hb : Below w.heap.size w W
 ho : ∃ co : Array Value, W.heap[w.heap.size]? = some (.cells co 67 (0, 0)) ∧ co.size = n + 1 ∧ ∀ j, j < q → co[j]? = some (.slice (some ⟨gs j, 0, none⟩) m m)
 ha : ∃ ca : Array Value, W.heap[w.heap.size + 1]? = some (.cells ca 67 (0, 0)) ∧ ca.size = n + 1 ∧ ∀ j, j < q → ca[j]? = some (.slice (some ⟨hs j, 0, none⟩) m (cs j))
 lo : o.length = q
 la : a.length = q
 ro : ∀ j, j < q → (o.getD j []).length = m ∧ FRow w W (gs j) m (o.getD j [])
 ra : ∀ j, j < q → (a.getD j []).length = m ∧ FRow w W (hs j) (cs j) (a.getD j [])
 gt : ∀ j, j < q → w.heap.size + 2 ≤ gs j ∧ w.heap.size + 2 ≤ hs j
 inc : ∀ i j, i < j → j < q → gs i < gs j
section
variable {w W W1 : World} {n m q : Nat} {gs hs cs : Nat → Nat} {o a : List (List Bool)}
theorem FI.lt (h : FI w n m q gs hs cs o a W) (j : Nat) (hj : j < q) : gs j < W.heap.size ∧ hs j < W.heap.size := ⟨(h.ro j hj).2.lt.1, (h.ra j hj).2.lt.1⟩
theorem FI.frame (h : FI w n m q gs hs cs o a W) (hb1 : Below w.heap.size w W1) (N : Nat) (hN2 : w.heap.size + 2 ≤ N) (hN : ∀ j, j < q → gs j < N ∧ hs j < N) (e : ∀ k, k < N → W1.heap[k]? = W.heap[k]?) : FI w n m q gs hs cs o a W1 := by
 obtain ⟨co, h1, h2, h3⟩ := h.ho
 obtain ⟨ca, k1, k2, k3⟩ := h.ha
 exact ⟨hb1, ⟨co, (e _ (by omega)).trans h1, h2, h3⟩, ⟨ca, (e _ (by omega)).trans k1, k2, k3⟩, h.lo, h.la, fun j hj => ⟨(h.ro j hj).1, (h.ro j hj).2.frame (e _ (hN j hj).1)⟩, fun j hj => ⟨(h.ra j hj).1, (h.ra j hj).2.frame (e _ (hN j hj).2)⟩, h.gt, h.inc⟩
theorem FI.seto (h : FI w n m q gs hs cs o a W) (j : Nat) (hj : q ≤ j) (u : Value) : FI w n m q gs hs cs o a (W.setCell ⟨w.heap.size, j, none⟩ u) := by
 obtain ⟨co, h1, h2, h3⟩ := h.ho
 obtain ⟨ca, k1, k2, k3⟩ := h.ha
 have e : ∀ k, k ≠ w.heap.size → (W.setCell ⟨w.heap.size, j, none⟩ u).heap[k]? = W.heap[k]? := fun k hk => Below.heap_setCell W _ u k hk
 refine ⟨qm h.hb (Nat.le_refl _), ⟨_, blk_set h1 j u, by simpa using h2, fun i hi => ?_⟩, ⟨ca, (e _ (by omega)).trans k1, k2, k3⟩, h.lo, h.la, fun i hi => ⟨(h.ro i hi).1, (h.ro i hi).2.frame (e _ (by have := (h.gt i hi).1; omega))⟩, fun i hi => ⟨(h.ra i hi).1, (h.ra i hi).2.frame (e _ (by have := (h.gt i hi).2; omega))⟩, h.gt, h.inc⟩
 rw [Array.getElem?_setIfInBounds_ne (by omega)]
 exact h3 i hi
theorem FI.seta (h : FI w n m q gs hs cs o a W) (j : Nat) (hj : q ≤ j) (u : Value) : FI w n m q gs hs cs o a (W.setCell ⟨w.heap.size + 1, j, none⟩ u) := by
 obtain ⟨co, h1, h2, h3⟩ := h.ho
 obtain ⟨ca, k1, k2, k3⟩ := h.ha
 have e : ∀ k, k ≠ w.heap.size + 1 → (W.setCell ⟨w.heap.size + 1, j, none⟩ u).heap[k]? = W.heap[k]? := fun k hk => Below.heap_setCell W _ u k hk
 refine ⟨qm h.hb (by omega), ⟨co, (e _ (by omega)).trans h1, h2, h3⟩, ⟨_, blk_set k1 j u, by simpa using k2, fun i hi => ?_⟩, h.lo, h.la, fun i hi => ⟨(h.ro i hi).1, (h.ro i hi).2.frame (e _ (by have := (h.gt i hi).1; omega))⟩, fun i hi => ⟨(h.ra i hi).1, (h.ra i hi).2.frame (e _ (by have := (h.gt i hi).2; omega))⟩, h.gt, h.inc⟩
 rw [Array.getElem?_setIfInBounds_ne (by omega)]
 exact k3 i hi
theorem FI.last (h : FI w n m (n + 1) gs hs cs o a W) (hn : n ≤ 1000000) : Kd.S (Kd.slice 4 Kd.bool) 67 W w.heap.size (fun _ => True) (.slice (some ⟨w.heap.size, 0, none⟩) (n + 1) (n + 1)) o := by
 classical
 obtain ⟨co, h1, h2, h3⟩ := h.ho
 have inj : ∀ i j, i < n + 1 → j < n + 1 → gs i = gs j → i = j := fun i j hi hj e => by
  rcases Nat.lt_trichotomy i j with hl | hl | hl
  ·have := h.inc i j hl hj; omega
  ·exact hl
  ·have := h.inc j i hl hi; omega
 refine ⟨fun k => if hx : ∃ j, j < n + 1 ∧ gs j = k then Classical.choose hx else 0, fun _ _ => trivial, co.toList, ?_, ?_⟩
 ·rw [List.length_zipIdx, h.lo]
  refine ⟨by simp [h2, Kd.tag, Kd.slice], .inr ⟨w.heap.size, n + 1, co, rfl, Nat.le_refl _, h1, Nat.le_refl _, by unfold maxLen; omega, by simp [h2, Kd.tag, Kd.slice], ?_⟩⟩
  show co.toList.take ((n + 1) * 1) = co.toList
  exact List.take_of_length_le (by simp [h2])
 ·refine ⟨by simp [h2, Kd.tag, Kd.slice, h.lo], fun j p hj => ?_⟩
  have hjl : j < n + 1 := by
   have := (List.getElem?_eq_some_iff.1 hj).1
   rw [List.length_zipIdx, h.lo] at this
   exact this
  rw [List.getElem?_zipIdx] at hj
  obtain ⟨x, hx, hp⟩ := Option.map_eq_some_iff.1 hj
  subst hp
  have hxe : o.getD j [] = x := by rw [List.getD_eq_getElem?_getD, hx]; rfl
  obtain ⟨hlen, hrow⟩ := h.ro j hjl
  rw [hxe] at hlen hrow
  refine ⟨.slice (some ⟨gs j, 0, none⟩) m m, ?_, ?_⟩
  ·show (co.toList.drop (j * 1)).take 1 = _
   have e := h3 j hjl
   rw [← Array.getElem?_toList] at e
   rw [Nat.mul_one]
   obtain ⟨hjt, hje⟩ := List.getElem?_eq_some_iff.1 e
   rw [List.drop_eq_getElem_cons hjt, hje]
   rfl
  ·rw [← hlen]
   unfold FRow at hrow
   rw [← hlen] at hrow
   refine Kd.R_reok rfl hrow (fun k hk => ?_)
   have hke : gs j = k := by simpa [Value.ownBlock] using hk
   subst hke
   have hex : ∃ i, i < n + 1 ∧ gs i = gs j := ⟨j, hjl, rfl⟩
   refine ⟨⟨trivial, ?_⟩, ?_⟩
   ·have := (h.gt j hjl).1
    simp [Value.ownBlock]
    omega
   ·show (if hx : ∃ i, i < n + 1 ∧ gs i = gs j then Classical.choose hx else 0) = 0 + j
    rw [dif_pos hex]
    have hc := Classical.choose_spec hex
    have := inj _ _ hc.1 hjl hc.2
    simpa using this
theorem FI.first (w : World) (n m : Nat) (hm : m ≤ 1000000) : FI w n m 1 (fun _ => w.heap.size + 1 + 1) (fun _ => w.heap.size + 1 + 1) (fun _ => m) [List.replicate m false] [List.replicate m false]
  (((w.alloc (.cells ((Array.replicate (n + 1) (.slice none 0 0)).setIfInBounds 0 (.slice (some ⟨w.heap.size + 1 + 1, 0, none⟩) m m)) 67)).alloc (.cells ((Array.replicate (n + 1) (.slice none 0 0)).setIfInBounds 0 (.slice (some ⟨w.heap.size + 1 + 1, 0, none⟩) m m)) 67)).alloc (.cells (Array.replicate m (.bool false)) 4)) := by
 have one : ∀ (P : Nat → Prop), P 0 → ∀ j, j < 1 → P j := fun P h j hj => by
  obtain rfl : j = 0 := by omega
  exact h
 have ht : ((Array.replicate (n + 1) (Value.slice none 0 0)).setIfInBounds 0 (.slice (some ⟨w.heap.size + 1 + 1, 0, none⟩) m m))[0]? = some (.slice (some ⟨w.heap.size + 1 + 1, 0, none⟩) m m) := by simp
 have e1 := blk_new w (.cells ((Array.replicate (n + 1) (.slice none 0 0)).setIfInBounds 0 (.slice (some ⟨w.heap.size + 1 + 1, 0, none⟩) m m)) 67)
 have e2 := blk_new (w.alloc (.cells ((Array.replicate (n + 1) (.slice none 0 0)).setIfInBounds 0 (.slice (some ⟨w.heap.size + 1 + 1, 0, none⟩) m m)) 67)) (.cells ((Array.replicate (n + 1) (.slice none 0 0)).setIfInBounds 0 (.slice (some ⟨w.heap.size + 1 + 1, 0, none⟩) m m)) 67)
 have hr := FRow.made w ((w.alloc (.cells ((Array.replicate (n + 1) (.slice none 0 0)).setIfInBounds 0 (.slice (some ⟨w.heap.size + 1 + 1, 0, none⟩) m m)) 67)).alloc (.cells ((Array.replicate (n + 1) (.slice none 0 0)).setIfInBounds 0 (.slice (some ⟨w.heap.size + 1 + 1, 0, none⟩) m m)) 67)) m hm (by simp; omega)
 have z1 : ∀ (W : World) (ob : Obj), (W.alloc ob).heap.size = W.heap.size + 1 := fun W ob => by simp
 rw [z1] at e2
 rw [z1, z1] at hr
 exact ⟨qc (qc (qc (Below.refl _ _) _) _) _, ⟨_, qj (qj e1 _) _, by simp, one _ ht⟩, ⟨_, qj e2 _, by simp, one _ ht⟩, rfl, rfl, one _ ⟨by simp, hr⟩, one _ ⟨by simp, hr⟩, one _ ⟨by omega, by omega⟩, fun i j h1 h2 => by omega⟩
theorem FI.push (h : FI w n m q gs hs cs o a W) {g hh c : Nat} {ro ra : List Bool} (hg : ∀ j, j < q → gs j < g) (hg2 : w.heap.size + 2 ≤ g) (hh2 : w.heap.size + 2 ≤ hh)
  (co : W.cell? ⟨w.heap.size, q, none⟩ = some (.slice (some ⟨g, 0, none⟩) m m)) (ca : W.cell? ⟨w.heap.size + 1, q, none⟩ = some (.slice (some ⟨hh, 0, none⟩) m c)) (l1 : ro.length = m) (l2 : ra.length = m) (r1 : FRow w W g m ro) (r2 : FRow w W hh c ra) :
  FI w n m (q + 1) (fun j => if j = q then g else gs j) (fun j => if j = q then hh else hs j) (fun j => if j = q then c else cs j) (o ++ [ro]) (a ++ [ra]) W := by
 obtain ⟨cO, h1, h2, h3⟩ := h.ho
 obtain ⟨cA, k1, k2, k3⟩ := h.ha
 rw [qh h1] at co
 rw [qh k1] at ca
 have split : ∀ (P : Nat → Prop), (∀ j, j < q → P j) → P q → ∀ j, j < q + 1 → P j := fun P h1 h2 j hj => by
  rcases Nat.lt_or_ge j q with hq | hq
  ·exact h1 j hq
  ·obtain rfl : j = q := by omega
   exact h2
 have go : ∀ j, j < q → (o ++ [ro]).getD j [] = o.getD j [] := fun j hj => by simp [List.getD_eq_getElem?_getD, List.getElem?_append_left (show j < o.length by rw [h.lo]; exact hj)]
 have ga : ∀ j, j < q → (a ++ [ra]).getD j [] = a.getD j [] := fun j hj => by simp [List.getD_eq_getElem?_getD, List.getElem?_append_left (show j < a.length by rw [h.la]; exact hj)]
 have goq : (o ++ [ro]).getD q [] = ro := by simp [List.getD_eq_getElem?_getD, ← h.lo]
 have gaq : (a ++ [ra]).getD q [] = ra := by simp [List.getD_eq_getElem?_getD, ← h.la]
 refine ⟨h.hb, ⟨cO, h1, h2, split _ (fun j hj => ?_) ?_⟩, ⟨cA, k1, k2, split _ (fun j hj => ?_) ?_⟩, by simp [h.lo], by simp [h.la], split _ (fun j hj => ?_) ?_, split _ (fun j hj => ?_) ?_, split _ (fun j hj => ?_) ?_, ?_⟩
 ·rw [if_neg (by omega)]; exact h3 j hj
 ·rw [if_pos rfl]; exact co
 ·rw [if_neg (by omega), if_neg (by omega)]; exact k3 j hj
 ·rw [if_pos rfl, if_pos rfl]; exact ca
 ·rw [if_neg (by omega), go j hj]; exact h.ro j hj
 ·rw [if_pos rfl, goq]; exact ⟨l1, r1⟩
 ·rw [if_neg (by omega), if_neg (by omega), ga j hj]; exact h.ra j hj
 ·rw [if_pos rfl, if_pos rfl, gaq]; exact ⟨l2, r2⟩
 ·rw [if_neg (by omega), if_neg (by omega)]; exact h.gt j hj
 ·rw [if_pos rfl, if_pos rfl]; exact ⟨hg2, hh2⟩
 ·intro i j hij hj
  rw [if_neg (show i ≠ q by omega)]
  by_cases hjq : j = q
  ·rw [if_pos hjq]; exact hg i (by omega)
  ·rw [if_neg hjq]; exact h.inc i j hij (by omega)
theorem FI.two (h : FI w n m q gs hs cs o a W) : w.heap.size + 2 ≤ W.heap.size := by
 obtain ⟨ca, k1, _⟩ := h.ha
 have := qbc k1
 omega
theorem FI.below (h : FI w n m q gs hs cs o a W) (hb : Below W.heap.size W W1) : FI w n m q gs hs cs o a W1 :=
 h.frame (h.hb.trans (hb.mono h.hb.size)) W.heap.size h.two (fun j hj => h.lt j hj) (fun k hk => hb.block k hk)
theorem FI.ocell (h : FI w n m q gs hs cs o a W) (j : Nat) (hj : j < n + 1) : (∃ u, W.cell? ⟨w.heap.size, j, none⟩ = some u) ∧ W.frozen? ⟨w.heap.size, j, none⟩ = false := by
 obtain ⟨co, h1, h2, _⟩ := h.ho
 exact ⟨⟨co[j], by rw [qh h1, Array.getElem?_eq_getElem]⟩, qf h1 j⟩
theorem FI.acell (h : FI w n m q gs hs cs o a W) (j : Nat) (hj : j < n + 1) : (∃ u, W.cell? ⟨w.heap.size + 1, j, none⟩ = some u) ∧ W.frozen? ⟨w.heap.size + 1, j, none⟩ = false := by
 obtain ⟨co, h1, h2, _⟩ := h.ha
 exact ⟨⟨co[j], by rw [qh h1, Array.getElem?_eq_getElem]⟩, qf h1 j⟩
theorem FI.oat (h : FI w n m q gs hs cs o a W) (j : Nat) (hj : j < q) : W.cell? ⟨w.heap.size, j, none⟩ = some (.slice (some ⟨gs j, 0, none⟩) m m) := by
 obtain ⟨co, h1, _, h3⟩ := h.ho
 exact (qh h1 j).trans (h3 j hj)
theorem FI.aat (h : FI w n m q gs hs cs o a W) (j : Nat) (hj : j < q) : W.cell? ⟨w.heap.size + 1, j, none⟩ = some (.slice (some ⟨hs j, 0, none⟩) m (cs j)) := by
 obtain ⟨co, h1, _, h3⟩ := h.ha
 exact (qh h1 j).trans (h3 j hj)
end
structure FJ (w : World) (n m i : Nat) (gs hs cs : Nat → Nat) (o a : List (List Bool)) (bx g hh c : Nat) (x : S46) (A5 : Option Addr) (c5 : Nat) (ro ra : List Bool) (W : World) : Prop where
 fi : FI w n m (i + 1) gs hs cs o a W
 hx : W.heap[bx]? = some (.cells #[.int .i64 x.f0, .int .i64 x.f1, .string x.f2, .string x.f3, .string x.f4, .slice A5 x.f5.length c5] 46 (0, 0))
 co : W.cell? ⟨w.heap.size, i + 1, none⟩ = some (.slice (some ⟨g, 0, none⟩) m m)
 ca : W.cell? ⟨w.heap.size + 1, i + 1, none⟩ = some (.slice (some ⟨hh, 0, none⟩) m c)
 r1 : FRow w W g m ro
 r2 : FRow w W hh c ra
 l1 : ro.length = m
 l2 : ra.length = m
 hg : ∀ j, j < i + 1 → gs j < g ∧ hs j < g
 g2 : w.heap.size + 2 ≤ g
 gb : bx < g
 gh : g < hh
section
variable {w W W1 : World} {n m i : Nat} {gs hs cs : Nat → Nat} {o a : List (List Bool)} {bx g hh c : Nat} {x : S46} {A5 : Option Addr} {c5 : Nat} {ro ra : List Bool}
theorem FJ.below (h : FJ w n m i gs hs cs o a bx g hh c x A5 c5 ro ra W) (hb : Below W.heap.size W W1) : FJ w n m i gs hs cs o a bx g hh c x A5 c5 ro ra W1 :=
 ⟨h.fi.below hb, qmb h.hx hb, (hb.cell (qwc W _ h.co)).trans h.co, (hb.cell (qwc W _ h.ca)).trans h.ca, h.r1.frame (hb.block _ h.r1.lt.1), h.r2.frame (hb.block _ h.r2.lt.1), h.l1, h.l2, h.hg, h.g2, h.gb, h.gh⟩
theorem FJ.put1 (h : FJ w n m i gs hs cs o a bx g hh c x A5 c5 ro ra W) (k : Nat) (b : Bool) : FJ w n m i gs hs cs o a bx g hh c x A5 c5 (ro.set k b) ra (W.setCell ⟨g, k, none⟩ (.bool b)) := by
 have e : ∀ q, q ≠ g → (W.setCell ⟨g, k, none⟩ (.bool b)).heap[q]? = W.heap[q]? := fun q hq => Below.heap_setCell W _ _ q hq
 have hb1 : Below w.heap.size w (W.setCell ⟨g, k, none⟩ (.bool b)) := qm h.fi.hb (by have := h.g2; omega)
 have ec : ∀ q j, q ≠ g → (W.setCell ⟨g, k, none⟩ (.bool b)).cell? ⟨q, j, none⟩ = W.cell? ⟨q, j, none⟩ := fun q j hq => World.cell?_setCell_other W _ _ _ (fun ee => hq (by cases ee; rfl))
 exact ⟨h.fi.frame hb1 g h.g2 h.hg (fun q hq => e q (by omega)), (e _ (by have := h.gb; omega)).trans h.hx, (ec _ _ (by have := h.g2; omega)).trans h.co, (ec _ _ (by have := h.g2; omega)).trans h.ca, h.r1.put k b, h.r2.frame (e _ (by have := h.gh; omega)), by rw [List.length_set]; exact h.l1, h.l2, h.hg, h.g2, h.gb, h.gh⟩
theorem FJ.put2 (h : FJ w n m i gs hs cs o a bx g hh c x A5 c5 ro ra W) (k : Nat) (b : Bool) : FJ w n m i gs hs cs o a bx g hh c x A5 c5 ro (ra.set k b) (W.setCell ⟨hh, k, none⟩ (.bool b)) := by
 have e : ∀ q, q ≠ hh → (W.setCell ⟨hh, k, none⟩ (.bool b)).heap[q]? = W.heap[q]? := fun q hq => Below.heap_setCell W _ _ q hq
 have hb1 : Below w.heap.size w (W.setCell ⟨hh, k, none⟩ (.bool b)) := qm h.fi.hb (by have := h.g2; have := h.gh; omega)
 have ec : ∀ q j, q ≠ hh → (W.setCell ⟨hh, k, none⟩ (.bool b)).cell? ⟨q, j, none⟩ = W.cell? ⟨q, j, none⟩ := fun q j hq => World.cell?_setCell_other W _ _ _ (fun ee => hq (by cases ee; rfl))
 exact ⟨h.fi.frame hb1 g h.g2 h.hg (fun q hq => e q (by have := h.gh; omega)), (e _ (by have := h.gb; have := h.gh; omega)).trans h.hx, (ec _ _ (by have := h.g2; have := h.gh; omega)).trans h.co, (ec _ _ (by have := h.g2; have := h.gh; omega)).trans h.ca, h.r1.frame (e _ (by have := h.gh; omega)), h.r2.put k b, h.l1, by rw [List.length_set]; exact h.l2, h.hg, h.g2, h.gb, h.gh⟩
theorem FJ.done (h : FJ w n m i gs hs cs o a bx g hh c x A5 c5 ro ra W) : FI w n m (i + 1 + 1) (fun j => if j = i + 1 then g else gs j) (fun j => if j = i + 1 then hh else hs j) (fun j => if j = i + 1 then c else cs j) (o ++ [ro]) (a ++ [ra]) W :=
 h.fi.push (fun j hj => (h.hg j hj).1) h.g2 (by have := h.g2; have := h.gh; omega) h.co h.ca h.l1 h.l2 h.r1 h.r2
end
theorem qoc.row_len (x : S46) (o a : List Bool) : ∀ (l : List S41) (k : Nat) (t : List Bool), qoc.row x o a l k = some t → t.length = l.length
 | [], k, t, h => by cases h; rfl
 | p :: r, k, t, h => by
  unfold qoc.row at h
  obtain ⟨_, _, h⟩ := Option.bind_eq_some_iff.1 h
  obtain ⟨tl, h2, h⟩ := Option.bind_eq_some_iff.1 h
  obtain rfl := Option.some.inj h
  simp [qoc.row_len x o a r (k + 1) tl h2]
def part_row (t : List Bool) (m k : Nat) : List Bool := t.take k ++ List.replicate (m - k) false
theorem part_row_len (t : List Bool) (m k : Nat) (h : t.length = m) (hk : k ≤ m) : (part_row t m k).length = m := by
 unfold part_row
 rw [List.length_append, List.length_take, List.length_replicate]
 omega
theorem part_row_step (t : List Bool) (m k : Nat) (h : t.length = m) (hk : k < m) : (part_row t m k).set k (t.getD k false) = part_row t m (k + 1) := by
 unfold part_row
 have e : m - k = (m - (k + 1)) + 1 := by omega
 have hl : (t.take k).length = k := by rw [List.length_take]; omega
 rw [e, List.replicate_succ, List.set_append_right _ _ (by omega), hl, Nat.sub_self, List.set_cons_zero, List.take_succ_eq_append_getElem (by omega), List.append_assoc]
 congr 1
 rw [List.getD_eq_getElem?_getD, List.getElem?_eq_getElem (by omega)]
 rfl
theorem part_row_at (t : List Bool) (m k : Nat) (h : t.length = m) (hk : k < m) : (part_row t m k).getD k false = false := by
 unfold part_row
 have hl : (t.take k).length = k := by rw [List.length_take]; omega
 rw [List.getD_eq_getElem?_getD, List.getElem?_append_right (by omega), hl, Nat.sub_self, List.getElem?_replicate, if_pos (by omega)]
 rfl
theorem part_row_last (t : List Bool) (m : Nat) (h : t.length = m) : part_row t m m = t := by
 unfold part_row
 rw [Nat.sub_self, List.replicate_zero, List.append_nil, List.take_of_length_le (by omega)]
theorem zip_false : ∀ (A : List Bool), List.zipWith (· || ·) A (List.replicate A.length false) = A
 | [] => rfl
 | b :: A => by simp only [List.length_cons, List.replicate_succ, List.zipWith_cons_cons, Bool.or_false, zip_false A]
theorem zip_set : ∀ (A R : List Bool) (k : Nat) (b : Bool), A.length = R.length → (List.zipWith (· || ·) A R).set k (A.getD k false || b) = List.zipWith (· || ·) A (R.set k b)
 | [], R, k, b, h => by simp
 | x :: A, [], k, b, h => by simp at h
 | x :: A, y :: R, 0, b, h => rfl
 | x :: A, y :: R, k + 1, b, h => by
  simp only [List.zipWith_cons_cons, List.set_cons_succ, List.getD_cons_succ]
  rw [zip_set A R k b (by simpa using h)]
theorem zip_at (A R : List Bool) (k : Nat) (h : A.length = R.length) (hr : R.getD k false = false) : (List.zipWith (· || ·) A R).getD k false = A.getD k false := by
 induction A generalizing R k with
 | nil => simp
 | cons x A ih =>
  cases R with
  | nil => simp at h
  | cons y R =>
   cases k with
   | zero =>
    have : y = false := hr
    subst this
    simp
   | succ k => exact ih R k (by simpa using h) (by simpa using hr)
set_option maxHeartbeats 8000000 in
set_option maxRecDepth 100000 in
theorem qoc.calls (A0 : Option Addr) (c0 : Nat) (l0 : List S41) (A1 : Option Addr) (c1 : Nat) (l1 : List S46) (r : List (List Bool)) (w : World) (hr0 : Kd.C k41 w A0 l0.length l0) (hc0 : l0.length ≤ c0) (hr1 : Kd.C k46 w A1 l1.length l1) (hc1 : l1.length ≤ c1) (h : qoc.f l0 l1 = some r) :
  Calls Tryd.prog 23 #[.slice A0 l0.length c0, .slice A1 l1.length c1] w fun e w' => ∃ v0_ : Value, e = .returned v0_ ∧ Kd.S (Kd.slice 4 Kd.bool) 67 w' w.heap.size (fun _ => True) v0_ r ∧ Below w.heap.size w w' := by
 unfold qoc.f at h
 by_cases hl : 0 < l0.length ∧ l0.length ≤ 1000000 ∧ l1.length ≤ 1000000
 rotate_left
 ·rw [if_neg hl] at h
  cases h
 rw [if_pos hl] at h
 obtain ⟨hm0, hm, hn⟩ := hl
 have HH := qa.mk h
 have HR0 := qa.mk hr0
 have HR1 := qa.mk hr1
 have HB := qa.mk (Below.refl w.heap.size w)
 have hu1 := Tryd.underlying41
 have hu2 := Tryd.underlying46
 clear h hr0 hr1 hc0 hc1
 have hwr : IntKind.i64.wrap ((l1.length : Int) + 1) = (l1.length : Int) + 1 := by rw [IntKind.wrap_i64]; omega
 have hmt := make_tables l1.length hn
 have hmr := make_row l0.length hm
 go_enter Tryd.func23, Tryd.ntmps23
 go_upto_region 5 with fail
 have HFI := qa.mk (FI.first w l1.length l0.length hm)
 generalize (((w.alloc (.cells ((Array.replicate (l1.length + 1) (.slice none 0 0)).setIfInBounds 0 (.slice (some ⟨w.heap.size + 1 + 1, 0, none⟩) l0.length l0.length)) 67)).alloc (.cells ((Array.replicate (l1.length + 1) (.slice none 0 0)).setIfInBounds 0 (.slice (some ⟨w.heap.size + 1 + 1, 0, none⟩) l0.length l0.length)) 67)).alloc (.cells (Array.replicate l0.length (.bool false)) 4)) = W0 at *
 go_wp2_with fail
 go_loopg [33] (l1.length + 1) (fun kq v33 w' => ∃ (i : Nat) (gs hs cs : Nat → Nat) (o a : List (List Bool)), v33 = .int .i64 (i : Int) ∧ qa (i ≤ l1.length ∧ kq = l1.length + 1 - i) ∧ qa (qoc.go l0 (l1.drop i) o a = some r) ∧ qa (FI w l1.length l0.length (i + 1) gs hs cs o a w'))
 case atStart => exact ⟨0, _, _, _, _, _, rfl, ⟨Nat.zero_le _, rfl⟩, HH, HFI⟩
 case round =>
  clear HFI HH HB
  obtain ⟨i, gs, hs, cs, o, a, rfl, HJ, HGO, HFI⟩ := hrel
  obtain ⟨hi, hk⟩ := HJ.out
  clear HJ
  subst hk
  by_cases hlt : i < l1.length
  ·obtain ⟨ad, A5, c5, e, hx0, hx1, hx2, hx3, hx4, hx5, hl5, hr5⟩ := at_T46 HR1.out (i : Int) (by omega) (by omega)
   cases e
   replace hx0 := (HFI.out.hb.cell (qwc w _ hx0)).trans hx0
   replace hx1 := (HFI.out.hb.cell (qwc w _ hx1)).trans hx1
   replace hx2 := (HFI.out.hb.cell (qwc w _ hx2)).trans hx2
   replace hx3 := (HFI.out.hb.cell (qwc w _ hx3)).trans hx3
   replace hx4 := (HFI.out.hb.cell (qwc w _ hx4)).trans hx4
   replace hx5 := (HFI.out.hb.cell (qwc w _ hx5)).trans hx5
   rw [Int.toNat_natCast] at hx0 hx1 hx2 hx3 hx4 hx5
   have hgo := HGO.out
   have hdr : l1.drop i = qi l1 (i : Int) :: l1.drop (i + 1) := by
    rw [List.drop_eq_getElem_cons hlt]
    unfold qi
    rw [Int.toNat_natCast, List.getD_eq_getElem?_getD, List.getElem?_eq_getElem hlt]
    rfl
   rw [hdr] at hgo
   have HR5 := qa.mk (And.intro hr5 hl5)
   clear hdr HGO hr5 hl5
   generalize qi l1 (i : Int) = x at *
   obtain ⟨x0, x1, x2, x3, x4, x5⟩ := x
   dsimp only at *
   unfold qoc.go at hgo
   dsimp only at hgo
   by_cases hup : 0 ≤ x1 ∧ x1 < (o.length : Int)
   rotate_left
   ·rw [if_neg hup] at hgo
    cases hgo
   rw [if_pos hup] at hgo
   obtain ⟨t, ht, hgo⟩ := Option.bind_eq_some_iff.1 hgo
   rw [HFI.out.lo] at hup
   obtain ⟨u, rfl⟩ := Int.eq_ofNat_of_zero_le hup.1
   have hu : u < i + 1 := by omega
   rw [Int.toNat_natCast] at ht hgo
   have HT := qa.mk ht
   have HGO := qa.mk hgo
   clear ht hgo hup
   have HF2 := qa.mk ((HFI.out.below (qc (Below.refl _ _) (.cells #[.int .i64 x0, .int .i64 (u : Int), .string x2, .string x3, .string x4, .slice A5 x5.length c5] 46))).below (qc (Below.refl _ _) (.cells (Array.replicate l0.length (.bool false)) 4)))
   have hi1 : IntKind.i64.wrap ((i : Int) + 1) = (i : Int) + 1 := by rw [IntKind.wrap_i64]; omega
   obtain ⟨⟨u1, hc1⟩, hf1⟩ := HF2.out.ocell (i + 1) (by omega)
   have hb1 : (i : Int) + 1 < (l1.length : Int) + 1 := by omega
   have hb2 : (i : Int) + 1 < ((l1.length + 1 : Nat) : Int) := by omega
   have hb0 : 0 ≤ (i : Int) + 1 := by omega
   go_upto_region 9 with fail
   have HBX := qa.mk (qpb (qj (blk_new wr (.cells #[.int .i64 x0, .int .i64 (u : Int), .string x2, .string x3, .string x4, .slice A5 x5.length c5] 46)) (.cells (Array.replicate l0.length (.bool false)) 4)) (p := ⟨w.heap.size, i + 1, none⟩) (by have := HFI.out.two; dsimp only; omega) (.slice (some ⟨wr.heap.size + 1, 0, none⟩) l0.length l0.length))
   have z1 : ∀ (W : World) (ob : Obj), (W.alloc ob).heap.size = W.heap.size + 1 := fun W ob => by simp
   have hfr := FRow.made w (wr.alloc (.cells #[.int .i64 x0, .int .i64 (u : Int), .string x2, .string x3, .string x4, .slice A5 x5.length c5] 46)) l0.length hm (by rw [z1]; have := HFI.out.two; omega)
   rw [z1] at hfr
   have HFR := qa.mk (hfr.frame (Below.heap_setCell _ ⟨w.heap.size, i + 1, none⟩ (.slice (some ⟨wr.heap.size + 1, 0, none⟩) l0.length l0.length) (wr.heap.size + 1) (by have := HFI.out.two; dsimp only; omega)))
   have HF3 := qa.mk (HF2.out.seto (i + 1) (Nat.le_refl _) (.slice (some ⟨wr.heap.size + 1, 0, none⟩) l0.length l0.length))
   have HCO := qa.mk (World.cell?_setCell_same' _ _ (.slice (some ⟨wr.heap.size + 1, 0, none⟩) l0.length l0.length) (by rw [hc1]; rfl))
   have HLT := qa.mk (fun j (hj : j < i + 1) => HFI.out.lt j hj)
   have HTW := qa.mk HFI.out.two
   clear hc1 hf1 HF2 hfr hx0 hx1 hx2 hx3 hx4 hx5 hgo z1 HFI
   generalize (((wr.alloc (.cells #[.int .i64 x0, .int .i64 (u : Int), .string x2, .string x3, .string x4, .slice A5 x5.length c5] 46)).alloc (.cells (Array.replicate l0.length (.bool false)) 4)).setCell ⟨w.heap.size, i + 1, none⟩ (.slice (some ⟨wr.heap.size + 1, 0, none⟩) l0.length l0.length)) = W2 at *
   obtain ⟨hla, hra⟩ := HF3.out.ra u hu
   have hcl : Calls Tryd.prog 36 #[.slice (some ⟨hs u, 0, none⟩) l0.length (cs u)] W2 fun e w' => ∃ v0_ : Value, e = .returned (v0_) ∧ Kd.R Kd.bool 4 w' W2.heap.size (fun _ => True) v0_ (a.getD u []) ∧ Below W2.heap.size W2 w' := by
    obtain ⟨_, hcc, hrd⟩ := Kd.R_reads' hra
    have := slices_Clone_bool_bool.calls _ _ _ _ W2 hrd hcc (if_pos (by rw [hla]; omega))
    rw [hla] at this
    exact this
   have HCL := qa.mk hcl
   have HLA := qa.mk hla
   clear hcl hla hra
   have hx1 : _ = some (Value.int .i64 (u : Int)) := qh HBX.out 1
   have hau := HF3.out.aat u hu
   have hu0 : (u : Int) < (l1.length : Int) + 1 := by omega
   have hu1' : (u : Int) < ((l1.length + 1 : Nat) : Int) := by omega
   go_upto_region 10 with (go_at_call 36; refine HCL.out.mono ?_; rintro e w4 ⟨v0, rfl, hr4, hb4⟩; obtain ⟨hh, ch, e4, hh1, hh2, _⟩ := Kd.R_form hr4 (by rw [HLA.out]; exact hm0); subst e4; rw [HLA.out]; have HF4 := qa.mk (HF3.out.below hb4); have HR4 := qa.mk hr4; have HB4 := qa.mk hb4; obtain ⟨⟨u4, hc4⟩, hf4⟩ := HF4.out.acell (i + 1) (by omega); clear hr4 hb4)
   have hgl := HFR.out.lt.1
   have HJ0 := qa.mk (show FJ w l1.length l0.length i gs hs cs o a wr.heap.size (wr.heap.size + 1) hh ch ⟨x0, (u : Int), x2, x3, x4, x5⟩ A5 c5 (List.replicate l0.length false) (a.getD u []) (w4.setCell ⟨w.heap.size + 1, i + 1, none⟩ (.slice (some ⟨hh, 0, none⟩) l0.length ch)) from
    {
     fi := HF4.out.seta (i + 1) (Nat.le_refl _) _,
     hx := qpb (qmb HBX.out HB4.out) (by have := HTW.out; dsimp only; omega) _,
     co := (World.cell?_setCell_other _ _ _ _ (fun ee => by injection ee with e1; omega)).trans ((HB4.out.cell (qwc W2 _ HCO.out)).trans HCO.out),
     ca := World.cell?_setCell_same' _ _ _ (by rw [hc4]; rfl),
     r1 := (HFR.out.frame (HB4.out.block _ hgl)).frame (Below.heap_setCell _ _ _ _ (by have := HTW.out; dsimp only; omega)),
     r2 := FRow.frame (W := w4) (Kd.R_lower HR4.out HF3.out.hb.size) (Below.heap_setCell _ _ _ _ (by have := HTW.out; dsimp only; omega)),
     l1 := List.length_replicate,
     l2 := HLA.out,
     hg := fun j hj => by have := HLT.out j hj; omega,
     g2 := by have := HTW.out; omega,
     gb := Nat.lt_succ_self _,
     gh := by omega })
   clear hc4 hf4 HB4 HR4 HF4 HCL HCO HF3 HFR HBX hx1 hau hgl
   generalize w4.setCell ⟨w.heap.size + 1, i + 1, none⟩ (.slice (some ⟨hh, 0, none⟩) l0.length ch) = w5 at *
   generalize wr.heap.size = bx at *
   go_wp2_with fail
   have HTL := qa.mk (qoc.row_len _ _ _ _ _ _ HT.out)
   go_loopg [57] (l0.length + 1) (fun kq v57 w' => ∃ (k : Nat), v57 = .int .i64 (k : Int) ∧ qa (k ≤ l0.length ∧ kq = l0.length + 1 - k) ∧ qa (qoc.row ⟨x0, (u : Int), x2, x3, x4, x5⟩ (o.getD u []) (a.getD u []) (l0.drop k) k = some (t.drop k)) ∧ qa (FJ w l1.length l0.length i gs hs cs o a bx (bx + 1) hh ch ⟨x0, (u : Int), x2, x3, x4, x5⟩ A5 c5 (part_row t l0.length k) (List.zipWith (· || ·) (a.getD u []) (part_row t l0.length k)) w'))
   case atStart =>
    refine ⟨0, rfl, ⟨Nat.zero_le _, rfl⟩, HT, ⟨?_⟩⟩
    have e0 : part_row t l0.length 0 = List.replicate l0.length false := by simp [part_row]
    have e1 := zip_false (a.getD u [])
    rw [HLA.out] at e1
    rw [e0, e1]
    exact HJ0.out
   case round =>
    clear HJ0 HT
    obtain ⟨k, rfl, HK, HRW, HJ⟩ := hrel
    obtain ⟨hk1, hk2⟩ := HK.out
    clear HK
    subst hk2
    by_cases hk : k < l0.length
    ·obtain ⟨pd, A4, c4, e, hy0, hy1, hy2, hy3, hy4, hl4, hr4⟩ := at_T41 HR0.out (k : Int) (by omega) (by omega)
     cases e
     replace hy0 := (HJ.out.fi.hb.cell (qwc w _ hy0)).trans hy0
     replace hy1 := (HJ.out.fi.hb.cell (qwc w _ hy1)).trans hy1
     replace hy2 := (HJ.out.fi.hb.cell (qwc w _ hy2)).trans hy2
     replace hy3 := (HJ.out.fi.hb.cell (qwc w _ hy3)).trans hy3
     replace hy4 := (HJ.out.fi.hb.cell (qwc w _ hy4)).trans hy4
     rw [Int.toNat_natCast] at hy0 hy1 hy2 hy3 hy4
     have hrw := HRW.out
     have hdr : l0.drop k = qu l0 (k : Int) :: l0.drop (k + 1) := by
      rw [List.drop_eq_getElem_cons hk]
      unfold qu
      rw [Int.toNat_natCast, List.getD_eq_getElem?_getD, List.getElem?_eq_getElem hk]
      rfl
     rw [hdr] at hrw
     have HR4 := qa.mk hr4
     clear hdr HRW hr4 hl4
     generalize qu l0 (k : Int) = p at *
     obtain ⟨p0, p1, p2, p3, p4⟩ := p
     dsimp only at *
     unfold qoc.row at hrw
     obtain ⟨hv, hhas, hrw⟩ := Option.bind_eq_some_iff.1 hrw
     obtain ⟨tl, htl, hrw⟩ := Option.bind_eq_some_iff.1 hrw
     have hcons := Option.some.inj hrw
     dsimp only at hcons
     have htd : t.drop k = t.getD k false :: t.drop (k + 1) := by
      have hkt : k < t.length := by rw [HTL.out]; exact hk
      rw [List.drop_eq_getElem_cons hkt, List.getD_eq_getElem?_getD, List.getElem?_eq_getElem hkt]
      rfl
     rw [htd] at hcons
     injection hcons with hb tle
     subst tle
     have HHAS := qa.mk hhas
     have HTL2 := qa.mk htl
     have HBB := qa.mk hb
     clear hhas htl hrw htd hb
     have HJ1 := qa.mk (HJ.out.below (qc (Below.refl _ _) (.cells #[.bool p0, .bool p1, .string p2, .string p3, .slice A4 p4.length c4] 41)))
     have HPB := qa.mk (blk_new wr (.cells #[.bool p0, .bool p1, .string p2, .string p3, .slice A4 p4.length c4] 41))
     have hz0 : _ = some (Value.int .i64 x0) := qh HJ1.out.hx 0
     have hz1 : _ = some (Value.int .i64 (u : Int)) := qh HJ1.out.hx 1
     have hz2 : _ = some (Value.string x2) := qh HJ1.out.hx 2
     have hz3 : _ = some (Value.string x3) := qh HJ1.out.hx 3
     have hz4 : _ = some (Value.string x4) := qh HJ1.out.hx 4
     have hz5 : _ = some (Value.slice A5 x5.length c5) := qh HJ1.out.hx 5
     go_upto_if 66 with (go_at_call 37; go_loud (refine (qgc.calls ⟨p0, p1, p2, p3, p4⟩ _ _ ⟨x0, (u : Int), x2, x3, x4, x5⟩ _ _ hv _ (Kd.C_below HR4.out HJ1.out.fi.hb) (Kd.C_below HR5.out.1 HJ1.out.fi.hb) HR5.out.2 HHAS.out).mono ?_); rintro e w2 ⟨rfl, hb2⟩; have HJ2 := qa.mk (HJ1.out.below hb2); have HP2 := qa.mk (qmb HPB.out hb2); clear hb2)
     clear hy0 hy1 hy2 hy3 hy4 hz0 hz1 hz2 hz3 hz4 hz5 HJ1 HPB HJ
     have hz1 : _ = some (Value.int .i64 (u : Int)) := qh HJ2.out.hx 1
     have hau := HJ2.out.fi.aat u hu
     have hou := HJ2.out.fi.oat u hu
     have hp0 : _ = some (Value.bool p0) := qh HP2.out 0
     have hul : (u : Int) < (l1.length : Int) + 1 := by omega
     have hul2 : (u : Int) < ((l1.length + 1 : Nat) : Int) := by omega
     go_cut [12] (fun v12 wc => ∃ bb : Bool, v12 = .bool bb ∧ qa (bb = t.getD k false) ∧ qa (FJ w l1.length l0.length i gs hs cs o a bx (bx + 1) hh ch ⟨x0, (u : Int), x2, x3, x4, x5⟩ A5 c5 (part_row t l0.length k) (List.zipWith (· || ·) (a.getD u []) (part_row t l0.length k)) wc))
     case first =>
      cases k with
      | zero =>
       have hb0 : hv = t.getD 0 false := by have := HBB.out; simpa using this
       go_wp2_with fail
       go_meet
       exact ⟨hv, rfl, ⟨hb0⟩, HJ2⟩
      | succ k =>
       have hk0 : decide (0 < ((k + 1 : Nat) : Int)) = true := by simp
       have hkm : IntKind.i64.wrap (((k + 1 : Nat) : Int) - 1) = (k : Int) := by rw [IntKind.wrap_i64]; omega
       have hkl : (k : Int) < (l0.length : Int) := by omega
       obtain ⟨hl1, hrO⟩ := HJ2.out.fi.ro u hu
       obtain ⟨hl2, hrA⟩ := HJ2.out.fi.ra u hu
       have hcO := (hrO.cell k (by omega)).1
       have hcA := (hrA.cell k (by omega)).1
       cases hv <;> cases p0
       all_goals go_wp2_with fail
       all_goals go_meet
       all_goals exact ⟨_, rfl, ⟨by rw [← HBB.out]; simp⟩, HJ2⟩
     case rest =>
      clear HJ2 hz1 hau hou hp0
      obtain ⟨bb, rfl, HBE, HJ3⟩ := hcut
      have hco := HJ3.out.co
      obtain ⟨hg1, hg2⟩ := HJ3.out.r1.cell k (by rw [HJ3.out.l1]; exact hk)
      have hkl : (k : Int) < (l0.length : Int) := by omega
      go_upto_region 20 with fail
      have hr1 := part_row_step t l0.length k HTL.out hk
      have hrl := part_row_len t l0.length k HTL.out hk1
      have hat := zip_at (a.getD u []) (part_row t l0.length k) k (by rw [HLA.out, hrl]) (part_row_at t l0.length k HTL.out hk)
      have hst := zip_set (a.getD u []) (part_row t l0.length k) k (t.getD k false) (by rw [HLA.out, hrl])
      have hj4 := HJ3.out.put1 k bb
      have hj5 := hj4.put2 k ((a.getD u []).getD k false || bb)
      rw [HBE.out, hst, hr1, ← HBE.out] at hj5
      obtain ⟨hh3, hh4⟩ := hj4.r2.cell k (by rw [hj4.l2]; exact hk)
      rw [hat] at hh3
      have hca := hj4.ca
      have HJ5 := qa.mk hj5
      clear hr1 hrl hat hst hj4 hj5 hco hg1 hg2 HJ3
      generalize wc.setCell ⟨bx + 1, k, none⟩ (.bool bb) = w6 at *
      generalize (a.getD u []).getD k false = ak at *
      have hit : ((i : Int) + 1).toNat = i + 1 := by omega
      have hca2 : w6.cell? ⟨w.heap.size + 1, ((i : Int) + 1).toNat, none⟩ = some (.slice (some ⟨hh, 0, none⟩) l0.length ch) := by rw [hit]; exact hca
      have hcd : w6.drew.cell? ⟨w.heap.size + 1, i + 1, none⟩ = some (.slice (some ⟨hh, 0, none⟩) l0.length ch) := hca
      cases ak
      ·simp only [Bool.false_or, Bool.true_or] at HJ5
       go_region
       all_goals go_wp2_with fail
       all_goals go_roundg (l0.length + 1 - (k + 1))
       all_goals first | omega | exact ⟨k + 1, by go_num, ⟨by omega, rfl⟩, HTL2, ⟨HJ5.out.below (below_drew (Below.refl _ _))⟩⟩
      ·simp only [Bool.false_or, Bool.true_or] at HJ5
       go_region
       all_goals go_wp2_with fail
       all_goals go_roundg (l0.length + 1 - (k + 1))
       all_goals first | omega | exact ⟨k + 1, by go_num, ⟨by omega, rfl⟩, HTL2, ⟨HJ5.out.below (below_drew (Below.refl _ _))⟩⟩
    ·have hke : k = l0.length := by omega
     subst hke
     have hd := HJ.out.done
     rw [part_row_last t _ HTL.out] at hd
     have HD := qa.mk hd
     clear hd HJ
     go_wp2_with fail
     go_roundg (l1.length + 1 - (i + 1))
     case measure => omega
     case rel => exact ⟨i + 1, _, _, _, _, _, by go_num, ⟨by omega, rfl⟩, HGO, HD⟩
  ·have hi2 : i = l1.length := by omega
   subst hi2
   have hgo := HGO.out
   rw [List.drop_eq_nil_of_le (Nat.le_refl _)] at hgo
   obtain rfl := Option.some.inj hgo
   clear HGO hgo
   go_wp2_with fail
   go_ret
   exact ⟨_, rfl, HFI.out.last hn, HFI.out.hb⟩
mutual
def qob.j0 : Nat → List (S41) → List (S46) → List Int → Bool → Option (List Int)
 | 0, _, _, _, _ => none
 | k + 1, x0, x1, x5, x15 => if x15 = true then (some x5) else ((qoc.f x0 x1).bind fun t281 => (qob.l0 k x0 x5 t281 (t281.length : Int) 0))
def qob.l0 : Nat → List (S41) → List Int → List (List Bool) → Int → Int → Option (List Int)
 | 0, _, _, _, _, _ => none
 | k + 1, x0, x5, x19, x20, x21 => if x21 < x20 then (if 0 ≤ x21 then (if x21 < (x19.length : Int) then (if 0 ≤ (wrap64 ((x0.length : Int) - 1)) then (if (wrap64 ((x0.length : Int) - 1)) < ((rd_L12 x19 x21).length : Int) then (if rdOf false (rd_L12 x19 x21) (wrap64 ((x0.length : Int) - 1)) = true then (if x5.length < 17592186044416 then (qob.l0 k x0 (x5 ++ [x21]) x19 x20 (wrap64 (x21 + 1))) else (none)) else (qob.l0 k x0 x5 x19 x20 (wrap64 (x21 + 1)))) else (none)) else (none)) else (none)) else (none)) else (some x5)
end
def qob.f (k : Nat) (l0 : List (S41)) (l1 : List (S46)) : Option (List Int) := (qx.f k l0).bind fun t279 => (if t279 = 0 then ((qic.f k l1).bind fun t280 => (qob.j0 k l0 l1 ([] : List Int) (t280 != 0))) else (qob.j0 k l0 l1 ([] : List Int) true))
theorem qob.mono_l : ∀ k, (∀ y0 y1 y2 y3, LeO (qob.j0 k y0 y1 y2 y3) (qob.j0 (k + 1) y0 y1 y2 y3)) ∧ (∀ y0 y1 y2 y3 y4, LeO (qob.l0 k y0 y1 y2 y3 y4) (qob.l0 (k + 1) y0 y1 y2 y3 y4))
 | 0 => ⟨fun _ _ _ _ r h => by simp [qob.j0] at h, fun _ _ _ _ _ r h => by simp [qob.l0] at h⟩
 | k + 1 => by
  obtain ⟨ih0, ih1⟩ := qob.mono_l k
  refine ⟨?_, ?_⟩
  ·intro y0 y1 y2 y3
   unfold qob.j0
   repeat' first
   | (with_reducible exact ih0 _ _ _ _)
   | (with_reducible exact ih1 _ _ _ _ _)
   | (with_reducible exact qic.mono _ _)
   | (with_reducible exact qx.mono _ _)
   | (with_reducible exact LeO.refl _)
   | (with_reducible exact LeO.none _)
   | (with_reducible refine LeO.ite ?_ ?_)
   | (with_reducible refine LeO.bind ?_ (fun _ => ?_))
   | exact ih0 _ _ _ _
   | exact ih1 _ _ _ _ _
   | exact qic.mono _ _
   | exact qx.mono _ _
   | exact LeO.none _
   | refine LeO.ite ?_ ?_
   | refine LeO.bind ?_ (fun _ => ?_)
  ·intro y0 y1 y2 y3 y4
   unfold qob.l0
   repeat' first
   | (with_reducible exact ih0 _ _ _ _)
   | (with_reducible exact ih1 _ _ _ _ _)
   | (with_reducible exact qic.mono _ _)
   | (with_reducible exact qx.mono _ _)
   | (with_reducible exact LeO.refl _)
   | (with_reducible exact LeO.none _)
   | (with_reducible refine LeO.ite ?_ ?_)
   | (with_reducible refine LeO.bind ?_ (fun _ => ?_))
   | exact ih0 _ _ _ _
   | exact ih1 _ _ _ _ _
   | exact qic.mono _ _
   | exact qx.mono _ _
   | exact LeO.none _
   | refine LeO.ite ?_ ?_
   | refine LeO.bind ?_ (fun _ => ?_)
theorem qob.mono : ∀ a0 a1 k, LeO (qob.f k a0 a1) (qob.f (k + 1) a0 a1) := by
 intro a0 a1 k
 obtain ⟨ih0, ih1⟩ := qob.mono_l k
 unfold qob.f
 repeat' first
   | (with_reducible exact ih0 _ _ _ _)
   | (with_reducible exact ih1 _ _ _ _ _)
   | (with_reducible exact qic.mono _ _)
   | (with_reducible exact qx.mono _ _)
   | (with_reducible exact LeO.refl _)
   | (with_reducible exact LeO.none _)
   | (with_reducible refine LeO.ite ?_ ?_)
   | (with_reducible refine LeO.bind ?_ (fun _ => ?_))
   | exact ih0 _ _ _ _
   | exact ih1 _ _ _ _ _
   | exact qic.mono _ _
   | exact qx.mono _ _
   | exact LeO.none _
   | refine LeO.ite ?_ ?_
   | refine LeO.bind ?_ (fun _ => ?_)
set_option maxHeartbeats 8000000 in
set_option maxRecDepth 100000 in
theorem qob.calls (k : Nat) (A0 : Option Addr) (c0 : Nat) (l0 : List (S41)) (A1 : Option Addr) (c1 : Nat) (l1 : List (S46)) (r : List Int) (w : World) (hr0 : Kd.C k41 w A0 l0.length l0) (hc0 : l0.length ≤ c0) (hr1 : Kd.C k46 w A1 l1.length l1) (hc1 : l1.length ≤ c1) (h : qob.f k l0 l1 = some r) :
  Calls Tryd.prog 12 #[.slice A0 l0.length c0, .slice A1 l1.length c1] w fun e w' => ∃ v0_ : Value, e = .returned (v0_) ∧ Kd.R (Kd.int .i64) 3 w' w.heap.size (fun _ => True) v0_ r ∧ Below w.heap.size w w' := by
 have HR0 := qa.mk hr0
 have HC0 := qa.mk hc0
 clear hr0 hc0
 have HR1 := qa.mk hr1
 have HC1 := qa.mk hc1
 clear hr1 hc1
 have HB := qa.mk (Below.refl w.heap.size w)
 have H : ((qx.f k l0).bind fun t279 => (if t279 = 0 then ((qic.f k l1).bind fun t280 => (qob.j0 k l0 l1 ([] : List Int) (t280 != 0))) else (qob.j0 k l0 l1 ([] : List Int) true))) = some r := h
 clear h
 have HC3 := qa.mk H
 clear H
 go_enter Tryd.func12, Tryd.ntmps12
 go_upto_region 2 with (fail)
 go_cut [15] (fun v15 wc => ∃ (kq : Nat) (x15_2 : Bool), v15 = .bool x15_2 ∧ qa (qob.j0 kq l0 l1 ([] : List Int) x15_2 = some r) ∧ qa (kq ≤ k) ∧ qa (Kd.R (Kd.int .i64) 3 wc w.heap.size (fun _ => True) (.slice none 0 0) ([] : List Int)) ∧ qa (Below w.heap.size w wc))
 case first =>
  have H := HC3.out
  clear HC3
  replace H := Option.bind_eq_some_iff.mp H
  obtain ⟨t279, A40, H⟩ := H
  replace H : (if t279 = 0 then ((qic.f k l1).bind fun t280 => (qob.j0 k l0 l1 ([] : List Int) (t280 != 0))) else (qob.j0 k l0 l1 ([] : List Int) true)) = some r := H
  have A4 := qa.mk A40
  clear A40
  by_cases c5 : t279 = 0
  ·rw [if_pos c5] at H
   have c5b0 : (t279 == 0) = true := beq_iff_eq.mpr c5
   have c5b1 : (t279 != 0) = false := bne_eq_false_iff_eq.mpr c5
   clear c5
   (first | rw [c5b0] | (simp only [i64_w, i32_w]; rw [c5b0]) | rw [c5b2] | skip)
   replace H := Option.bind_eq_some_iff.mp H
   obtain ⟨t280, A60, H⟩ := H
   replace H : (qob.j0 k l0 l1 ([] : List Int) (t280 != 0)) = some r := H
   have A6 := qa.mk A60
   clear A60
   have H' := qa.mk H
   clear H
   go_wp2_with (first | ((with_reducible refine qy (f := 19) rfl ?_); refine qqb (some 9) rfl rfl Tryd.func19 (by kernel_rfl) rfl #[.slice A0 l0.length c0] rfl zz94 ?_; (with_reducible refine (qx.calls k _ _ l0 t279 _ ?side1 ?side2 A4.out).mono ?_); (case side1 => exact zz123); (case side2 => exact HC0.out); rintro e w7 ⟨rfl, hb⟩; refine ⟨_, rfl, ?_⟩; have n0_ := qa.mk (qp zz53 hb); clear HB; have HB := n0_; clear n0_; (try clear hb); (try clear hb2); (try clear hk); (try clear hi)) | (go_at_call 22; (with_reducible refine (qic.calls k _ _ l1 t280 _ ?side1 ?side2 A6.out).mono ?_); (case side1 => exact zz124); (case side2 => exact HC1.out); rintro e w8 ⟨rfl, hb⟩; have n0_ := qa.mk (qp zz53 hb); clear HB; have HB := n0_; clear n0_; (try clear hb); (try clear hb2); (try clear hk); (try clear hi)))
   go_meet
   case rel => exact ⟨_, ((t280 != 0)), zz7, H', ⟨zz3⟩, ⟨zz96⟩, ⟨zz53⟩⟩
  ·rw [if_neg c5] at H
   have c5b0 : (t279 == 0) = false := beq_eq_false_iff_ne.mpr c5
   have c5b1 : (t279 != 0) = true := bne_iff_ne.mpr c5
   (first | rw [c5b0] | (simp only [i64_w, i32_w]; rw [c5b0]) | rw [c5b2] | skip)
   have H' := qa.mk H
   clear H
   go_wp2_with (first | ((with_reducible refine qy (f := 19) rfl ?_); refine qqb (some 9) rfl rfl Tryd.func19 (by kernel_rfl) rfl #[.slice A0 l0.length c0] rfl zz94 ?_; (with_reducible refine (qx.calls k _ _ l0 t279 _ ?side1 ?side2 A4.out).mono ?_); (case side1 => exact zz123); (case side2 => exact HC0.out); rintro e w9 ⟨rfl, hb⟩; refine ⟨_, rfl, ?_⟩; have n0_ := qa.mk (qp zz53 hb); clear HB; have HB := n0_; clear n0_; (try clear hb); (try clear hb2); (try clear hk); (try clear hi)))
   go_meet
   case rel => exact ⟨_, (true), zz7, H', ⟨zz3⟩, ⟨zz96⟩, ⟨zz53⟩⟩
 case rest =>
  clear HC3
  try clear c1
  try clear p2
  try clear c5
  try clear c5b0
  try clear c5b1
  try clear c5b2
  obtain ⟨kq, x15_2, rfl, HA, HJ2, HO_5, HB⟩ := hcut
  cases kq with
  | zero => exact absurd HA.out (by simp [qob.j0])
  | succ kj2 =>
   have H := HA.out
   clear HA
   simp only [qob.j0] at H
   by_cases c10 : x15_2 = true
   ·subst c10
    have H1 : (some ([] : List Int)) = some r := by rw [if_pos rfl] at H; exact H
    clear H
    have H := H1
    clear H1
    obtain rfl := Option.some.inj H
    go_wp2
    go_ret
    exact ⟨_, zz103, zz58, zz53⟩
   ·replace c10 := Bool.eq_false_iff.mpr c10
    subst c10
    have H1 : ((qoc.f l0 l1).bind fun t281 => (qob.l0 kj2 l0 ([] : List Int) t281 (t281.length : Int) 0)) = some r := by rw [if_neg (show ¬ (false = true) by decide)] at H; exact H
    clear H
    have H := H1
    clear H1
    replace H := Option.bind_eq_some_iff.mp H
    obtain ⟨t281, A110, H⟩ := H
    replace H : (qob.l0 kj2 l0 ([] : List Int) t281 (t281.length : Int) 0) = some r := H
    have A11 := qa.mk A110
    clear A110
    have H' := qa.mk H
    clear H
    go_wp2_with (first | ((with_reducible refine qy (f := 23) rfl ?_); refine qqb (some 19) rfl rfl Tryd.func23 (by kernel_rfl) rfl #[.slice A0 l0.length c0, .slice A1 l1.length c1] rfl zz94 ?_; (with_reducible refine (qoc.calls _ _ l0 _ _ l1 t281 _ ?side1 ?side2 ?side3 ?side4 A11.out).mono ?_); (case side1 => exact zz123); (case side2 => exact HC0.out); (case side3 => exact zz124); (case side4 => exact HC1.out); rintro e w12 ⟨v282, rfl, ho0, hb⟩; refine ⟨_, rfl, ?_⟩; have n0_ := qa.mk (Kd.R_below zz58 hb); have n1_ := qa.mk (Kd.S_lower ho0 (qo zz53)); have n2_ := qa.mk (qp zz53 hb); clear HO_5; clear HB; have HO_5 := n0_; have HO283 := n1_; have HB := n2_; clear n0_ n1_ n2_; (try clear hb); (try clear hb2); (try clear hk); (try clear hi); (try clear ho0); obtain ⟨Ao13, co13, eo13⟩ := Kd.S_slice HO283.out; subst eo13))
    go_loopg [5, 21] kj2 (fun kq v5 v21 w' => ∃ (x5_2 : List Int) (x21_2 : Int), v21 = .int .i64 x21_2 ∧ qa (qob.l0 kq l0 x5_2 t281 (t281.length : Int) x21_2 = some r) ∧ qa (kq ≤ kj2) ∧ qa (Kd.R (Kd.int .i64) 3 w' w.heap.size (fun _ => True) v5 x5_2) ∧ qa (Kd.S (Kd.slice 4 Kd.bool) 67 w' w.heap.size (fun _ => True) (.slice Ao13 t281.length co13) t281) ∧ qa (Below w.heap.size w w'))
    case atStart => exact ⟨(([] : List Int)), (0), zz7, H', ⟨Nat.le_refl _⟩, ⟨zz58⟩, ⟨by (with_reducible repeat (first | apply Kd.S_alloc | apply Kd.S_drewN | apply Kd.S_drew)); exact HO283.out⟩, ⟨zz53⟩⟩
    case round =>
     clear H'
     try clear c1
     try clear c2
     try clear p2
     try clear c5
     try clear c5b0
     try clear c5b1
     try clear c5b2
     try clear c10
     try clear c12
     try clear p2
     obtain ⟨x5_2, x21_2, rfl, HA, HK2, HO_5, HO_19, HB⟩ := hrel
     cases gk with
     | zero => exact absurd HA.out (by simp [qob.l0])
     | succ k2 =>
      have H := HA.out
      clear HA
      simp only [qob.l0] at H
      by_cases c14 : x21_2 < (t281.length : Int)
      ·rw [if_pos c14] at H
       have c14b0 : decide (x21_2 < (t281.length : Int)) = true := decide_eq_true c14
       clear c14
       by_cases c15 : 0 ≤ x21_2
       ·rw [if_pos c15] at H
        have c15b0 : decide (0 ≤ x21_2) = true := decide_eq_true c15
        clear c15
        by_cases c16 : x21_2 < (t281.length : Int)
        ·rw [if_pos c16] at H
         have c16b0 : decide (x21_2 < (t281.length : Int)) = true := decide_eq_true c16
         clear c16
         obtain ⟨ji17, hji17⟩ : ∃ j_ : Int, (wrap64 ((l0.length : Int) - 1)) = j_ := ⟨_, rfl⟩
         replace H : (if 0 ≤ (ji17) then (if (ji17) < ((rd_L12 t281 x21_2).length : Int) then (if rdOf false (rd_L12 t281 x21_2) (ji17) = true then (if x5_2.length < 17592186044416 then (qob.l0 k2 l0 (x5_2 ++ [x21_2]) t281 (t281.length : Int) (wrap64 (x21_2 + 1))) else (none)) else (qob.l0 k2 l0 x5_2 t281 (t281.length : Int) (wrap64 (x21_2 + 1)))) else (none)) else (none)) = some r := by first | (rw [hji17] at H; exact H) | (simp only [hji17] at H ⊢; exact H)
         have hji17w : (IntKind.i64.wrap ((l0.length : Int) - 1)) = ji17 := (i64_w _).trans hji17
         by_cases c18 : 0 ≤ (ji17)
         ·rw [if_pos c18] at H
          have c18b0 : decide (0 ≤ (ji17)) = true := decide_eq_true c18
          clear c18
          by_cases c19 : (ji17) < ((rd_L12 t281 x21_2).length : Int)
          ·rw [if_pos c19] at H
           have c19b0 : decide ((ji17) < ((rd_L12 t281 x21_2).length : Int)) = true := decide_eq_true c19
           clear c19
           obtain ⟨bq20, hbq20⟩ : ∃ b_ : Bool, b_ = (rdOf false (rd_L12 t281 x21_2) (ji17)) := ⟨_, rfl⟩
           replace H : (if bq20 = true then (if x5_2.length < 17592186044416 then (qob.l0 k2 l0 (x5_2 ++ [x21_2]) t281 (t281.length : Int) (wrap64 (x21_2 + 1))) else (none)) else (qob.l0 k2 l0 x5_2 t281 (t281.length : Int) (wrap64 (x21_2 + 1)))) = some r := by rw [← hbq20] at H; exact H
           have Nbq20 := qa.mk hbq20
           clear hbq20
           (try rw [← Nbq20.out])
           by_cases c21 : bq20 = true
           ·subst c21
            have H1 : (if x5_2.length < 17592186044416 then (qob.l0 k2 l0 (x5_2 ++ [x21_2]) t281 (t281.length : Int) (wrap64 (x21_2 + 1))) else (none)) = some r := by rw [if_pos rfl] at H; exact H
            clear H
            have H := H1
            clear H1
            by_cases c22 : x5_2.length < 17592186044416
            ·rw [if_pos c22] at H
             have LMc22 := qa.mk c22
             clear c22
             obtain ⟨y286, hy286⟩ : ∃ y_ : List Int, y_ = (x5_2 ++ [x21_2]) := ⟨_, rfl⟩
             replace H : (qob.l0 k2 l0 y286 t281 (t281.length : Int) (wrap64 (x21_2 + 1))) = some r := by first | (rw [hy286]; with_reducible exact H) | (have H2_ := (Option.bind_some _ _).symm.trans H; rw [hy286]; with_reducible exact H2_) | (have H2_ := (Option.bind_some _ _).symm.trans H; with_reducible exact H2_) | with_reducible exact H | (rw [hy286]; exact H) | exact H
             have Ny286 := qa.mk hy286
             clear hy286
             have H' := qa.mk H
             clear H
             have p284 : 0 ≤ (x21_2 : Int) := of_decide_eq_true zz12
             have q284 : x21_2 < (t281.length : Int) := of_decide_eq_true zz12
             obtain ⟨ad284, A284_0, c284_0, e284, hx284_0, hl284_0, hi284_0⟩ := at_L12 (Kd.S_reads' HO_19.out).2.2 x21_2 p284 q284
             cases e284
             obtain ⟨ce284, hce284, hMe284, hcc284⟩ := Kd.S_get HO_19.out [] x21_2 p284 zz100
             obtain ⟨ve284_0, rfl, ge284_0⟩ := hMe284
             have hv284_0 := hcc284 0 _ rfl
             rw [Nat.add_zero, show ((Kd.slice 4 Kd.bool)).sz = 1 from rfl, Nat.mul_one] at hv284_0
             replace hv284_0 := Option.some.inj (hv284_0.symm.trans hx284_0)
             rw [hv284_0] at ge284_0
             have HL284_0 := qa.mk (show Kd.R Kd.bool 4 _ _ _ _ (rd_L12 t281 x21_2) from ge284_0)
             clear hv284_0 ge284_0
             clear hcc284 hce284
             have HR284_0 := qa.mk hi284_0
             have HC284_0 := qa.mk hl284_0
             clear hi284_0 hl284_0
             replace p284 := eq_true p284
             replace q284 := eq_true q284
             have p285 : 0 ≤ ((ji17) : Int) := of_decide_eq_true zz12
             have q285 : (ji17) < ((rd_L12 t281 x21_2).length : Int) := of_decide_eq_true zz12
             obtain ⟨ad285, e285, hx285_0⟩ := Kd.at_bool zz137 (ji17) p285 q285
             (try rw [← Nbq20.out] at hx285_0)
             cases e285
             replace p285 := eq_true p285
             replace q285 := eq_true q285
             go_wp2_with (first | ((with_reducible refine gate_builtin (b := .append) (xs := #[.tmp 32, .tmp 34]) rfl ?_); at_builtin; refine Kd.R_append (Kd.int .i64) (w0 := w) w.heap.size rfl (.tmp 32) (.tmp 34) 37 3 (.int .i64 0) 8 rfl Tryd.underlying37 info3 rfl (by decide) (by omega) u5 x5_2 x21_2 [.int .i64 x21_2] (fun _ => True) (fun _ => False) rfl rfl ?aP (fun _ hk => hk.elim) ?aF ?aO ?aB ?aS ?aL ?_; (case aP => exact rfl); (case aB => exact zz53); (case aF => exact (fun _ _ => trivial)); (case aO => exact zz58); (case aS => exact (qo zz53)); (case aL => have := LMc22.out; omega); intro v287 w23 ho hb hg hat; rw [← Ny286.out] at ho; have n0_ := qa.mk (Kd.S_over' zz62 (Kd.R_typed zz58) (by decide) hg); have n1_ := qa.mk (Kd.R_over' (by (with_reducible repeat (first | apply Kd.R_alloc | apply Kd.R_drewN | apply Kd.R_drew)); exact HL284_0.out) (Kd.R_typed zz58) (by decide) hg); have n2_ := qa.mk (hb); have n3_ := qa.mk (ho); clear HO_19; clear HL284_0; clear HB; clear HO_5; have HO_19 := n0_; have HL284_0 := n1_; have HB := n2_; have HO288 := n3_; clear n0_ n1_ n2_ n3_; clear ho hb hg hat))
             go_roundg k2
             case measure => have := HJ2.out; have := HK2.out; omega
             case rel => (try rw [← Nbq20.out]); exact ⟨(y286), (wrap64 (x21_2 + 1)), zz7, H', ⟨zz5⟩, ⟨by (with_reducible repeat (first | apply Kd.R_alloc | apply Kd.R_drewN | apply Kd.R_drew)); exact HO288.out⟩, ⟨zz62⟩, ⟨zz53⟩⟩
            ·rw [if_neg c22] at H
             exact absurd H (by simp)
           ·replace c21 := Bool.eq_false_iff.mpr c21
            subst c21
            have H1 : (qob.l0 k2 l0 x5_2 t281 (t281.length : Int) (wrap64 (x21_2 + 1))) = some r := by rw [if_neg (show ¬ (false = true) by decide)] at H; exact H
            clear H
            have H := H1
            clear H1
            have H' := qa.mk H
            clear H
            have p284 : 0 ≤ (x21_2 : Int) := of_decide_eq_true zz12
            have q284 : x21_2 < (t281.length : Int) := of_decide_eq_true zz12
            obtain ⟨ad284, A284_0, c284_0, e284, hx284_0, hl284_0, hi284_0⟩ := at_L12 (Kd.S_reads' HO_19.out).2.2 x21_2 p284 q284
            cases e284
            obtain ⟨ce284, hce284, hMe284, hcc284⟩ := Kd.S_get HO_19.out [] x21_2 p284 zz100
            obtain ⟨ve284_0, rfl, ge284_0⟩ := hMe284
            have hv284_0 := hcc284 0 _ rfl
            rw [Nat.add_zero, show ((Kd.slice 4 Kd.bool)).sz = 1 from rfl, Nat.mul_one] at hv284_0
            replace hv284_0 := Option.some.inj (hv284_0.symm.trans hx284_0)
            rw [hv284_0] at ge284_0
            have HL284_0 := qa.mk (show Kd.R Kd.bool 4 _ _ _ _ (rd_L12 t281 x21_2) from ge284_0)
            clear hv284_0 ge284_0
            clear hcc284 hce284
            have HR284_0 := qa.mk hi284_0
            have HC284_0 := qa.mk hl284_0
            clear hi284_0 hl284_0
            replace p284 := eq_true p284
            replace q284 := eq_true q284
            have p285 : 0 ≤ ((ji17) : Int) := of_decide_eq_true zz12
            have q285 : (ji17) < ((rd_L12 t281 x21_2).length : Int) := of_decide_eq_true zz12
            obtain ⟨ad285, e285, hx285_0⟩ := Kd.at_bool zz137 (ji17) p285 q285
            (try rw [← Nbq20.out] at hx285_0)
            cases e285
            replace p285 := eq_true p285
            replace q285 := eq_true q285
            go_wp2
            go_roundg k2
            case measure => have := HJ2.out; have := HK2.out; omega
            case rel => (try rw [← Nbq20.out]); exact ⟨(x5_2), (wrap64 (x21_2 + 1)), zz7, H', ⟨zz5⟩, ⟨zz58⟩, ⟨zz62⟩, ⟨zz53⟩⟩
          ·rw [if_neg c19] at H
           exact absurd H (by simp)
         ·rw [if_neg c18] at H
          exact absurd H (by simp)
        ·rw [if_neg c16] at H
         exact absurd H (by simp)
       ·rw [if_neg c15] at H
        exact absurd H (by simp)
      ·rw [if_neg c14] at H
       have c14b0 : decide (x21_2 < (t281.length : Int)) = false := decide_eq_false c14
       clear c14
       obtain rfl := Option.some.inj H
       go_wp2
       go_ret
       exact ⟨_, zz103, zz58, zz53⟩
def qnb.l0 : Nat → List Int → List Int → Int → Int → Option (Bool)
 | 0, _, _, _, _ => none
 | k + 1, x0, x1, x12, x13 => if x13 < x12 then (if 0 ≤ x13 then (if x13 < (x0.length : Int) then (if x13 < (x1.length : Int) then (if (rd x0 x13) = (rd x1 x13) then (qnb.l0 k x0 x1 x12 (wrap64 (x13 + 1))) else (some false)) else (none)) else (none)) else (none)) else (some true)
def qnb.f (k : Nat) (l0 : List Int) (l1 : List Int) : Option (Bool) := if (l0.length : Int) = (l1.length : Int) then (qnb.l0 k l0 l1 (l0.length : Int) 0) else (some false)
theorem qnb.mono_l : ∀ k, (∀ y0 y1 y2 y3, LeO (qnb.l0 k y0 y1 y2 y3) (qnb.l0 (k + 1) y0 y1 y2 y3))
 | 0 => fun _ _ _ _ r h => by simp [qnb.l0] at h
 | k + 1 => by
  have ih0 := qnb.mono_l k
  ·intro y0 y1 y2 y3
   unfold qnb.l0
   repeat' first
   | (with_reducible exact ih0 _ _ _ _)
   | (with_reducible exact LeO.refl _)
   | (with_reducible exact LeO.none _)
   | (with_reducible refine LeO.ite ?_ ?_)
   | (with_reducible refine LeO.bind ?_ (fun _ => ?_))
   | exact ih0 _ _ _ _
   | exact LeO.none _
   | refine LeO.ite ?_ ?_
   | refine LeO.bind ?_ (fun _ => ?_)
theorem qnb.mono : ∀ a0 a1 k, LeO (qnb.f k a0 a1) (qnb.f (k + 1) a0 a1) := by
 intro a0 a1 k
 have ih0 := qnb.mono_l k
 unfold qnb.f
 repeat' first
   | (with_reducible exact ih0 _ _ _ _)
   | (with_reducible exact LeO.refl _)
   | (with_reducible exact LeO.none _)
   | (with_reducible refine LeO.ite ?_ ?_)
   | (with_reducible refine LeO.bind ?_ (fun _ => ?_))
   | exact ih0 _ _ _ _
   | exact LeO.none _
   | refine LeO.ite ?_ ?_
   | refine LeO.bind ?_ (fun _ => ?_)
set_option maxHeartbeats 8000000 in
set_option maxRecDepth 100000 in
theorem qnb.calls (k : Nat) (A0 : Option Addr) (c0 : Nat) (l0 : List Int) (A1 : Option Addr) (c1 : Nat) (l1 : List Int) (r : Bool) (w : World) (hr0 : Kd.C (Kd.int .i64) w A0 l0.length l0) (hc0 : l0.length ≤ c0) (hr1 : Kd.C (Kd.int .i64) w A1 l1.length l1) (hc1 : l1.length ≤ c1) (h : qnb.f k l0 l1 = some r) :
  Calls Tryd.prog 15 #[.slice A0 l0.length c0, .slice A1 l1.length c1] w fun e w' => e = .returned (.bool r) ∧ Drawn0 w w' := by
 have HR0 := qa.mk hr0
 have HC0 := qa.mk hc0
 clear hr0 hc0
 have HR1 := qa.mk hr1
 have HC1 := qa.mk hc1
 clear hr1 hc1
 have H : (if (l0.length : Int) = (l1.length : Int) then (qnb.l0 k l0 l1 (l0.length : Int) 0) else (some false)) = some r := h
 clear h
 by_cases c3 : (l0.length : Int) = (l1.length : Int)
 ·rw [if_pos c3] at H
  have c3b0 : ((l0.length : Int) == (l1.length : Int)) = true := beq_iff_eq.mpr c3
  have c3b1 : ((l0.length : Int) != (l1.length : Int)) = false := bne_eq_false_iff_eq.mpr c3
  have c3b2 : (l0.length == l1.length) = true := by first | simpa using c3 | (simp at c3 ⊢; omega)
  clear c3
  have H' := qa.mk H
  clear H
  go_enter Tryd.func15, Tryd.ntmps15
  go_wp2
  repeat (go_quiet (fail); try go_wp2)
  go_loopg [13] k (fun kq v13 w' => ∃ (x13_1 : Int), v13 = .int .i64 x13_1 ∧ qa (qnb.l0 kq l0 l1 (l0.length : Int) x13_1 = some r) ∧ qa (kq ≤ k) ∧ Drawn0 w w')
  case atStart => exact ⟨(0), zz7, H', ⟨Nat.le_refl _⟩, zz14⟩
  case round =>
   clear H'
   try clear c1
   try clear p2
   try clear c3
   try clear c3b0
   try clear c3b1
   try clear c3b2
   obtain ⟨x13_1, rfl, HA, HK1, ⟨m1, rfl⟩⟩ := hrel
   cases gk with
   | zero => exact absurd HA.out (by simp [qnb.l0])
   | succ k1 =>
    have H := HA.out
    clear HA
    simp only [qnb.l0] at H
    by_cases c4 : x13_1 < (l0.length : Int)
    ·rw [if_pos c4] at H
     have c4b0 : decide (x13_1 < (l0.length : Int)) = true := decide_eq_true c4
     clear c4
     by_cases c5 : 0 ≤ x13_1
     ·rw [if_pos c5] at H
      have c5b0 : decide (0 ≤ x13_1) = true := decide_eq_true c5
      clear c5
      by_cases c6 : x13_1 < (l0.length : Int)
      ·rw [if_pos c6] at H
       have c6b0 : decide (x13_1 < (l0.length : Int)) = true := decide_eq_true c6
       clear c6
       by_cases c7 : x13_1 < (l1.length : Int)
       ·rw [if_pos c7] at H
        have c7b0 : decide (x13_1 < (l1.length : Int)) = true := decide_eq_true c7
        clear c7
        by_cases c8 : (rd l0 x13_1) = (rd l1 x13_1)
        ·rw [if_pos c8] at H
         have c8b0 : ((rd l0 x13_1) == (rd l1 x13_1)) = true := beq_iff_eq.mpr c8
         have c8b1 : ((rd l0 x13_1) != (rd l1 x13_1)) = false := bne_eq_false_iff_eq.mpr c8
         clear c8
         have H' := qa.mk H
         clear H
         have p289 : 0 ≤ (x13_1 : Int) := of_decide_eq_true zz12
         have q289 : x13_1 < (l0.length : Int) := of_decide_eq_true zz12
         obtain ⟨ad289, e289, hx289_0⟩ := Kd.at_int HR0.out x13_1 p289 q289
         cases e289
         replace p289 := eq_true p289
         replace q289 := eq_true q289
         have p290 : 0 ≤ (x13_1 : Int) := of_decide_eq_true zz12
         have q290 : x13_1 < (l1.length : Int) := of_decide_eq_true zz12
         obtain ⟨ad290, e290, hx290_0⟩ := Kd.at_int HR1.out x13_1 p290 q290
         cases e290
         replace p290 := eq_true p290
         replace q290 := eq_true q290
         go_wp2
         repeat (go_quiet (fail); try go_wp2)
         go_roundg k1
         case measure => have := HK1.out; omega
         case rel => exact ⟨(wrap64 (x13_1 + 1)), zz7, H', ⟨zz2⟩, zz14⟩
        ·rw [if_neg c8] at H
         have c8b0 : ((rd l0 x13_1) == (rd l1 x13_1)) = false := beq_eq_false_iff_ne.mpr c8
         have c8b1 : ((rd l0 x13_1) != (rd l1 x13_1)) = true := bne_iff_ne.mpr c8
         obtain rfl := Option.some.inj H
         have p289 : 0 ≤ (x13_1 : Int) := of_decide_eq_true zz12
         have q289 : x13_1 < (l0.length : Int) := of_decide_eq_true zz12
         obtain ⟨ad289, e289, hx289_0⟩ := Kd.at_int HR0.out x13_1 p289 q289
         cases e289
         replace p289 := eq_true p289
         replace q289 := eq_true q289
         have p290 : 0 ≤ (x13_1 : Int) := of_decide_eq_true zz12
         have q290 : x13_1 < (l1.length : Int) := of_decide_eq_true zz12
         obtain ⟨ad290, e290, hx290_0⟩ := Kd.at_int HR1.out x13_1 p290 q290
         cases e290
         replace p290 := eq_true p290
         replace q290 := eq_true q290
         go_wp2
         repeat (go_quiet (fail); try go_wp2)
         go_ret
         exact ⟨zz7, zz14⟩
       ·rw [if_neg c7] at H
        exact absurd H (by simp)
      ·rw [if_neg c6] at H
       exact absurd H (by simp)
     ·rw [if_neg c5] at H
      exact absurd H (by simp)
    ·rw [if_neg c4] at H
     have c4b0 : decide (x13_1 < (l0.length : Int)) = false := decide_eq_false c4
     clear c4
     obtain rfl := Option.some.inj H
     go_wp2
     repeat (go_quiet (fail); try go_wp2)
     go_ret
     exact ⟨zz7, zz14⟩
 ·rw [if_neg c3] at H
  have c3b0 : ((l0.length : Int) == (l1.length : Int)) = false := beq_eq_false_iff_ne.mpr c3
  have c3b1 : ((l0.length : Int) != (l1.length : Int)) = true := bne_iff_ne.mpr c3
  have c3b2 : (l0.length == l1.length) = false := by first | simpa using c3 | (simp at c3 ⊢; omega)
  obtain rfl := Option.some.inj H
  go_enter Tryd.func15, Tryd.ntmps15
  go_wp2
  repeat (go_quiet (fail); try go_wp2)
  go_ret
  exact ⟨zz7, zz14⟩
mutual
def qbb.j0 : Nat → List (S41) → List (S46) → Int → Bool → Option (Int)
 | 0, _, _, _, _ => none
 | k + 1, x0, x1, x2, x25 => if x25 = true then (some 0) else ((qoc.f x0 x1).bind fun t293 => (qbb.l0 k x0 x1 x2 t293))
def qbb.l0 : Nat → List (S41) → List (S46) → Int → List (List Bool) → Option (Int)
 | 0, _, _, _, _ => none
 | k + 1, x0, x1, x2, x7 => if x2 > 0 then (if 0 ≤ x2 then (if x2 < (x7.length : Int) then (if 0 ≤ (wrap64 ((x0.length : Int) - 1)) then (if (wrap64 ((x0.length : Int) - 1)) < ((rd_L12 x7 x2).length : Int) then (if rdOf false (rd_L12 x7 x2) (wrap64 ((x0.length : Int) - 1)) = true then (some x2) else (if 0 ≤ (wrap64 (x2 - 1)) then (if (wrap64 (x2 - 1)) < (x1.length : Int) then (qbb.l0 k x0 x1 ((qi x1 (wrap64 (x2 - 1))).f1) x7) else (none)) else (none))) else (none)) else (none)) else (none)) else (none)) else (some 0)
end
def qbb.f (k : Nat) (l0 : List (S41)) (l1 : List (S46)) (a2 : Int) : Option (Int) := (qx.f k l0).bind fun t291 => (if t291 = 0 then ((qic.f k l1).bind fun t292 => (if t292 = 0 then (if a2 < 1 then (qbb.j0 k l0 l1 a2 true) else (qbb.j0 k l0 l1 a2 (decide (a2 > (l1.length : Int))))) else (qbb.j0 k l0 l1 a2 true))) else (qbb.j0 k l0 l1 a2 true))
theorem qbb.mono_l : ∀ k, (∀ y0 y1 y2 y3, LeO (qbb.j0 k y0 y1 y2 y3) (qbb.j0 (k + 1) y0 y1 y2 y3)) ∧ (∀ y0 y1 y2 y3, LeO (qbb.l0 k y0 y1 y2 y3) (qbb.l0 (k + 1) y0 y1 y2 y3))
 | 0 => ⟨fun _ _ _ _ r h => by simp [qbb.j0] at h, fun _ _ _ _ r h => by simp [qbb.l0] at h⟩
 | k + 1 => by
  obtain ⟨ih0, ih1⟩ := qbb.mono_l k
  refine ⟨?_, ?_⟩
  ·intro y0 y1 y2 y3
   unfold qbb.j0
   repeat' first
   | (with_reducible exact ih0 _ _ _ _)
   | (with_reducible exact ih1 _ _ _ _)
   | (with_reducible exact qic.mono _ _)
   | (with_reducible exact qx.mono _ _)
   | (with_reducible exact LeO.refl _)
   | (with_reducible exact LeO.none _)
   | (with_reducible refine LeO.ite ?_ ?_)
   | (with_reducible refine LeO.bind ?_ (fun _ => ?_))
   | exact ih0 _ _ _ _
   | exact ih1 _ _ _ _
   | exact qic.mono _ _
   | exact qx.mono _ _
   | exact LeO.none _
   | refine LeO.ite ?_ ?_
   | refine LeO.bind ?_ (fun _ => ?_)
  ·intro y0 y1 y2 y3
   unfold qbb.l0
   repeat' first
   | (with_reducible exact ih0 _ _ _ _)
   | (with_reducible exact ih1 _ _ _ _)
   | (with_reducible exact qic.mono _ _)
   | (with_reducible exact qx.mono _ _)
   | (with_reducible exact LeO.refl _)
   | (with_reducible exact LeO.none _)
   | (with_reducible refine LeO.ite ?_ ?_)
   | (with_reducible refine LeO.bind ?_ (fun _ => ?_))
   | exact ih0 _ _ _ _
   | exact ih1 _ _ _ _
   | exact qic.mono _ _
   | exact qx.mono _ _
   | exact LeO.none _
   | refine LeO.ite ?_ ?_
   | refine LeO.bind ?_ (fun _ => ?_)
theorem qbb.mono : ∀ a0 a1 a2 k, LeO (qbb.f k a0 a1 a2) (qbb.f (k + 1) a0 a1 a2) := by
 intro a0 a1 a2 k
 obtain ⟨ih0, ih1⟩ := qbb.mono_l k
 unfold qbb.f
 repeat' first
   | (with_reducible exact ih0 _ _ _ _)
   | (with_reducible exact ih1 _ _ _ _)
   | (with_reducible exact qic.mono _ _)
   | (with_reducible exact qx.mono _ _)
   | (with_reducible exact LeO.refl _)
   | (with_reducible exact LeO.none _)
   | (with_reducible refine LeO.ite ?_ ?_)
   | (with_reducible refine LeO.bind ?_ (fun _ => ?_))
   | exact ih0 _ _ _ _
   | exact ih1 _ _ _ _
   | exact qic.mono _ _
   | exact qx.mono _ _
   | exact LeO.none _
   | refine LeO.ite ?_ ?_
   | refine LeO.bind ?_ (fun _ => ?_)
set_option maxHeartbeats 8000000 in
set_option maxRecDepth 100000 in
theorem qbb.calls (k : Nat) (A0 : Option Addr) (c0 : Nat) (l0 : List (S41)) (A1 : Option Addr) (c1 : Nat) (l1 : List (S46)) (a2 : Int) (r : Int) (w : World) (hr0 : Kd.C k41 w A0 l0.length l0) (hc0 : l0.length ≤ c0) (hr1 : Kd.C k46 w A1 l1.length l1) (hc1 : l1.length ≤ c1) (h : qbb.f k l0 l1 a2 = some r) :
  Calls Tryd.prog 16 #[.slice A0 l0.length c0, .slice A1 l1.length c1, .int .i64 a2] w fun e w' => e = .returned (.int .i64 r) ∧ Below w.heap.size w w' := by
 have HR0 := qa.mk hr0
 have HC0 := qa.mk hc0
 clear hr0 hc0
 have HR1 := qa.mk hr1
 have HC1 := qa.mk hc1
 clear hr1 hc1
 have HB := qa.mk (Below.refl w.heap.size w)
 have H : ((qx.f k l0).bind fun t291 => (if t291 = 0 then ((qic.f k l1).bind fun t292 => (if t292 = 0 then (if a2 < 1 then (qbb.j0 k l0 l1 a2 true) else (qbb.j0 k l0 l1 a2 (decide (a2 > (l1.length : Int))))) else (qbb.j0 k l0 l1 a2 true))) else (qbb.j0 k l0 l1 a2 true))) = some r := h
 clear h
 have HC4 := qa.mk H
 clear H
 go_enter Tryd.func16, Tryd.ntmps16
 go_upto_region 1 with (fail)
 go_cut [25] (fun v25 wc => ∃ (kq : Nat) (x25_3 : Bool), v25 = .bool x25_3 ∧ qa (qbb.j0 kq l0 l1 a2 x25_3 = some r) ∧ qa (kq ≤ k) ∧ qa (Below w.heap.size w wc))
 case first =>
  have H := HC4.out
  clear HC4
  replace H := Option.bind_eq_some_iff.mp H
  obtain ⟨t291, A50, H⟩ := H
  replace H : (if t291 = 0 then ((qic.f k l1).bind fun t292 => (if t292 = 0 then (if a2 < 1 then (qbb.j0 k l0 l1 a2 true) else (qbb.j0 k l0 l1 a2 (decide (a2 > (l1.length : Int))))) else (qbb.j0 k l0 l1 a2 true))) else (qbb.j0 k l0 l1 a2 true)) = some r := H
  have A5 := qa.mk A50
  clear A50
  by_cases c6 : t291 = 0
  ·rw [if_pos c6] at H
   have c6b0 : (t291 == 0) = true := beq_iff_eq.mpr c6
   have c6b1 : (t291 != 0) = false := bne_eq_false_iff_eq.mpr c6
   clear c6
   (first | rw [c6b0] | (simp only [i64_w, i32_w]; rw [c6b0]) | rw [c6b2] | skip)
   replace H := Option.bind_eq_some_iff.mp H
   obtain ⟨t292, A70, H⟩ := H
   replace H : (if t292 = 0 then (if a2 < 1 then (qbb.j0 k l0 l1 a2 true) else (qbb.j0 k l0 l1 a2 (decide (a2 > (l1.length : Int))))) else (qbb.j0 k l0 l1 a2 true)) = some r := H
   have A7 := qa.mk A70
   clear A70
   by_cases c8 : t292 = 0
   ·rw [if_pos c8] at H
    have c8b0 : (t292 == 0) = true := beq_iff_eq.mpr c8
    have c8b1 : (t292 != 0) = false := bne_eq_false_iff_eq.mpr c8
    clear c8
    by_cases c9 : a2 < 1
    ·rw [if_pos c9] at H
     have c9b0 : decide (a2 < 1) = true := decide_eq_true c9
     clear c9
     have H' := qa.mk H
     clear H
     go_wp2_with (first | ((with_reducible refine qy (f := 19) rfl ?_); refine qqb (some 9) rfl rfl Tryd.func19 (by kernel_rfl) rfl #[.slice A0 l0.length c0] rfl zz94 ?_; (with_reducible refine (qx.calls k _ _ l0 t291 _ ?side1 ?side2 A5.out).mono ?_); (case side1 => exact zz123); (case side2 => exact HC0.out); rintro e w10 ⟨rfl, hb⟩; refine ⟨_, rfl, ?_⟩; have n0_ := qa.mk (qp zz53 hb); clear HB; have HB := n0_; clear n0_; (try clear hb); (try clear hb2); (try clear hk); (try clear hi)) | (go_at_call 22; (with_reducible refine (qic.calls k _ _ l1 t292 _ ?side1 ?side2 A7.out).mono ?_); (case side1 => exact zz124); (case side2 => exact HC1.out); rintro e w11 ⟨rfl, hb⟩; have n0_ := qa.mk (qp zz53 hb); clear HB; have HB := n0_; clear n0_; (try clear hb); (try clear hb2); (try clear hk); (try clear hi)))
     go_meet
     case rel => exact ⟨_, (true), zz7, H', ⟨zz3⟩, ⟨zz53⟩⟩
    ·rw [if_neg c9] at H
     have c9b0 : decide (a2 < 1) = false := decide_eq_false c9
     clear c9
     have H' := qa.mk H
     clear H
     go_wp2_with (first | ((with_reducible refine qy (f := 19) rfl ?_); refine qqb (some 9) rfl rfl Tryd.func19 (by kernel_rfl) rfl #[.slice A0 l0.length c0] rfl zz94 ?_; (with_reducible refine (qx.calls k _ _ l0 t291 _ ?side1 ?side2 A5.out).mono ?_); (case side1 => exact zz123); (case side2 => exact HC0.out); rintro e w12 ⟨rfl, hb⟩; refine ⟨_, rfl, ?_⟩; have n0_ := qa.mk (qp zz53 hb); clear HB; have HB := n0_; clear n0_; (try clear hb); (try clear hb2); (try clear hk); (try clear hi)) | (go_at_call 22; (with_reducible refine (qic.calls k _ _ l1 t292 _ ?side1 ?side2 A7.out).mono ?_); (case side1 => exact zz124); (case side2 => exact HC1.out); rintro e w13 ⟨rfl, hb⟩; have n0_ := qa.mk (qp zz53 hb); clear HB; have HB := n0_; clear n0_; (try clear hb); (try clear hb2); (try clear hk); (try clear hi)))
     go_meet
     case rel => exact ⟨_, (decide (a2 > (l1.length : Int))), zz7, H', ⟨zz3⟩, ⟨zz53⟩⟩
   ·rw [if_neg c8] at H
    have c8b0 : (t292 == 0) = false := beq_eq_false_iff_ne.mpr c8
    have c8b1 : (t292 != 0) = true := bne_iff_ne.mpr c8
    have H' := qa.mk H
    clear H
    go_wp2_with (first | ((with_reducible refine qy (f := 19) rfl ?_); refine qqb (some 9) rfl rfl Tryd.func19 (by kernel_rfl) rfl #[.slice A0 l0.length c0] rfl zz94 ?_; (with_reducible refine (qx.calls k _ _ l0 t291 _ ?side1 ?side2 A5.out).mono ?_); (case side1 => exact zz123); (case side2 => exact HC0.out); rintro e w14 ⟨rfl, hb⟩; refine ⟨_, rfl, ?_⟩; have n0_ := qa.mk (qp zz53 hb); clear HB; have HB := n0_; clear n0_; (try clear hb); (try clear hb2); (try clear hk); (try clear hi)) | (go_at_call 22; (with_reducible refine (qic.calls k _ _ l1 t292 _ ?side1 ?side2 A7.out).mono ?_); (case side1 => exact zz124); (case side2 => exact HC1.out); rintro e w15 ⟨rfl, hb⟩; have n0_ := qa.mk (qp zz53 hb); clear HB; have HB := n0_; clear n0_; (try clear hb); (try clear hb2); (try clear hk); (try clear hi)))
    go_meet
    case rel => exact ⟨_, (true), zz7, H', ⟨zz3⟩, ⟨zz53⟩⟩
  ·rw [if_neg c6] at H
   have c6b0 : (t291 == 0) = false := beq_eq_false_iff_ne.mpr c6
   have c6b1 : (t291 != 0) = true := bne_iff_ne.mpr c6
   (first | rw [c6b0] | (simp only [i64_w, i32_w]; rw [c6b0]) | rw [c6b2] | skip)
   have H' := qa.mk H
   clear H
   go_wp2_with (first | ((with_reducible refine qy (f := 19) rfl ?_); refine qqb (some 9) rfl rfl Tryd.func19 (by kernel_rfl) rfl #[.slice A0 l0.length c0] rfl zz94 ?_; (with_reducible refine (qx.calls k _ _ l0 t291 _ ?side1 ?side2 A5.out).mono ?_); (case side1 => exact zz123); (case side2 => exact HC0.out); rintro e w16 ⟨rfl, hb⟩; refine ⟨_, rfl, ?_⟩; have n0_ := qa.mk (qp zz53 hb); clear HB; have HB := n0_; clear n0_; (try clear hb); (try clear hb2); (try clear hk); (try clear hi)))
   go_meet
   case rel => exact ⟨_, (true), zz7, H', ⟨zz3⟩, ⟨zz53⟩⟩
 case rest =>
  clear HC4
  try clear c1
  try clear p2
  try clear c6
  try clear c6b0
  try clear c6b1
  try clear c6b2
  try clear c8
  try clear c8b0
  try clear c8b1
  try clear c9
  try clear c9b0
  try clear c16
  obtain ⟨kq, x25_3, rfl, HA, HJ3, HB⟩ := hcut
  cases kq with
  | zero => exact absurd HA.out (by simp [qbb.j0])
  | succ kj3 =>
   have H := HA.out
   clear HA
   simp only [qbb.j0] at H
   by_cases c17 : x25_3 = true
   ·subst c17
    have H1 : (some 0) = some r := by rw [if_pos rfl] at H; exact H
    clear H
    have H := H1
    clear H1
    obtain rfl := Option.some.inj H
    go_wp2
    go_ret
    exact ⟨zz103, zz53⟩
   ·replace c17 := Bool.eq_false_iff.mpr c17
    subst c17
    have H1 : ((qoc.f l0 l1).bind fun t293 => (qbb.l0 kj3 l0 l1 a2 t293)) = some r := by rw [if_neg (show ¬ (false = true) by decide)] at H; exact H
    clear H
    have H := H1
    clear H1
    replace H := Option.bind_eq_some_iff.mp H
    obtain ⟨t293, A180, H⟩ := H
    replace H : (qbb.l0 kj3 l0 l1 a2 t293) = some r := H
    have A18 := qa.mk A180
    clear A180
    have H' := qa.mk H
    clear H
    go_wp2_with (first | ((with_reducible refine qy (f := 23) rfl ?_); refine qqb (some 28) rfl rfl Tryd.func23 (by kernel_rfl) rfl #[.slice A0 l0.length c0, .slice A1 l1.length c1] rfl zz94 ?_; (with_reducible refine (qoc.calls _ _ l0 _ _ l1 t293 _ ?side1 ?side2 ?side3 ?side4 A18.out).mono ?_); (case side1 => exact zz123); (case side2 => exact HC0.out); (case side3 => exact zz124); (case side4 => exact HC1.out); rintro e w19 ⟨v294, rfl, ho0, hb⟩; refine ⟨_, rfl, ?_⟩; have n0_ := qa.mk (Kd.S_lower ho0 (qo zz53)); have n1_ := qa.mk (qp zz53 hb); clear HB; have HO295 := n0_; have HB := n1_; clear n0_ n1_; (try clear hb); (try clear hb2); (try clear hk); (try clear hi); (try clear ho0)))
    go_loopg [2] kj3 (fun kq v2 w' => ∃ (x2_2 : Int), v2 = .int .i64 x2_2 ∧ qa (qbb.l0 kq l0 l1 x2_2 t293 = some r) ∧ qa (kq ≤ kj3) ∧ qa (Kd.S (Kd.slice 4 Kd.bool) 67 w' w.heap.size (fun _ => True) v294 t293) ∧ qa (Below w.heap.size w w'))
    case atStart => exact ⟨(a2), zz7, H', ⟨Nat.le_refl _⟩, ⟨by (with_reducible repeat (first | apply Kd.S_alloc | apply Kd.S_drewN | apply Kd.S_drew)); exact HO295.out⟩, ⟨zz53⟩⟩
    case round =>
     clear H'
     try clear c1
     try clear c2
     try clear p2
     try clear c6
     try clear c6b0
     try clear c6b1
     try clear c6b2
     try clear c8
     try clear c8b0
     try clear c8b1
     try clear c9
     try clear c9b0
     try clear c16
     try clear c17
     try clear c19
     try clear p2
     obtain ⟨x2_2, rfl, HA, HK2, HO_7, HB⟩ := hrel
     cases gk with
     | zero => exact absurd HA.out (by simp [qbb.l0])
     | succ k2 =>
      have H := HA.out
      clear HA
      simp only [qbb.l0] at H
      by_cases c20 : x2_2 > 0
      ·rw [if_pos c20] at H
       have c20b0 : decide (0 < x2_2) = true := decide_eq_true c20
       clear c20
       by_cases c21 : 0 ≤ x2_2
       ·rw [if_pos c21] at H
        have c21b0 : decide (0 ≤ x2_2) = true := decide_eq_true c21
        clear c21
        by_cases c22 : x2_2 < (t293.length : Int)
        ·rw [if_pos c22] at H
         have c22b0 : decide (x2_2 < (t293.length : Int)) = true := decide_eq_true c22
         clear c22
         obtain ⟨ji23, hji23⟩ : ∃ j_ : Int, (wrap64 ((l0.length : Int) - 1)) = j_ := ⟨_, rfl⟩
         replace H : (if 0 ≤ (ji23) then (if (ji23) < ((rd_L12 t293 x2_2).length : Int) then (if rdOf false (rd_L12 t293 x2_2) (ji23) = true then (some x2_2) else (if 0 ≤ (wrap64 (x2_2 - 1)) then (if (wrap64 (x2_2 - 1)) < (l1.length : Int) then (qbb.l0 k2 l0 l1 ((qi l1 (wrap64 (x2_2 - 1))).f1) t293) else (none)) else (none))) else (none)) else (none)) = some r := by first | (rw [hji23] at H; exact H) | (simp only [hji23] at H ⊢; exact H)
         have hji23w : (IntKind.i64.wrap ((l0.length : Int) - 1)) = ji23 := (i64_w _).trans hji23
         by_cases c24 : 0 ≤ (ji23)
         ·rw [if_pos c24] at H
          have c24b0 : decide (0 ≤ (ji23)) = true := decide_eq_true c24
          clear c24
          by_cases c25 : (ji23) < ((rd_L12 t293 x2_2).length : Int)
          ·rw [if_pos c25] at H
           have c25b0 : decide ((ji23) < ((rd_L12 t293 x2_2).length : Int)) = true := decide_eq_true c25
           clear c25
           obtain ⟨bq26, hbq26⟩ : ∃ b_ : Bool, b_ = (rdOf false (rd_L12 t293 x2_2) (ji23)) := ⟨_, rfl⟩
           replace H : (if bq26 = true then (some x2_2) else (if 0 ≤ (wrap64 (x2_2 - 1)) then (if (wrap64 (x2_2 - 1)) < (l1.length : Int) then (qbb.l0 k2 l0 l1 ((qi l1 (wrap64 (x2_2 - 1))).f1) t293) else (none)) else (none))) = some r := by rw [← hbq26] at H; exact H
           have Nbq26 := qa.mk hbq26
           clear hbq26
           (try rw [← Nbq26.out])
           by_cases c27 : bq26 = true
           ·subst c27
            have H1 : (some x2_2) = some r := by rw [if_pos rfl] at H; exact H
            clear H
            have H := H1
            clear H1
            obtain rfl := Option.some.inj H
            obtain ⟨Ao28, co28, eo28⟩ := Kd.S_slice HO_7.out
            subst eo28
            have p296 : 0 ≤ (x2_2 : Int) := of_decide_eq_true zz12
            have q296 : x2_2 < (t293.length : Int) := of_decide_eq_true zz12
            obtain ⟨ad296, A296_0, c296_0, e296, hx296_0, hl296_0, hi296_0⟩ := at_L12 (Kd.S_reads' HO_7.out).2.2 x2_2 p296 q296
            cases e296
            obtain ⟨ce296, hce296, hMe296, hcc296⟩ := Kd.S_get HO_7.out [] x2_2 p296 zz97
            obtain ⟨ve296_0, rfl, ge296_0⟩ := hMe296
            have hv296_0 := hcc296 0 _ rfl
            rw [Nat.add_zero, show ((Kd.slice 4 Kd.bool)).sz = 1 from rfl, Nat.mul_one] at hv296_0
            replace hv296_0 := Option.some.inj (hv296_0.symm.trans hx296_0)
            rw [hv296_0] at ge296_0
            have HL296_0 := qa.mk (show Kd.R Kd.bool 4 _ _ _ _ (rd_L12 t293 x2_2) from ge296_0)
            clear hv296_0 ge296_0
            clear hcc296 hce296
            have HR296_0 := qa.mk hi296_0
            have HC296_0 := qa.mk hl296_0
            clear hi296_0 hl296_0
            replace p296 := eq_true p296
            replace q296 := eq_true q296
            have p297 : 0 ≤ ((ji23) : Int) := of_decide_eq_true zz12
            have q297 : (ji23) < ((rd_L12 t293 x2_2).length : Int) := of_decide_eq_true zz12
            obtain ⟨ad297, e297, hx297_0⟩ := Kd.at_bool zz138 (ji23) p297 q297
            (try rw [← Nbq26.out] at hx297_0)
            cases e297
            replace p297 := eq_true p297
            replace q297 := eq_true q297
            go_wp2
            go_ret
            exact ⟨by first | rfl | (simp [qr, qt] <;> rfl) | (simp only [← hji23]; first | rfl | (simp [qr, qt] <;> rfl)) | (simp [*, qr, qt] <;> rfl) | (congr 2; simp only [bne]; generalize ByteArray.toList _ = z_; cases z_ <;> rfl), zz53⟩
           ·replace c27 := Bool.eq_false_iff.mpr c27
            subst c27
            have H1 : (if 0 ≤ (wrap64 (x2_2 - 1)) then (if (wrap64 (x2_2 - 1)) < (l1.length : Int) then (qbb.l0 k2 l0 l1 ((qi l1 (wrap64 (x2_2 - 1))).f1) t293) else (none)) else (none)) = some r := by rw [if_neg (show ¬ (false = true) by decide)] at H; exact H
            clear H
            have H := H1
            clear H1
            obtain ⟨ji29, hji29⟩ : ∃ j_ : Int, (wrap64 (x2_2 - 1)) = j_ := ⟨_, rfl⟩
            replace H : (if 0 ≤ (ji29) then (if (ji29) < (l1.length : Int) then (qbb.l0 k2 l0 l1 ((qi l1 (ji29)).f1) t293) else (none)) else (none)) = some r := by first | (rw [hji29] at H; exact H) | (simp only [hji29] at H ⊢; exact H)
            have hji29w : (IntKind.i64.wrap (x2_2 - 1)) = ji29 := (i64_w _).trans hji29
            by_cases c30 : 0 ≤ (ji29)
            ·rw [if_pos c30] at H
             have c30b0 : decide (0 ≤ (ji29)) = true := decide_eq_true c30
             clear c30
             by_cases c31 : (ji29) < (l1.length : Int)
             ·rw [if_pos c31] at H
              have c31b0 : decide ((ji29) < (l1.length : Int)) = true := decide_eq_true c31
              clear c31
              have H' := qa.mk H
              clear H
              obtain ⟨Ao32, co32, eo32⟩ := Kd.S_slice HO_7.out
              subst eo32
              have p296 : 0 ≤ (x2_2 : Int) := of_decide_eq_true zz12
              have q296 : x2_2 < (t293.length : Int) := of_decide_eq_true zz12
              obtain ⟨ad296, A296_0, c296_0, e296, hx296_0, hl296_0, hi296_0⟩ := at_L12 (Kd.S_reads' HO_7.out).2.2 x2_2 p296 q296
              cases e296
              obtain ⟨ce296, hce296, hMe296, hcc296⟩ := Kd.S_get HO_7.out [] x2_2 p296 zz97
              obtain ⟨ve296_0, rfl, ge296_0⟩ := hMe296
              have hv296_0 := hcc296 0 _ rfl
              rw [Nat.add_zero, show ((Kd.slice 4 Kd.bool)).sz = 1 from rfl, Nat.mul_one] at hv296_0
              replace hv296_0 := Option.some.inj (hv296_0.symm.trans hx296_0)
              rw [hv296_0] at ge296_0
              have HL296_0 := qa.mk (show Kd.R Kd.bool 4 _ _ _ _ (rd_L12 t293 x2_2) from ge296_0)
              clear hv296_0 ge296_0
              clear hcc296 hce296
              have HR296_0 := qa.mk hi296_0
              have HC296_0 := qa.mk hl296_0
              clear hi296_0 hl296_0
              replace p296 := eq_true p296
              replace q296 := eq_true q296
              have p297 : 0 ≤ ((ji23) : Int) := of_decide_eq_true zz12
              have q297 : (ji23) < ((rd_L12 t293 x2_2).length : Int) := of_decide_eq_true zz12
              obtain ⟨ad297, e297, hx297_0⟩ := Kd.at_bool zz138 (ji23) p297 q297
              (try rw [← Nbq26.out] at hx297_0)
              cases e297
              replace p297 := eq_true p297
              replace q297 := eq_true q297
              have p298 : 0 ≤ ((ji29) : Int) := of_decide_eq_true zz12
              have q298 : (ji29) < (l1.length : Int) := of_decide_eq_true zz12
              obtain ⟨ad298, A298_5, c298_5, e298, hx298_0, hx298_1, hx298_2, hx298_3, hx298_4, hx298_5, hl298_5, hi298_5⟩ := at_T46 HR1.out (ji29) p298 q298
              cases e298
              replace hx298_0 := (HB.out.cell (qwc w _ hx298_0)).trans hx298_0
              replace hx298_1 := (HB.out.cell (qwc w _ hx298_1)).trans hx298_1
              replace hx298_2 := (HB.out.cell (qwc w _ hx298_2)).trans hx298_2
              replace hx298_3 := (HB.out.cell (qwc w _ hx298_3)).trans hx298_3
              replace hx298_4 := (HB.out.cell (qwc w _ hx298_4)).trans hx298_4
              replace hx298_5 := (HB.out.cell (qwc w _ hx298_5)).trans hx298_5
              have HR298_5 := qa.mk hi298_5
              have HC298_5 := qa.mk hl298_5
              clear hi298_5 hl298_5
              replace p298 := eq_true p298
              replace q298 := eq_true q298
              go_wp2
              go_roundg k2
              case measure => have := HJ3.out; have := HK2.out; omega
              case rel => (try rw [← Nbq26.out]); exact ⟨((qi l1 (ji29)).f1), (by first | rfl | (simp; done) | (simp only [← hji29] <;> (first | rfl | simp)) | (simp [*]; done)), H', ⟨by have := HJ3.out; have := HK2.out; omega⟩, ⟨by (with_reducible repeat (first | apply Kd.S_alloc | apply Kd.S_drewN | apply Kd.S_drew)); exact HO_7.out⟩, ⟨zz53⟩⟩
             ·rw [if_neg c31] at H
              exact absurd H (by simp)
            ·rw [if_neg c30] at H
             exact absurd H (by simp)
          ·rw [if_neg c25] at H
           exact absurd H (by simp)
         ·rw [if_neg c24] at H
          exact absurd H (by simp)
        ·rw [if_neg c22] at H
         exact absurd H (by simp)
       ·rw [if_neg c21] at H
        exact absurd H (by simp)
      ·rw [if_neg c20] at H
       have c20b0 : decide (0 < x2_2) = false := decide_eq_false c20
       clear c20
       obtain rfl := Option.some.inj H
       go_wp2
       go_ret
       exact ⟨zz103, zz53⟩
def qlc.f (k : Nat)  : Option (Bool) := (qz.f k (⟨#[117, 108, 62, 108, 105, 91, 97, 61, 34, 49, 34, 93, 32, 98]⟩ : ByteArray)).bind fun bt299 => ((some (([(⟨0, 0, (⟨#[117, 108]⟩ : ByteArray), (⟨#[]⟩ : ByteArray), (⟨#[]⟩ : ByteArray), ([] : List (S48))⟩ : S46), (⟨0, 1, (⟨#[108, 105]⟩ : ByteArray), (⟨#[]⟩ : ByteArray), (⟨#[]⟩ : ByteArray), (([(⟨(⟨#[97]⟩ : ByteArray), (⟨#[49]⟩ : ByteArray)⟩ : S48)] : List (S48)))⟩ : S46), (⟨0, 2, (⟨#[112]⟩ : ByteArray), (⟨#[]⟩ : ByteArray), (⟨#[]⟩ : ByteArray), ([] : List (S48))⟩ : S46), (⟨0, 3, (⟨#[98]⟩ : ByteArray), (⟨#[]⟩ : ByteArray), (⟨#[]⟩ : ByteArray), ([] : List (S48))⟩ : S46), (⟨0, 1, (⟨#[98]⟩ : ByteArray), (⟨#[]⟩ : ByteArray), (⟨#[]⟩ : ByteArray), ([] : List (S48))⟩ : S46)] : List (S46)) : List (S46))).bind fun y306 => ((query_Print.f bt299.1).bind fun bt309 => (if bt299.2 = 0 then (if bt309.2 = 0 then (if bt309.1.toList = ([117, 108, 62, 108, 105, 91, 97, 61, 34, 49, 34, 93, 32, 98] : List UInt8) then ((qob.f k bt299.1 y306).bind fun t311 => ((qnb.f k t311 (([4] : List Int))).bind fun t317 => (if t317 = true then (if 2 ≤ (bt299.1.length : Int) then ((qbb.f k (bt299.1.take 2) y306 4).bind fun t323 => (some (t323 == 2))) else (none)) else (some false)))) else (some false)) else (some false)) else (some false))))
theorem qlc.mono : ∀ k, LeO (qlc.f k ) (qlc.f (k + 1) ) := by
 intro  k
 unfold qlc.f
 repeat' first
   | (with_reducible exact qob.mono _ _ _)
   | (with_reducible exact qbb.mono _ _ _ _)
   | (with_reducible exact qz.mono _ _)
   | (with_reducible exact qnb.mono _ _ _)
   | (with_reducible exact LeO.refl _)
   | (with_reducible exact LeO.none _)
   | (with_reducible refine LeO.ite ?_ ?_)
   | (with_reducible refine LeO.bind ?_ (fun _ => ?_))
   | exact qob.mono _ _ _
   | exact qbb.mono _ _ _ _
   | exact qz.mono _ _
   | exact qnb.mono _ _ _
   | exact LeO.none _
   | refine LeO.ite ?_ ?_
   | refine LeO.bind ?_ (fun _ => ?_)
set_option maxHeartbeats 8000000 in
set_option maxRecDepth 100000 in
theorem qlc.calls (k : Nat)  (r : Bool) (w : World) (hG : Glob w) (h : qlc.f k  = some r) :
  Calls Tryd.prog 5 #[] w fun e w' => e = .returned (.bool r) ∧ Below w.heap.size w w' := by
 have hu46 := Tryd.underlying46
 have hu48 := Tryd.underlying48
 have HG := qa.mk hG
 clear hG
 have HB := qa.mk (Below.refl w.heap.size w)
 have H : ((qz.f k (⟨#[117, 108, 62, 108, 105, 91, 97, 61, 34, 49, 34, 93, 32, 98]⟩ : ByteArray)).bind fun bt299 => ((some (([(⟨0, 0, (⟨#[117, 108]⟩ : ByteArray), (⟨#[]⟩ : ByteArray), (⟨#[]⟩ : ByteArray), ([] : List (S48))⟩ : S46), (⟨0, 1, (⟨#[108, 105]⟩ : ByteArray), (⟨#[]⟩ : ByteArray), (⟨#[]⟩ : ByteArray), (([(⟨(⟨#[97]⟩ : ByteArray), (⟨#[49]⟩ : ByteArray)⟩ : S48)] : List (S48)))⟩ : S46), (⟨0, 2, (⟨#[112]⟩ : ByteArray), (⟨#[]⟩ : ByteArray), (⟨#[]⟩ : ByteArray), ([] : List (S48))⟩ : S46), (⟨0, 3, (⟨#[98]⟩ : ByteArray), (⟨#[]⟩ : ByteArray), (⟨#[]⟩ : ByteArray), ([] : List (S48))⟩ : S46), (⟨0, 1, (⟨#[98]⟩ : ByteArray), (⟨#[]⟩ : ByteArray), (⟨#[]⟩ : ByteArray), ([] : List (S48))⟩ : S46)] : List (S46)) : List (S46))).bind fun y306 => ((query_Print.f bt299.1).bind fun bt309 => (if bt299.2 = 0 then (if bt309.2 = 0 then (if bt309.1.toList = ([117, 108, 62, 108, 105, 91, 97, 61, 34, 49, 34, 93, 32, 98] : List UInt8) then ((qob.f k bt299.1 y306).bind fun t311 => ((qnb.f k t311 (([4] : List Int))).bind fun t317 => (if t317 = true then (if 2 ≤ (bt299.1.length : Int) then ((qbb.f k (bt299.1.take 2) y306 4).bind fun t323 => (some (t323 == 2))) else (none)) else (some false)))) else (some false)) else (some false)) else (some false))))) = some r := h
 clear h
 replace H := Option.bind_eq_some_iff.mp H
 obtain ⟨⟨t299, t302⟩, A10, H⟩ := H
 replace H : ((some (([(⟨0, 0, (⟨#[117, 108]⟩ : ByteArray), (⟨#[]⟩ : ByteArray), (⟨#[]⟩ : ByteArray), ([] : List (S48))⟩ : S46), (⟨0, 1, (⟨#[108, 105]⟩ : ByteArray), (⟨#[]⟩ : ByteArray), (⟨#[]⟩ : ByteArray), (([(⟨(⟨#[97]⟩ : ByteArray), (⟨#[49]⟩ : ByteArray)⟩ : S48)] : List (S48)))⟩ : S46), (⟨0, 2, (⟨#[112]⟩ : ByteArray), (⟨#[]⟩ : ByteArray), (⟨#[]⟩ : ByteArray), ([] : List (S48))⟩ : S46), (⟨0, 3, (⟨#[98]⟩ : ByteArray), (⟨#[]⟩ : ByteArray), (⟨#[]⟩ : ByteArray), ([] : List (S48))⟩ : S46), (⟨0, 1, (⟨#[98]⟩ : ByteArray), (⟨#[]⟩ : ByteArray), (⟨#[]⟩ : ByteArray), ([] : List (S48))⟩ : S46)] : List (S46)) : List (S46))).bind fun y306 => ((query_Print.f t299).bind fun bt309 => (if t302 = 0 then (if bt309.2 = 0 then (if bt309.1.toList = ([117, 108, 62, 108, 105, 91, 97, 61, 34, 49, 34, 93, 32, 98] : List UInt8) then ((qob.f k t299 y306).bind fun t311 => ((qnb.f k t311 (([4] : List Int))).bind fun t317 => (if t317 = true then (if 2 ≤ (t299.length : Int) then ((qbb.f k (t299.take 2) y306 4).bind fun t323 => (some (t323 == 2))) else (none)) else (some false)))) else (some false)) else (some false)) else (some false)))) = some r := H
 have A1 := qa.mk A10
 clear A10
 obtain ⟨y303, hy303⟩ : ∃ y_ : List (S48), y_ = (([(⟨(⟨#[97]⟩ : ByteArray), (⟨#[49]⟩ : ByteArray)⟩ : S48)] : List (S48))) := ⟨_, rfl⟩
 replace H : ((some (([(⟨0, 0, (⟨#[117, 108]⟩ : ByteArray), (⟨#[]⟩ : ByteArray), (⟨#[]⟩ : ByteArray), ([] : List (S48))⟩ : S46), (⟨0, 1, (⟨#[108, 105]⟩ : ByteArray), (⟨#[]⟩ : ByteArray), (⟨#[]⟩ : ByteArray), y303⟩ : S46), (⟨0, 2, (⟨#[112]⟩ : ByteArray), (⟨#[]⟩ : ByteArray), (⟨#[]⟩ : ByteArray), ([] : List (S48))⟩ : S46), (⟨0, 3, (⟨#[98]⟩ : ByteArray), (⟨#[]⟩ : ByteArray), (⟨#[]⟩ : ByteArray), ([] : List (S48))⟩ : S46), (⟨0, 1, (⟨#[98]⟩ : ByteArray), (⟨#[]⟩ : ByteArray), (⟨#[]⟩ : ByteArray), ([] : List (S48))⟩ : S46)] : List (S46)) : List (S46))).bind fun y306 => ((query_Print.f t299).bind fun bt309 => (if t302 = 0 then (if bt309.2 = 0 then (if bt309.1.toList = ([117, 108, 62, 108, 105, 91, 97, 61, 34, 49, 34, 93, 32, 98] : List UInt8) then ((qob.f k t299 y306).bind fun t311 => ((qnb.f k t311 (([4] : List Int))).bind fun t317 => (if t317 = true then (if 2 ≤ (t299.length : Int) then ((qbb.f k (t299.take 2) y306 4).bind fun t323 => (some (t323 == 2))) else (none)) else (some false)))) else (some false)) else (some false)) else (some false)))) = some r := by first | (rw [hy303]; with_reducible exact H) | (have H2_ := (Option.bind_some _ _).symm.trans H; rw [hy303]; with_reducible exact H2_) | (have H2_ := (Option.bind_some _ _).symm.trans H; with_reducible exact H2_) | with_reducible exact H | (rw [hy303]; exact H) | exact H
 have Ny303 := qa.mk hy303
 clear hy303
 obtain ⟨y306, hy306⟩ : ∃ y_ : List (S46), y_ = (([(⟨0, 0, (⟨#[117, 108]⟩ : ByteArray), (⟨#[]⟩ : ByteArray), (⟨#[]⟩ : ByteArray), ([] : List (S48))⟩ : S46), (⟨0, 1, (⟨#[108, 105]⟩ : ByteArray), (⟨#[]⟩ : ByteArray), (⟨#[]⟩ : ByteArray), y303⟩ : S46), (⟨0, 2, (⟨#[112]⟩ : ByteArray), (⟨#[]⟩ : ByteArray), (⟨#[]⟩ : ByteArray), ([] : List (S48))⟩ : S46), (⟨0, 3, (⟨#[98]⟩ : ByteArray), (⟨#[]⟩ : ByteArray), (⟨#[]⟩ : ByteArray), ([] : List (S48))⟩ : S46), (⟨0, 1, (⟨#[98]⟩ : ByteArray), (⟨#[]⟩ : ByteArray), (⟨#[]⟩ : ByteArray), ([] : List (S48))⟩ : S46)] : List (S46))) := ⟨_, rfl⟩
 replace H : ((query_Print.f t299).bind fun bt309 => (if t302 = 0 then (if bt309.2 = 0 then (if bt309.1.toList = ([117, 108, 62, 108, 105, 91, 97, 61, 34, 49, 34, 93, 32, 98] : List UInt8) then ((qob.f k t299 y306).bind fun t311 => ((qnb.f k t311 (([4] : List Int))).bind fun t317 => (if t317 = true then (if 2 ≤ (t299.length : Int) then ((qbb.f k (t299.take 2) y306 4).bind fun t323 => (some (t323 == 2))) else (none)) else (some false)))) else (some false)) else (some false)) else (some false))) = some r := by first | (rw [hy306]; with_reducible exact H) | (have H2_ := (Option.bind_some _ _).symm.trans H; rw [hy306]; with_reducible exact H2_) | (have H2_ := (Option.bind_some _ _).symm.trans H; with_reducible exact H2_) | with_reducible exact H | (rw [hy306]; exact H) | exact H
 have Ny306 := qa.mk hy306
 clear hy306
 replace H := Option.bind_eq_some_iff.mp H
 obtain ⟨⟨t309, t310⟩, A20, H⟩ := H
 replace H : (if t302 = 0 then (if t310 = 0 then (if t309.toList = ([117, 108, 62, 108, 105, 91, 97, 61, 34, 49, 34, 93, 32, 98] : List UInt8) then ((qob.f k t299 y306).bind fun t311 => ((qnb.f k t311 (([4] : List Int))).bind fun t317 => (if t317 = true then (if 2 ≤ (t299.length : Int) then ((qbb.f k (t299.take 2) y306 4).bind fun t323 => (some (t323 == 2))) else (none)) else (some false)))) else (some false)) else (some false)) else (some false)) = some r := H
 have A2 := qa.mk A20
 clear A20
 by_cases c3 : t302 = 0
 ·rw [if_pos c3] at H
  have c3b0 : (t302 == 0) = true := beq_iff_eq.mpr c3
  have c3b1 : (t302 != 0) = false := bne_eq_false_iff_eq.mpr c3
  clear c3
  by_cases c4 : t310 = 0
  ·rw [if_pos c4] at H
   have c4b0 : (t310 == 0) = true := beq_iff_eq.mpr c4
   have c4b1 : (t310 != 0) = false := bne_eq_false_iff_eq.mpr c4
   clear c4
   by_cases c5 : t309.toList = ([117, 108, 62, 108, 105, 91, 97, 61, 34, 49, 34, 93, 32, 98] : List UInt8)
   ·rw [if_pos c5] at H
    have c5b0 : (t309.toList == ([117, 108, 62, 108, 105, 91, 97, 61, 34, 49, 34, 93, 32, 98] : List UInt8)) = true := beq_iff_eq.mpr c5
    have c5b1 : (t309.toList != ([117, 108, 62, 108, 105, 91, 97, 61, 34, 49, 34, 93, 32, 98] : List UInt8)) = false := bne_eq_false_iff_eq.mpr c5
    clear c5
    replace H := Option.bind_eq_some_iff.mp H
    obtain ⟨t311, A60, H⟩ := H
    replace H : ((qnb.f k t311 (([4] : List Int))).bind fun t317 => (if t317 = true then (if 2 ≤ (t299.length : Int) then ((qbb.f k (t299.take 2) y306 4).bind fun t323 => (some (t323 == 2))) else (none)) else (some false))) = some r := H
    have A6 := qa.mk A60
    clear A60
    obtain ⟨y314, hy314⟩ : ∃ y_ : List Int, y_ = (([4] : List Int)) := ⟨_, rfl⟩
    replace H : ((qnb.f k t311 y314).bind fun t317 => (if t317 = true then (if 2 ≤ (t299.length : Int) then ((qbb.f k (t299.take 2) y306 4).bind fun t323 => (some (t323 == 2))) else (none)) else (some false))) = some r := by first | (rw [hy314]; with_reducible exact H) | (have H2_ := (Option.bind_some _ _).symm.trans H; rw [hy314]; with_reducible exact H2_) | (have H2_ := (Option.bind_some _ _).symm.trans H; with_reducible exact H2_) | with_reducible exact H | (rw [hy314]; exact H) | exact H
    have Ny314 := qa.mk hy314
    clear hy314
    replace H := Option.bind_eq_some_iff.mp H
    obtain ⟨t317, A70, H⟩ := H
    replace H : (if t317 = true then (if 2 ≤ (t299.length : Int) then ((qbb.f k (t299.take 2) y306 4).bind fun t323 => (some (t323 == 2))) else (none)) else (some false)) = some r := H
    have A7 := qa.mk A70
    clear A70
    by_cases c8 : t317 = true
    ·subst c8
     have H1 : (if 2 ≤ (t299.length : Int) then ((qbb.f k (t299.take 2) y306 4).bind fun t323 => (some (t323 == 2))) else (none)) = some r := by rw [if_pos rfl] at H; exact H
     clear H
     have H := H1
     clear H1
     by_cases c9 : 2 ≤ (t299.length : Int)
     ·rw [if_pos c9] at H
      have c9b0 := eq_true c9
      have c9b1 : decide (2 ≤ (t299.length : Int)) = true := decide_eq_true c9
      clear c9
      obtain ⟨y318, hy318⟩ : ∃ y_ : List (S41), y_ = (t299.take 2) := ⟨_, rfl⟩
      replace H : ((qbb.f k y318 y306 4).bind fun t323 => (some (t323 == 2))) = some r := by first | (rw [hy318]; with_reducible exact H) | (have H2_ := (Option.bind_some _ _).symm.trans H; rw [hy318]; with_reducible exact H2_) | (have H2_ := (Option.bind_some _ _).symm.trans H; with_reducible exact H2_) | with_reducible exact H | (rw [hy318]; exact H) | exact H
      have Ny318 := qa.mk hy318
      clear hy318
      replace H := Option.bind_eq_some_iff.mp H
      obtain ⟨t323, A100, H⟩ := H
      replace H : (some (t323 == 2)) = some r := H
      have A10 := qa.mk A100
      clear A100
      obtain rfl := Option.some.inj H
      go_enter Tryd.func5, Tryd.ntmps5
      go_wp2_with (first | ((with_reducible refine qy (f := 6) rfl ?_); refine qqb (some 7) rfl rfl Tryd.func6 (by kernel_rfl) rfl #[.string (⟨#[117, 108, 62, 108, 105, 91, 97, 61, 34, 49, 34, 93, 32, 98]⟩ : ByteArray)] rfl zz94 ?_; (with_reducible refine (qz.calls k (⟨#[117, 108, 62, 108, 105, 91, 97, 61, 34, 49, 34, 93, 32, 98]⟩ : ByteArray) t299 t302 _ ?side1 A1.out).mono ?_); (case side1 => exact zz90); rintro e w11 ⟨v300, rfl, ho0, hb⟩; refine ⟨_, rfl, ?_⟩; have n0_ := qa.mk (Kd.N_lower (Kd.N_mono (ok' := fun k_ => True) ho0 (fun k_ hk_ => trivial)) (qo zz53)); have n1_ := qa.mk (qp zz53 hb); clear HB; have HO301 := n0_; have HB := n1_; clear n0_ n1_; (try clear hb); (try clear hb2); (try clear hk); (try clear hi); (try clear ho0)) | ((with_reducible refine qeb (N := 12) rfl ?_); (try (refine qkc (by rfl) ?_; dsimp only)); refine Kd.R_lit k48 _ 48 ?hg (N := 12) ?hd (xs := ([(⟨(⟨#[97]⟩ : ByteArray), (⟨#[49]⟩ : ByteArray)⟩ : S48)] : List (S48))) (inner := [.string (⟨#[97]⟩ : ByteArray), .string (⟨#[49]⟩ : ByteArray)]) (ok := fun _ => True) (okp := fun _ => True) ?hr ?hp (fun _ hk => hk) trivial (Below.refl _ _) (Nat.le_refl _) (by simp) ?_; (case hd => rfl); (case hg => rfl); (case hr => exact zz6); (case hp => exact zz146); intro v304 w12 ho13 hb hg_ hnew_; clear hg_ hnew_; (first | rw [← Ny303.out] at ho13 | (simp only [Int.reduceToNat] at ho13; rw [← Ny303.out] at ho13)); have n0_ := qa.mk (Kd.N_elder' zz63 (Kd.R_base ho13) hb); have n1_ := qa.mk (Kd.R_lower ho13 (qo zz53)); have n2_ := qa.mk (qp zz53 hb); clear HO301; clear HB; have HO301 := n0_; have HO305 := n1_; have HB := n2_; clear n0_ n1_ n2_; clear hb ho13; obtain ⟨Ao14, co14, eo14⟩ := Kd.R_slice HO305.out; subst eo14) | ((with_reducible refine qeb (N := 17) rfl ?_); (try (refine qkc (by rfl) ?_; dsimp only)); refine Kd.N_lit k46 _ 46 ?hg (N' := 17) ?hd (xs := ([(⟨0, 0, (⟨#[117, 108]⟩ : ByteArray), (⟨#[]⟩ : ByteArray), (⟨#[]⟩ : ByteArray), ([] : List (S48))⟩ : S46), (⟨0, 1, (⟨#[108, 105]⟩ : ByteArray), (⟨#[]⟩ : ByteArray), (⟨#[]⟩ : ByteArray), y303⟩ : S46), (⟨0, 2, (⟨#[112]⟩ : ByteArray), (⟨#[]⟩ : ByteArray), (⟨#[]⟩ : ByteArray), ([] : List (S48))⟩ : S46), (⟨0, 3, (⟨#[98]⟩ : ByteArray), (⟨#[]⟩ : ByteArray), (⟨#[]⟩ : ByteArray), ([] : List (S48))⟩ : S46), (⟨0, 1, (⟨#[98]⟩ : ByteArray), (⟨#[]⟩ : ByteArray), (⟨#[]⟩ : ByteArray), ([] : List (S48))⟩ : S46)] : List (S46))) (inner := [.int .i64 0, .int .i64 0, .string (⟨#[117, 108]⟩ : ByteArray), .string (⟨#[]⟩ : ByteArray), .string (⟨#[]⟩ : ByteArray), .slice none 0 0, .int .i64 0, .int .i64 1, .string (⟨#[108, 105]⟩ : ByteArray), .string (⟨#[]⟩ : ByteArray), .string (⟨#[]⟩ : ByteArray), .slice Ao14 y303.length co14, .int .i64 0, .int .i64 2, .string (⟨#[112]⟩ : ByteArray), .string (⟨#[]⟩ : ByteArray), .string (⟨#[]⟩ : ByteArray), .slice none 0 0, .int .i64 0, .int .i64 3, .string (⟨#[98]⟩ : ByteArray), .string (⟨#[]⟩ : ByteArray), .string (⟨#[]⟩ : ByteArray), .slice none 0 0, .int .i64 0, .int .i64 1, .string (⟨#[98]⟩ : ByteArray), .string (⟨#[]⟩ : ByteArray), .string (⟨#[]⟩ : ByteArray), .slice none 0 0]) (ok := (fun k_ => some k_ ≠ (v300 : Value).ownBlock)) (okp := (fun k_ => some k_ ≠ (v300 : Value).ownBlock)) ?hr ?hp (fun _ hk => hk) ((show ∀ k_, w12.heap.size ≤ k_ → (fun k_ => some k_ ≠ (v300 : Value).ownBlock) k_ from fun k_ hk => Kd.fresh' (Kd.N_lt zz63) k_ hk) _ (Nat.le_refl _)) (Below.refl _ _) (Nat.le_refl _) (by simp) ?_; (case hd => rfl); (case hg => rfl); (case hr => exact zz6); (case hp => exact (Reps.c6 (show Kd.FK k46 _ _ (⟨0, 0, (⟨#[117, 108]⟩ : ByteArray), (⟨#[]⟩ : ByteArray), (⟨#[]⟩ : ByteArray), ([] : List (S48))⟩ : S46) [.int .i64 0, .int .i64 0, .string (⟨#[117, 108]⟩ : ByteArray), .string (⟨#[]⟩ : ByteArray), .string (⟨#[]⟩ : ByteArray), .slice none 0 0] from (k46_mkF _ _ (⟨0, 0, (⟨#[117, 108]⟩ : ByteArray), (⟨#[]⟩ : ByteArray), (⟨#[]⟩ : ByteArray), ([] : List (S48))⟩ : S46) (Nat.le_refl _) (Kd.F_nil _ _ _))) (Reps.c6 (show Kd.FK k46 _ _ (⟨0, 1, (⟨#[108, 105]⟩ : ByteArray), (⟨#[]⟩ : ByteArray), (⟨#[]⟩ : ByteArray), y303⟩ : S46) [.int .i64 0, .int .i64 1, .string (⟨#[108, 105]⟩ : ByteArray), .string (⟨#[]⟩ : ByteArray), .string (⟨#[]⟩ : ByteArray), .slice Ao14 y303.length co14] from (k46_mkF _ _ (⟨0, 1, (⟨#[108, 105]⟩ : ByteArray), (⟨#[]⟩ : ByteArray), (⟨#[]⟩ : ByteArray), y303⟩ : S46) (Kd.R_reads' (Kd.R_mono (ok' := (fun k_ => some k_ ≠ (v300 : Value).ownBlock)) (Kd.R_apart' (HO305.out) (Kd.N_typed HO301.out) (by decide)) (fun k_ hk => hk.2))).2.1 (Kd.R_F (Kd.R_mono (ok' := (fun k_ => some k_ ≠ (v300 : Value).ownBlock)) (Kd.R_apart' (HO305.out) (Kd.N_typed HO301.out) (by decide)) (fun k_ hk => hk.2))))) (Reps.c6 (show Kd.FK k46 _ _ (⟨0, 2, (⟨#[112]⟩ : ByteArray), (⟨#[]⟩ : ByteArray), (⟨#[]⟩ : ByteArray), ([] : List (S48))⟩ : S46) [.int .i64 0, .int .i64 2, .string (⟨#[112]⟩ : ByteArray), .string (⟨#[]⟩ : ByteArray), .string (⟨#[]⟩ : ByteArray), .slice none 0 0] from (k46_mkF _ _ (⟨0, 2, (⟨#[112]⟩ : ByteArray), (⟨#[]⟩ : ByteArray), (⟨#[]⟩ : ByteArray), ([] : List (S48))⟩ : S46) (Nat.le_refl _) (Kd.F_nil _ _ _))) (Reps.c6 (show Kd.FK k46 _ _ (⟨0, 3, (⟨#[98]⟩ : ByteArray), (⟨#[]⟩ : ByteArray), (⟨#[]⟩ : ByteArray), ([] : List (S48))⟩ : S46) [.int .i64 0, .int .i64 3, .string (⟨#[98]⟩ : ByteArray), .string (⟨#[]⟩ : ByteArray), .string (⟨#[]⟩ : ByteArray), .slice none 0 0] from (k46_mkF _ _ (⟨0, 3, (⟨#[98]⟩ : ByteArray), (⟨#[]⟩ : ByteArray), (⟨#[]⟩ : ByteArray), ([] : List (S48))⟩ : S46) (Nat.le_refl _) (Kd.F_nil _ _ _))) (Reps.c6 (show Kd.FK k46 _ _ (⟨0, 1, (⟨#[98]⟩ : ByteArray), (⟨#[]⟩ : ByteArray), (⟨#[]⟩ : ByteArray), ([] : List (S48))⟩ : S46) [.int .i64 0, .int .i64 1, .string (⟨#[98]⟩ : ByteArray), .string (⟨#[]⟩ : ByteArray), .string (⟨#[]⟩ : ByteArray), .slice none 0 0] from (k46_mkF _ _ (⟨0, 1, (⟨#[98]⟩ : ByteArray), (⟨#[]⟩ : ByteArray), (⟨#[]⟩ : ByteArray), ([] : List (S48))⟩ : S46) (Nat.le_refl _) (Kd.F_nil _ _ _))) (Reps.none _ _))))))); intro v307 w15 ho16 hb hg_ hnew_; clear hg_ hnew_; (first | rw [← Ny306.out] at ho16 | (simp only [Int.reduceToNat] at ho16; rw [← Ny306.out] at ho16)); have n0_ := qa.mk (Kd.N_elder' zz63 (Kd.N_base ho16) hb); have n1_ := qa.mk (Kd.N_lower ho16 (qo zz53)); have n2_ := qa.mk (qp zz53 hb); clear HO301; clear HB; clear HO305; have HO301 := n0_; have HO308 := n1_; have HB := n2_; clear n0_ n1_ n2_; clear hb ho16; obtain ⟨Ao17, co17, eo17⟩ := Kd.N_slice HO301.out; subst eo17) | ((with_reducible refine qy (f := 14) rfl ?_); refine qqb (some 20) rfl rfl Tryd.func14 (by kernel_rfl) rfl #[.slice Ao17 t299.length co17] rfl zz94 ?_; (with_reducible refine (query_Print.calls _ _ t299 t309 t310 _ ?side1 ?side2 ?side3 A2.out).mono ?_); (case side1 => exact zz90); (case side2 => exact zz125); (case side3 => exact (Kd.N_reads' HO301.out).2.1); rintro e w18 ⟨rfl, hb⟩; refine ⟨_, rfl, ?_⟩; have n0_ := qa.mk (Kd.N_below zz63 hb); have n1_ := qa.mk (Kd.N_below zz64 hb); have n2_ := qa.mk (qp zz53 hb); clear HO301; clear HO308; clear HB; have HO301 := n0_; have HO308 := n1_; have HB := n2_; clear n0_ n1_ n2_; (try clear hb); (try clear hb2); (try clear hk); (try clear hi); obtain ⟨Ao19, co19, eo19⟩ := Kd.N_slice HO308.out; subst eo19) | (go_at_call 12; (with_reducible refine (qob.calls k _ _ t299 _ _ y306 t311 _ ?side1 ?side2 ?side3 ?side4 A6.out).mono ?_); (case side1 => exact zz125); (case side2 => exact (Kd.N_reads' HO301.out).2.1); (case side3 => exact zz126); (case side4 => exact (Kd.N_reads' HO308.out).2.1); rintro e w20 ⟨v312, rfl, ho0, hb⟩; have n0_ := qa.mk (Kd.N_elder' zz63 (Kd.R_base ho0) hb); have n1_ := qa.mk (Kd.N_elder' zz64 (Kd.R_base ho0) hb); have n2_ := qa.mk (Kd.R_lower ho0 (qo zz53)); have n3_ := qa.mk (qp zz53 hb); clear HO301; clear HO308; clear HB; have HO301 := n0_; have HO308 := n1_; have HO313 := n2_; have HB := n3_; clear n0_ n1_ n2_ n3_; (try clear hb); (try clear hb2); (try clear hk); (try clear hi); (try clear ho0)) | ((with_reducible refine qeb (N := 37) rfl ?_); (try (refine qkc (by rfl) ?_; dsimp only)); refine Kd.R_lit (Kd.int .i64) _ 3 ?hg (N := 37) ?hd (xs := ([4] : List Int)) (inner := [.int .i64 4]) (ok := fun _ => True) (okp := fun _ => True) ?hr ?hp (fun _ hk => hk) trivial (Below.refl _ _) (Nat.le_refl _) (by simp) ?_; (case hd => rfl); (case hg => rfl); (case hr => exact zz6); (case hp => exact (Reps.one (show Kd.M (Kd.int .i64) _ _ _ 4 [.int .i64 4] from rfl) (Reps.none _ _))); intro v315 w21 ho22 hb hg_ hnew_; clear hg_ hnew_; (first | rw [← Ny314.out] at ho22 | (simp only [Int.reduceToNat] at ho22; rw [← Ny314.out] at ho22)); have n0_ := qa.mk (Kd.N_elder' zz63 (Kd.R_base ho22) hb); have n1_ := qa.mk (Kd.N_elder' zz64 (Kd.R_base ho22) hb); have n2_ := qa.mk (Kd.R_elder' zz65 (Kd.R_base ho22) hb); have n3_ := qa.mk (Kd.R_lower (Kd.R_new' ho22 (Kd.R_lt zz65)) (qo zz53)); have n4_ := qa.mk (qp zz53 hb); clear HO301; clear HO308; clear HO313; clear HB; have HO301 := n0_; have HO308 := n1_; have HO313 := n2_; have HO316 := n3_; have HB := n4_; clear n0_ n1_ n2_ n3_ n4_; clear hb ho22; obtain ⟨Ao23, co23, eo23⟩ := Kd.R_slice HO313.out; subst eo23; obtain ⟨Ao24, co24, eo24⟩ := Kd.R_slice HO316.out; subst eo24) | (go_at_call 15; (with_reducible refine (qnb.calls k _ _ t311 _ _ y314 true _ ?side1 ?side2 ?side3 ?side4 A7.out).mono ?_); (case side1 => exact zz127); (case side2 => exact (Kd.R_reads' HO313.out).2.1); (case side3 => exact zz128); (case side4 => exact (Kd.R_reads' HO316.out).2.1); rintro e w' ⟨rfl, ⟨nd, rfl⟩⟩; have q25 : (2 : Int) ≤ ((t299.length : Int) : Int) := of_decide_eq_true zz12; obtain ⟨i025, hi025, _, hsz25, _⟩ := info_parts info41; have hroom25 : t299.length ≤ co17 := (Kd.N_reads' HO301.out).2.1; have hC25 : Kd.F k41 _ _ Ao17 t299.length t299 := (Kd.V_at (base := w.heap.size) (Kd.N_V HO301.out)).2.2; have hcut25 := cut_to (P := Tryd.prog) 23 41 .i64 Tryd.underlying23 hi025 Ao17 t299.length co17 2 (by omega) q25 hroom25; have hr25 := Kd.F_take (m := 2) hC25 (by omega); have hy25 : y318.length = (2 : Int).toNat := (by rw [Ny318.out, List.length_take]; omega); rw [← Ny318.out] at hr25; rw [← hy25] at hcut25; have HO322 := qa.mk (show Kd.V k41 41 _ w.heap.size _ (.slice Ao17 y318.length co17) y318 from Kd.V_mk (by omega) hr25); have HC322 := qa.mk (show y318.length ≤ co17 from by omega); clear hr25 hC25 hroom25 hi025 hsz25; have KY25 := qa.mk hy25; clear hy25; replace q25 := eq_true q25) | (go_at_call 16; (with_reducible refine (qbb.calls k _ _ y318 _ _ y306 4 t323 _ ?side1 ?side2 ?side3 ?side4 A10.out).mono ?_); (case side1 => repeat (first | exact (Kd.V_reads' HO322.out).2.2 | (with_reducible refine Kd.C_alloc ?_ _) | (with_reducible refine Kd.C_drewN ?_ _) | (with_reducible refine Kd.C_drew ?_))); (case side2 => exact (Kd.V_reads' HO322.out).2.1); (case side3 => exact zz126); (case side4 => exact (Kd.N_reads' HO308.out).2.1); rintro e w26 ⟨rfl, hb⟩; have n0_ := qa.mk (Kd.N_below zz63 hb); have n1_ := qa.mk (Kd.N_below zz64 hb); have n2_ := qa.mk (Kd.R_below zz65 hb); have n3_ := qa.mk (Kd.R_below (by (with_reducible repeat (first | apply Kd.R_alloc | apply Kd.R_drewN | apply Kd.R_drew)); exact HO316.out) hb); have n4_ := qa.mk (Kd.V_below (by (with_reducible repeat (first | apply Kd.V_alloc | apply Kd.V_drewN | apply Kd.V_drew)); exact HO322.out) hb); have n5_ := qa.mk (qp zz53 hb); clear HO301; clear HO308; clear HO313; clear HO316; clear HO322; clear HB; have HO301 := n0_; have HO308 := n1_; have HO313 := n2_; have HO316 := n3_; have HO322 := n4_; have HB := n5_; clear n0_ n1_ n2_ n3_ n4_ n5_; (try clear hb); (try clear hb2); (try clear hk); (try clear hi)))
      go_ret
      exact ⟨zz103, zz53⟩
     ·rw [if_neg c9] at H
      exact absurd H (by simp)
    ·replace c8 := Bool.eq_false_iff.mpr c8
     subst c8
     have H1 : (some false) = some r := by rw [if_neg (show ¬ (false = true) by decide)] at H; exact H
     clear H
     have H := H1
     clear H1
     obtain rfl := Option.some.inj H
     go_enter Tryd.func5, Tryd.ntmps5
     go_wp2_with (first | ((with_reducible refine qy (f := 6) rfl ?_); refine qqb (some 7) rfl rfl Tryd.func6 (by kernel_rfl) rfl #[.string (⟨#[117, 108, 62, 108, 105, 91, 97, 61, 34, 49, 34, 93, 32, 98]⟩ : ByteArray)] rfl zz94 ?_; (with_reducible refine (qz.calls k (⟨#[117, 108, 62, 108, 105, 91, 97, 61, 34, 49, 34, 93, 32, 98]⟩ : ByteArray) t299 t302 _ ?side1 A1.out).mono ?_); (case side1 => exact zz90); rintro e w27 ⟨v300, rfl, ho0, hb⟩; refine ⟨_, rfl, ?_⟩; have n0_ := qa.mk (Kd.N_lower (Kd.N_mono (ok' := fun k_ => True) ho0 (fun k_ hk_ => trivial)) (qo zz53)); have n1_ := qa.mk (qp zz53 hb); clear HB; have HO301 := n0_; have HB := n1_; clear n0_ n1_; (try clear hb); (try clear hb2); (try clear hk); (try clear hi); (try clear ho0)) | ((with_reducible refine qeb (N := 12) rfl ?_); (try (refine qkc (by rfl) ?_; dsimp only)); refine Kd.R_lit k48 _ 48 ?hg (N := 12) ?hd (xs := ([(⟨(⟨#[97]⟩ : ByteArray), (⟨#[49]⟩ : ByteArray)⟩ : S48)] : List (S48))) (inner := [.string (⟨#[97]⟩ : ByteArray), .string (⟨#[49]⟩ : ByteArray)]) (ok := fun _ => True) (okp := fun _ => True) ?hr ?hp (fun _ hk => hk) trivial (Below.refl _ _) (Nat.le_refl _) (by simp) ?_; (case hd => rfl); (case hg => rfl); (case hr => exact zz6); (case hp => exact zz146); intro v304 w28 ho29 hb hg_ hnew_; clear hg_ hnew_; (first | rw [← Ny303.out] at ho29 | (simp only [Int.reduceToNat] at ho29; rw [← Ny303.out] at ho29)); have n0_ := qa.mk (Kd.N_elder' zz63 (Kd.R_base ho29) hb); have n1_ := qa.mk (Kd.R_lower ho29 (qo zz53)); have n2_ := qa.mk (qp zz53 hb); clear HO301; clear HB; have HO301 := n0_; have HO305 := n1_; have HB := n2_; clear n0_ n1_ n2_; clear hb ho29; obtain ⟨Ao30, co30, eo30⟩ := Kd.R_slice HO305.out; subst eo30) | ((with_reducible refine qeb (N := 17) rfl ?_); (try (refine qkc (by rfl) ?_; dsimp only)); refine Kd.N_lit k46 _ 46 ?hg (N' := 17) ?hd (xs := ([(⟨0, 0, (⟨#[117, 108]⟩ : ByteArray), (⟨#[]⟩ : ByteArray), (⟨#[]⟩ : ByteArray), ([] : List (S48))⟩ : S46), (⟨0, 1, (⟨#[108, 105]⟩ : ByteArray), (⟨#[]⟩ : ByteArray), (⟨#[]⟩ : ByteArray), y303⟩ : S46), (⟨0, 2, (⟨#[112]⟩ : ByteArray), (⟨#[]⟩ : ByteArray), (⟨#[]⟩ : ByteArray), ([] : List (S48))⟩ : S46), (⟨0, 3, (⟨#[98]⟩ : ByteArray), (⟨#[]⟩ : ByteArray), (⟨#[]⟩ : ByteArray), ([] : List (S48))⟩ : S46), (⟨0, 1, (⟨#[98]⟩ : ByteArray), (⟨#[]⟩ : ByteArray), (⟨#[]⟩ : ByteArray), ([] : List (S48))⟩ : S46)] : List (S46))) (inner := [.int .i64 0, .int .i64 0, .string (⟨#[117, 108]⟩ : ByteArray), .string (⟨#[]⟩ : ByteArray), .string (⟨#[]⟩ : ByteArray), .slice none 0 0, .int .i64 0, .int .i64 1, .string (⟨#[108, 105]⟩ : ByteArray), .string (⟨#[]⟩ : ByteArray), .string (⟨#[]⟩ : ByteArray), .slice Ao30 y303.length co30, .int .i64 0, .int .i64 2, .string (⟨#[112]⟩ : ByteArray), .string (⟨#[]⟩ : ByteArray), .string (⟨#[]⟩ : ByteArray), .slice none 0 0, .int .i64 0, .int .i64 3, .string (⟨#[98]⟩ : ByteArray), .string (⟨#[]⟩ : ByteArray), .string (⟨#[]⟩ : ByteArray), .slice none 0 0, .int .i64 0, .int .i64 1, .string (⟨#[98]⟩ : ByteArray), .string (⟨#[]⟩ : ByteArray), .string (⟨#[]⟩ : ByteArray), .slice none 0 0]) (ok := (fun k_ => some k_ ≠ (v300 : Value).ownBlock)) (okp := (fun k_ => some k_ ≠ (v300 : Value).ownBlock)) ?hr ?hp (fun _ hk => hk) ((show ∀ k_, w28.heap.size ≤ k_ → (fun k_ => some k_ ≠ (v300 : Value).ownBlock) k_ from fun k_ hk => Kd.fresh' (Kd.N_lt zz63) k_ hk) _ (Nat.le_refl _)) (Below.refl _ _) (Nat.le_refl _) (by simp) ?_; (case hd => rfl); (case hg => rfl); (case hr => exact zz6); (case hp => exact (Reps.c6 (show Kd.FK k46 _ _ (⟨0, 0, (⟨#[117, 108]⟩ : ByteArray), (⟨#[]⟩ : ByteArray), (⟨#[]⟩ : ByteArray), ([] : List (S48))⟩ : S46) [.int .i64 0, .int .i64 0, .string (⟨#[117, 108]⟩ : ByteArray), .string (⟨#[]⟩ : ByteArray), .string (⟨#[]⟩ : ByteArray), .slice none 0 0] from (k46_mkF _ _ (⟨0, 0, (⟨#[117, 108]⟩ : ByteArray), (⟨#[]⟩ : ByteArray), (⟨#[]⟩ : ByteArray), ([] : List (S48))⟩ : S46) (Nat.le_refl _) (Kd.F_nil _ _ _))) (Reps.c6 (show Kd.FK k46 _ _ (⟨0, 1, (⟨#[108, 105]⟩ : ByteArray), (⟨#[]⟩ : ByteArray), (⟨#[]⟩ : ByteArray), y303⟩ : S46) [.int .i64 0, .int .i64 1, .string (⟨#[108, 105]⟩ : ByteArray), .string (⟨#[]⟩ : ByteArray), .string (⟨#[]⟩ : ByteArray), .slice Ao30 y303.length co30] from (k46_mkF _ _ (⟨0, 1, (⟨#[108, 105]⟩ : ByteArray), (⟨#[]⟩ : ByteArray), (⟨#[]⟩ : ByteArray), y303⟩ : S46) (Kd.R_reads' (Kd.R_mono (ok' := (fun k_ => some k_ ≠ (v300 : Value).ownBlock)) (Kd.R_apart' (HO305.out) (Kd.N_typed HO301.out) (by decide)) (fun k_ hk => hk.2))).2.1 (Kd.R_F (Kd.R_mono (ok' := (fun k_ => some k_ ≠ (v300 : Value).ownBlock)) (Kd.R_apart' (HO305.out) (Kd.N_typed HO301.out) (by decide)) (fun k_ hk => hk.2))))) (Reps.c6 (show Kd.FK k46 _ _ (⟨0, 2, (⟨#[112]⟩ : ByteArray), (⟨#[]⟩ : ByteArray), (⟨#[]⟩ : ByteArray), ([] : List (S48))⟩ : S46) [.int .i64 0, .int .i64 2, .string (⟨#[112]⟩ : ByteArray), .string (⟨#[]⟩ : ByteArray), .string (⟨#[]⟩ : ByteArray), .slice none 0 0] from (k46_mkF _ _ (⟨0, 2, (⟨#[112]⟩ : ByteArray), (⟨#[]⟩ : ByteArray), (⟨#[]⟩ : ByteArray), ([] : List (S48))⟩ : S46) (Nat.le_refl _) (Kd.F_nil _ _ _))) (Reps.c6 (show Kd.FK k46 _ _ (⟨0, 3, (⟨#[98]⟩ : ByteArray), (⟨#[]⟩ : ByteArray), (⟨#[]⟩ : ByteArray), ([] : List (S48))⟩ : S46) [.int .i64 0, .int .i64 3, .string (⟨#[98]⟩ : ByteArray), .string (⟨#[]⟩ : ByteArray), .string (⟨#[]⟩ : ByteArray), .slice none 0 0] from (k46_mkF _ _ (⟨0, 3, (⟨#[98]⟩ : ByteArray), (⟨#[]⟩ : ByteArray), (⟨#[]⟩ : ByteArray), ([] : List (S48))⟩ : S46) (Nat.le_refl _) (Kd.F_nil _ _ _))) (Reps.c6 (show Kd.FK k46 _ _ (⟨0, 1, (⟨#[98]⟩ : ByteArray), (⟨#[]⟩ : ByteArray), (⟨#[]⟩ : ByteArray), ([] : List (S48))⟩ : S46) [.int .i64 0, .int .i64 1, .string (⟨#[98]⟩ : ByteArray), .string (⟨#[]⟩ : ByteArray), .string (⟨#[]⟩ : ByteArray), .slice none 0 0] from (k46_mkF _ _ (⟨0, 1, (⟨#[98]⟩ : ByteArray), (⟨#[]⟩ : ByteArray), (⟨#[]⟩ : ByteArray), ([] : List (S48))⟩ : S46) (Nat.le_refl _) (Kd.F_nil _ _ _))) (Reps.none _ _))))))); intro v307 w31 ho32 hb hg_ hnew_; clear hg_ hnew_; (first | rw [← Ny306.out] at ho32 | (simp only [Int.reduceToNat] at ho32; rw [← Ny306.out] at ho32)); have n0_ := qa.mk (Kd.N_elder' zz63 (Kd.N_base ho32) hb); have n1_ := qa.mk (Kd.N_lower ho32 (qo zz53)); have n2_ := qa.mk (qp zz53 hb); clear HO301; clear HB; clear HO305; have HO301 := n0_; have HO308 := n1_; have HB := n2_; clear n0_ n1_ n2_; clear hb ho32; obtain ⟨Ao33, co33, eo33⟩ := Kd.N_slice HO301.out; subst eo33) | ((with_reducible refine qy (f := 14) rfl ?_); refine qqb (some 20) rfl rfl Tryd.func14 (by kernel_rfl) rfl #[.slice Ao33 t299.length co33] rfl zz94 ?_; (with_reducible refine (query_Print.calls _ _ t299 t309 t310 _ ?side1 ?side2 ?side3 A2.out).mono ?_); (case side1 => exact zz90); (case side2 => exact zz125); (case side3 => exact (Kd.N_reads' HO301.out).2.1); rintro e w34 ⟨rfl, hb⟩; refine ⟨_, rfl, ?_⟩; have n0_ := qa.mk (Kd.N_below zz63 hb); have n1_ := qa.mk (Kd.N_below zz64 hb); have n2_ := qa.mk (qp zz53 hb); clear HO301; clear HO308; clear HB; have HO301 := n0_; have HO308 := n1_; have HB := n2_; clear n0_ n1_ n2_; (try clear hb); (try clear hb2); (try clear hk); (try clear hi); obtain ⟨Ao35, co35, eo35⟩ := Kd.N_slice HO308.out; subst eo35) | (go_at_call 12; (with_reducible refine (qob.calls k _ _ t299 _ _ y306 t311 _ ?side1 ?side2 ?side3 ?side4 A6.out).mono ?_); (case side1 => exact zz125); (case side2 => exact (Kd.N_reads' HO301.out).2.1); (case side3 => exact zz126); (case side4 => exact (Kd.N_reads' HO308.out).2.1); rintro e w36 ⟨v312, rfl, ho0, hb⟩; have n0_ := qa.mk (Kd.N_elder' zz63 (Kd.R_base ho0) hb); have n1_ := qa.mk (Kd.N_elder' zz64 (Kd.R_base ho0) hb); have n2_ := qa.mk (Kd.R_lower ho0 (qo zz53)); have n3_ := qa.mk (qp zz53 hb); clear HO301; clear HO308; clear HB; have HO301 := n0_; have HO308 := n1_; have HO313 := n2_; have HB := n3_; clear n0_ n1_ n2_ n3_; (try clear hb); (try clear hb2); (try clear hk); (try clear hi); (try clear ho0)) | ((with_reducible refine qeb (N := 37) rfl ?_); (try (refine qkc (by rfl) ?_; dsimp only)); refine Kd.R_lit (Kd.int .i64) _ 3 ?hg (N := 37) ?hd (xs := ([4] : List Int)) (inner := [.int .i64 4]) (ok := fun _ => True) (okp := fun _ => True) ?hr ?hp (fun _ hk => hk) trivial (Below.refl _ _) (Nat.le_refl _) (by simp) ?_; (case hd => rfl); (case hg => rfl); (case hr => exact zz6); (case hp => exact (Reps.one (show Kd.M (Kd.int .i64) _ _ _ 4 [.int .i64 4] from rfl) (Reps.none _ _))); intro v315 w37 ho38 hb hg_ hnew_; clear hg_ hnew_; (first | rw [← Ny314.out] at ho38 | (simp only [Int.reduceToNat] at ho38; rw [← Ny314.out] at ho38)); have n0_ := qa.mk (Kd.N_elder' zz63 (Kd.R_base ho38) hb); have n1_ := qa.mk (Kd.N_elder' zz64 (Kd.R_base ho38) hb); have n2_ := qa.mk (Kd.R_elder' zz65 (Kd.R_base ho38) hb); have n3_ := qa.mk (Kd.R_lower (Kd.R_new' ho38 (Kd.R_lt zz65)) (qo zz53)); have n4_ := qa.mk (qp zz53 hb); clear HO301; clear HO308; clear HO313; clear HB; have HO301 := n0_; have HO308 := n1_; have HO313 := n2_; have HO316 := n3_; have HB := n4_; clear n0_ n1_ n2_ n3_ n4_; clear hb ho38; obtain ⟨Ao39, co39, eo39⟩ := Kd.R_slice HO313.out; subst eo39; obtain ⟨Ao40, co40, eo40⟩ := Kd.R_slice HO316.out; subst eo40) | (go_at_call 15; (with_reducible refine (qnb.calls k _ _ t311 _ _ y314 false _ ?side1 ?side2 ?side3 ?side4 A7.out).mono ?_); (case side1 => exact zz127); (case side2 => exact (Kd.R_reads' HO313.out).2.1); (case side3 => exact zz128); (case side4 => exact (Kd.R_reads' HO316.out).2.1); rintro e w' ⟨rfl, ⟨nd, rfl⟩⟩))
     go_ret
     exact ⟨zz103, zz53⟩
   ·rw [if_neg c5] at H
    have c5b0 : (t309.toList == ([117, 108, 62, 108, 105, 91, 97, 61, 34, 49, 34, 93, 32, 98] : List UInt8)) = false := beq_eq_false_iff_ne.mpr c5
    have c5b1 : (t309.toList != ([117, 108, 62, 108, 105, 91, 97, 61, 34, 49, 34, 93, 32, 98] : List UInt8)) = true := bne_iff_ne.mpr c5
    obtain rfl := Option.some.inj H
    go_enter Tryd.func5, Tryd.ntmps5
    go_wp2_with (first | ((with_reducible refine qy (f := 6) rfl ?_); refine qqb (some 7) rfl rfl Tryd.func6 (by kernel_rfl) rfl #[.string (⟨#[117, 108, 62, 108, 105, 91, 97, 61, 34, 49, 34, 93, 32, 98]⟩ : ByteArray)] rfl zz94 ?_; (with_reducible refine (qz.calls k (⟨#[117, 108, 62, 108, 105, 91, 97, 61, 34, 49, 34, 93, 32, 98]⟩ : ByteArray) t299 t302 _ ?side1 A1.out).mono ?_); (case side1 => exact zz90); rintro e w41 ⟨v300, rfl, ho0, hb⟩; refine ⟨_, rfl, ?_⟩; have n0_ := qa.mk (Kd.N_lower (Kd.N_mono (ok' := fun k_ => True) ho0 (fun k_ hk_ => trivial)) (qo zz53)); have n1_ := qa.mk (qp zz53 hb); clear HB; have HO301 := n0_; have HB := n1_; clear n0_ n1_; (try clear hb); (try clear hb2); (try clear hk); (try clear hi); (try clear ho0)) | ((with_reducible refine qeb (N := 12) rfl ?_); (try (refine qkc (by rfl) ?_; dsimp only)); refine Kd.R_lit k48 _ 48 ?hg (N := 12) ?hd (xs := ([(⟨(⟨#[97]⟩ : ByteArray), (⟨#[49]⟩ : ByteArray)⟩ : S48)] : List (S48))) (inner := [.string (⟨#[97]⟩ : ByteArray), .string (⟨#[49]⟩ : ByteArray)]) (ok := fun _ => True) (okp := fun _ => True) ?hr ?hp (fun _ hk => hk) trivial (Below.refl _ _) (Nat.le_refl _) (by simp) ?_; (case hd => rfl); (case hg => rfl); (case hr => exact zz6); (case hp => exact zz146); intro v304 w42 ho43 hb hg_ hnew_; clear hg_ hnew_; (first | rw [← Ny303.out] at ho43 | (simp only [Int.reduceToNat] at ho43; rw [← Ny303.out] at ho43)); have n0_ := qa.mk (Kd.N_elder' zz63 (Kd.R_base ho43) hb); have n1_ := qa.mk (Kd.R_lower ho43 (qo zz53)); have n2_ := qa.mk (qp zz53 hb); clear HO301; clear HB; have HO301 := n0_; have HO305 := n1_; have HB := n2_; clear n0_ n1_ n2_; clear hb ho43; obtain ⟨Ao44, co44, eo44⟩ := Kd.R_slice HO305.out; subst eo44) | ((with_reducible refine qeb (N := 17) rfl ?_); (try (refine qkc (by rfl) ?_; dsimp only)); refine Kd.N_lit k46 _ 46 ?hg (N' := 17) ?hd (xs := ([(⟨0, 0, (⟨#[117, 108]⟩ : ByteArray), (⟨#[]⟩ : ByteArray), (⟨#[]⟩ : ByteArray), ([] : List (S48))⟩ : S46), (⟨0, 1, (⟨#[108, 105]⟩ : ByteArray), (⟨#[]⟩ : ByteArray), (⟨#[]⟩ : ByteArray), y303⟩ : S46), (⟨0, 2, (⟨#[112]⟩ : ByteArray), (⟨#[]⟩ : ByteArray), (⟨#[]⟩ : ByteArray), ([] : List (S48))⟩ : S46), (⟨0, 3, (⟨#[98]⟩ : ByteArray), (⟨#[]⟩ : ByteArray), (⟨#[]⟩ : ByteArray), ([] : List (S48))⟩ : S46), (⟨0, 1, (⟨#[98]⟩ : ByteArray), (⟨#[]⟩ : ByteArray), (⟨#[]⟩ : ByteArray), ([] : List (S48))⟩ : S46)] : List (S46))) (inner := [.int .i64 0, .int .i64 0, .string (⟨#[117, 108]⟩ : ByteArray), .string (⟨#[]⟩ : ByteArray), .string (⟨#[]⟩ : ByteArray), .slice none 0 0, .int .i64 0, .int .i64 1, .string (⟨#[108, 105]⟩ : ByteArray), .string (⟨#[]⟩ : ByteArray), .string (⟨#[]⟩ : ByteArray), .slice Ao44 y303.length co44, .int .i64 0, .int .i64 2, .string (⟨#[112]⟩ : ByteArray), .string (⟨#[]⟩ : ByteArray), .string (⟨#[]⟩ : ByteArray), .slice none 0 0, .int .i64 0, .int .i64 3, .string (⟨#[98]⟩ : ByteArray), .string (⟨#[]⟩ : ByteArray), .string (⟨#[]⟩ : ByteArray), .slice none 0 0, .int .i64 0, .int .i64 1, .string (⟨#[98]⟩ : ByteArray), .string (⟨#[]⟩ : ByteArray), .string (⟨#[]⟩ : ByteArray), .slice none 0 0]) (ok := (fun k_ => some k_ ≠ (v300 : Value).ownBlock)) (okp := (fun k_ => some k_ ≠ (v300 : Value).ownBlock)) ?hr ?hp (fun _ hk => hk) ((show ∀ k_, w42.heap.size ≤ k_ → (fun k_ => some k_ ≠ (v300 : Value).ownBlock) k_ from fun k_ hk => Kd.fresh' (Kd.N_lt zz63) k_ hk) _ (Nat.le_refl _)) (Below.refl _ _) (Nat.le_refl _) (by simp) ?_; (case hd => rfl); (case hg => rfl); (case hr => exact zz6); (case hp => exact (Reps.c6 (show Kd.FK k46 _ _ (⟨0, 0, (⟨#[117, 108]⟩ : ByteArray), (⟨#[]⟩ : ByteArray), (⟨#[]⟩ : ByteArray), ([] : List (S48))⟩ : S46) [.int .i64 0, .int .i64 0, .string (⟨#[117, 108]⟩ : ByteArray), .string (⟨#[]⟩ : ByteArray), .string (⟨#[]⟩ : ByteArray), .slice none 0 0] from (k46_mkF _ _ (⟨0, 0, (⟨#[117, 108]⟩ : ByteArray), (⟨#[]⟩ : ByteArray), (⟨#[]⟩ : ByteArray), ([] : List (S48))⟩ : S46) (Nat.le_refl _) (Kd.F_nil _ _ _))) (Reps.c6 (show Kd.FK k46 _ _ (⟨0, 1, (⟨#[108, 105]⟩ : ByteArray), (⟨#[]⟩ : ByteArray), (⟨#[]⟩ : ByteArray), y303⟩ : S46) [.int .i64 0, .int .i64 1, .string (⟨#[108, 105]⟩ : ByteArray), .string (⟨#[]⟩ : ByteArray), .string (⟨#[]⟩ : ByteArray), .slice Ao44 y303.length co44] from (k46_mkF _ _ (⟨0, 1, (⟨#[108, 105]⟩ : ByteArray), (⟨#[]⟩ : ByteArray), (⟨#[]⟩ : ByteArray), y303⟩ : S46) (Kd.R_reads' (Kd.R_mono (ok' := (fun k_ => some k_ ≠ (v300 : Value).ownBlock)) (Kd.R_apart' (HO305.out) (Kd.N_typed HO301.out) (by decide)) (fun k_ hk => hk.2))).2.1 (Kd.R_F (Kd.R_mono (ok' := (fun k_ => some k_ ≠ (v300 : Value).ownBlock)) (Kd.R_apart' (HO305.out) (Kd.N_typed HO301.out) (by decide)) (fun k_ hk => hk.2))))) (Reps.c6 (show Kd.FK k46 _ _ (⟨0, 2, (⟨#[112]⟩ : ByteArray), (⟨#[]⟩ : ByteArray), (⟨#[]⟩ : ByteArray), ([] : List (S48))⟩ : S46) [.int .i64 0, .int .i64 2, .string (⟨#[112]⟩ : ByteArray), .string (⟨#[]⟩ : ByteArray), .string (⟨#[]⟩ : ByteArray), .slice none 0 0] from (k46_mkF _ _ (⟨0, 2, (⟨#[112]⟩ : ByteArray), (⟨#[]⟩ : ByteArray), (⟨#[]⟩ : ByteArray), ([] : List (S48))⟩ : S46) (Nat.le_refl _) (Kd.F_nil _ _ _))) (Reps.c6 (show Kd.FK k46 _ _ (⟨0, 3, (⟨#[98]⟩ : ByteArray), (⟨#[]⟩ : ByteArray), (⟨#[]⟩ : ByteArray), ([] : List (S48))⟩ : S46) [.int .i64 0, .int .i64 3, .string (⟨#[98]⟩ : ByteArray), .string (⟨#[]⟩ : ByteArray), .string (⟨#[]⟩ : ByteArray), .slice none 0 0] from (k46_mkF _ _ (⟨0, 3, (⟨#[98]⟩ : ByteArray), (⟨#[]⟩ : ByteArray), (⟨#[]⟩ : ByteArray), ([] : List (S48))⟩ : S46) (Nat.le_refl _) (Kd.F_nil _ _ _))) (Reps.c6 (show Kd.FK k46 _ _ (⟨0, 1, (⟨#[98]⟩ : ByteArray), (⟨#[]⟩ : ByteArray), (⟨#[]⟩ : ByteArray), ([] : List (S48))⟩ : S46) [.int .i64 0, .int .i64 1, .string (⟨#[98]⟩ : ByteArray), .string (⟨#[]⟩ : ByteArray), .string (⟨#[]⟩ : ByteArray), .slice none 0 0] from (k46_mkF _ _ (⟨0, 1, (⟨#[98]⟩ : ByteArray), (⟨#[]⟩ : ByteArray), (⟨#[]⟩ : ByteArray), ([] : List (S48))⟩ : S46) (Nat.le_refl _) (Kd.F_nil _ _ _))) (Reps.none _ _))))))); intro v307 w45 ho46 hb hg_ hnew_; clear hg_ hnew_; (first | rw [← Ny306.out] at ho46 | (simp only [Int.reduceToNat] at ho46; rw [← Ny306.out] at ho46)); have n0_ := qa.mk (Kd.N_elder' zz63 (Kd.N_base ho46) hb); have n1_ := qa.mk (Kd.N_lower ho46 (qo zz53)); have n2_ := qa.mk (qp zz53 hb); clear HO301; clear HB; clear HO305; have HO301 := n0_; have HO308 := n1_; have HB := n2_; clear n0_ n1_ n2_; clear hb ho46; obtain ⟨Ao47, co47, eo47⟩ := Kd.N_slice HO301.out; subst eo47) | ((with_reducible refine qy (f := 14) rfl ?_); refine qqb (some 20) rfl rfl Tryd.func14 (by kernel_rfl) rfl #[.slice Ao47 t299.length co47] rfl zz94 ?_; (with_reducible refine (query_Print.calls _ _ t299 t309 t310 _ ?side1 ?side2 ?side3 A2.out).mono ?_); (case side1 => exact zz90); (case side2 => exact zz125); (case side3 => exact (Kd.N_reads' HO301.out).2.1); rintro e w48 ⟨rfl, hb⟩; refine ⟨_, rfl, ?_⟩; have n0_ := qa.mk (Kd.N_below zz63 hb); have n1_ := qa.mk (Kd.N_below zz64 hb); have n2_ := qa.mk (qp zz53 hb); clear HO301; clear HO308; clear HB; have HO301 := n0_; have HO308 := n1_; have HB := n2_; clear n0_ n1_ n2_; (try clear hb); (try clear hb2); (try clear hk); (try clear hi)))
    go_ret
    exact ⟨zz103, zz53⟩
  ·rw [if_neg c4] at H
   have c4b0 : (t310 == 0) = false := beq_eq_false_iff_ne.mpr c4
   have c4b1 : (t310 != 0) = true := bne_iff_ne.mpr c4
   obtain rfl := Option.some.inj H
   go_enter Tryd.func5, Tryd.ntmps5
   go_wp2_with (first | ((with_reducible refine qy (f := 6) rfl ?_); refine qqb (some 7) rfl rfl Tryd.func6 (by kernel_rfl) rfl #[.string (⟨#[117, 108, 62, 108, 105, 91, 97, 61, 34, 49, 34, 93, 32, 98]⟩ : ByteArray)] rfl zz94 ?_; (with_reducible refine (qz.calls k (⟨#[117, 108, 62, 108, 105, 91, 97, 61, 34, 49, 34, 93, 32, 98]⟩ : ByteArray) t299 t302 _ ?side1 A1.out).mono ?_); (case side1 => exact zz90); rintro e w49 ⟨v300, rfl, ho0, hb⟩; refine ⟨_, rfl, ?_⟩; have n0_ := qa.mk (Kd.N_lower (Kd.N_mono (ok' := fun k_ => True) ho0 (fun k_ hk_ => trivial)) (qo zz53)); have n1_ := qa.mk (qp zz53 hb); clear HB; have HO301 := n0_; have HB := n1_; clear n0_ n1_; (try clear hb); (try clear hb2); (try clear hk); (try clear hi); (try clear ho0)) | ((with_reducible refine qeb (N := 12) rfl ?_); (try (refine qkc (by rfl) ?_; dsimp only)); refine Kd.R_lit k48 _ 48 ?hg (N := 12) ?hd (xs := ([(⟨(⟨#[97]⟩ : ByteArray), (⟨#[49]⟩ : ByteArray)⟩ : S48)] : List (S48))) (inner := [.string (⟨#[97]⟩ : ByteArray), .string (⟨#[49]⟩ : ByteArray)]) (ok := fun _ => True) (okp := fun _ => True) ?hr ?hp (fun _ hk => hk) trivial (Below.refl _ _) (Nat.le_refl _) (by simp) ?_; (case hd => rfl); (case hg => rfl); (case hr => exact zz6); (case hp => exact zz146); intro v304 w50 ho51 hb hg_ hnew_; clear hg_ hnew_; (first | rw [← Ny303.out] at ho51 | (simp only [Int.reduceToNat] at ho51; rw [← Ny303.out] at ho51)); have n0_ := qa.mk (Kd.N_elder' zz63 (Kd.R_base ho51) hb); have n1_ := qa.mk (Kd.R_lower ho51 (qo zz53)); have n2_ := qa.mk (qp zz53 hb); clear HO301; clear HB; have HO301 := n0_; have HO305 := n1_; have HB := n2_; clear n0_ n1_ n2_; clear hb ho51; obtain ⟨Ao52, co52, eo52⟩ := Kd.R_slice HO305.out; subst eo52) | ((with_reducible refine qeb (N := 17) rfl ?_); (try (refine qkc (by rfl) ?_; dsimp only)); refine Kd.N_lit k46 _ 46 ?hg (N' := 17) ?hd (xs := ([(⟨0, 0, (⟨#[117, 108]⟩ : ByteArray), (⟨#[]⟩ : ByteArray), (⟨#[]⟩ : ByteArray), ([] : List (S48))⟩ : S46), (⟨0, 1, (⟨#[108, 105]⟩ : ByteArray), (⟨#[]⟩ : ByteArray), (⟨#[]⟩ : ByteArray), y303⟩ : S46), (⟨0, 2, (⟨#[112]⟩ : ByteArray), (⟨#[]⟩ : ByteArray), (⟨#[]⟩ : ByteArray), ([] : List (S48))⟩ : S46), (⟨0, 3, (⟨#[98]⟩ : ByteArray), (⟨#[]⟩ : ByteArray), (⟨#[]⟩ : ByteArray), ([] : List (S48))⟩ : S46), (⟨0, 1, (⟨#[98]⟩ : ByteArray), (⟨#[]⟩ : ByteArray), (⟨#[]⟩ : ByteArray), ([] : List (S48))⟩ : S46)] : List (S46))) (inner := [.int .i64 0, .int .i64 0, .string (⟨#[117, 108]⟩ : ByteArray), .string (⟨#[]⟩ : ByteArray), .string (⟨#[]⟩ : ByteArray), .slice none 0 0, .int .i64 0, .int .i64 1, .string (⟨#[108, 105]⟩ : ByteArray), .string (⟨#[]⟩ : ByteArray), .string (⟨#[]⟩ : ByteArray), .slice Ao52 y303.length co52, .int .i64 0, .int .i64 2, .string (⟨#[112]⟩ : ByteArray), .string (⟨#[]⟩ : ByteArray), .string (⟨#[]⟩ : ByteArray), .slice none 0 0, .int .i64 0, .int .i64 3, .string (⟨#[98]⟩ : ByteArray), .string (⟨#[]⟩ : ByteArray), .string (⟨#[]⟩ : ByteArray), .slice none 0 0, .int .i64 0, .int .i64 1, .string (⟨#[98]⟩ : ByteArray), .string (⟨#[]⟩ : ByteArray), .string (⟨#[]⟩ : ByteArray), .slice none 0 0]) (ok := (fun k_ => some k_ ≠ (v300 : Value).ownBlock)) (okp := (fun k_ => some k_ ≠ (v300 : Value).ownBlock)) ?hr ?hp (fun _ hk => hk) ((show ∀ k_, w50.heap.size ≤ k_ → (fun k_ => some k_ ≠ (v300 : Value).ownBlock) k_ from fun k_ hk => Kd.fresh' (Kd.N_lt zz63) k_ hk) _ (Nat.le_refl _)) (Below.refl _ _) (Nat.le_refl _) (by simp) ?_; (case hd => rfl); (case hg => rfl); (case hr => exact zz6); (case hp => exact (Reps.c6 (show Kd.FK k46 _ _ (⟨0, 0, (⟨#[117, 108]⟩ : ByteArray), (⟨#[]⟩ : ByteArray), (⟨#[]⟩ : ByteArray), ([] : List (S48))⟩ : S46) [.int .i64 0, .int .i64 0, .string (⟨#[117, 108]⟩ : ByteArray), .string (⟨#[]⟩ : ByteArray), .string (⟨#[]⟩ : ByteArray), .slice none 0 0] from (k46_mkF _ _ (⟨0, 0, (⟨#[117, 108]⟩ : ByteArray), (⟨#[]⟩ : ByteArray), (⟨#[]⟩ : ByteArray), ([] : List (S48))⟩ : S46) (Nat.le_refl _) (Kd.F_nil _ _ _))) (Reps.c6 (show Kd.FK k46 _ _ (⟨0, 1, (⟨#[108, 105]⟩ : ByteArray), (⟨#[]⟩ : ByteArray), (⟨#[]⟩ : ByteArray), y303⟩ : S46) [.int .i64 0, .int .i64 1, .string (⟨#[108, 105]⟩ : ByteArray), .string (⟨#[]⟩ : ByteArray), .string (⟨#[]⟩ : ByteArray), .slice Ao52 y303.length co52] from (k46_mkF _ _ (⟨0, 1, (⟨#[108, 105]⟩ : ByteArray), (⟨#[]⟩ : ByteArray), (⟨#[]⟩ : ByteArray), y303⟩ : S46) (Kd.R_reads' (Kd.R_mono (ok' := (fun k_ => some k_ ≠ (v300 : Value).ownBlock)) (Kd.R_apart' (HO305.out) (Kd.N_typed HO301.out) (by decide)) (fun k_ hk => hk.2))).2.1 (Kd.R_F (Kd.R_mono (ok' := (fun k_ => some k_ ≠ (v300 : Value).ownBlock)) (Kd.R_apart' (HO305.out) (Kd.N_typed HO301.out) (by decide)) (fun k_ hk => hk.2))))) (Reps.c6 (show Kd.FK k46 _ _ (⟨0, 2, (⟨#[112]⟩ : ByteArray), (⟨#[]⟩ : ByteArray), (⟨#[]⟩ : ByteArray), ([] : List (S48))⟩ : S46) [.int .i64 0, .int .i64 2, .string (⟨#[112]⟩ : ByteArray), .string (⟨#[]⟩ : ByteArray), .string (⟨#[]⟩ : ByteArray), .slice none 0 0] from (k46_mkF _ _ (⟨0, 2, (⟨#[112]⟩ : ByteArray), (⟨#[]⟩ : ByteArray), (⟨#[]⟩ : ByteArray), ([] : List (S48))⟩ : S46) (Nat.le_refl _) (Kd.F_nil _ _ _))) (Reps.c6 (show Kd.FK k46 _ _ (⟨0, 3, (⟨#[98]⟩ : ByteArray), (⟨#[]⟩ : ByteArray), (⟨#[]⟩ : ByteArray), ([] : List (S48))⟩ : S46) [.int .i64 0, .int .i64 3, .string (⟨#[98]⟩ : ByteArray), .string (⟨#[]⟩ : ByteArray), .string (⟨#[]⟩ : ByteArray), .slice none 0 0] from (k46_mkF _ _ (⟨0, 3, (⟨#[98]⟩ : ByteArray), (⟨#[]⟩ : ByteArray), (⟨#[]⟩ : ByteArray), ([] : List (S48))⟩ : S46) (Nat.le_refl _) (Kd.F_nil _ _ _))) (Reps.c6 (show Kd.FK k46 _ _ (⟨0, 1, (⟨#[98]⟩ : ByteArray), (⟨#[]⟩ : ByteArray), (⟨#[]⟩ : ByteArray), ([] : List (S48))⟩ : S46) [.int .i64 0, .int .i64 1, .string (⟨#[98]⟩ : ByteArray), .string (⟨#[]⟩ : ByteArray), .string (⟨#[]⟩ : ByteArray), .slice none 0 0] from (k46_mkF _ _ (⟨0, 1, (⟨#[98]⟩ : ByteArray), (⟨#[]⟩ : ByteArray), (⟨#[]⟩ : ByteArray), ([] : List (S48))⟩ : S46) (Nat.le_refl _) (Kd.F_nil _ _ _))) (Reps.none _ _))))))); intro v307 w53 ho54 hb hg_ hnew_; clear hg_ hnew_; (first | rw [← Ny306.out] at ho54 | (simp only [Int.reduceToNat] at ho54; rw [← Ny306.out] at ho54)); have n0_ := qa.mk (Kd.N_elder' zz63 (Kd.N_base ho54) hb); have n1_ := qa.mk (Kd.N_lower ho54 (qo zz53)); have n2_ := qa.mk (qp zz53 hb); clear HO301; clear HB; clear HO305; have HO301 := n0_; have HO308 := n1_; have HB := n2_; clear n0_ n1_ n2_; clear hb ho54; obtain ⟨Ao55, co55, eo55⟩ := Kd.N_slice HO301.out; subst eo55) | ((with_reducible refine qy (f := 14) rfl ?_); refine qqb (some 20) rfl rfl Tryd.func14 (by kernel_rfl) rfl #[.slice Ao55 t299.length co55] rfl zz94 ?_; (with_reducible refine (query_Print.calls _ _ t299 t309 t310 _ ?side1 ?side2 ?side3 A2.out).mono ?_); (case side1 => exact zz90); (case side2 => exact zz125); (case side3 => exact (Kd.N_reads' HO301.out).2.1); rintro e w56 ⟨rfl, hb⟩; refine ⟨_, rfl, ?_⟩; have n0_ := qa.mk (Kd.N_below zz63 hb); have n1_ := qa.mk (Kd.N_below zz64 hb); have n2_ := qa.mk (qp zz53 hb); clear HO301; clear HO308; clear HB; have HO301 := n0_; have HO308 := n1_; have HB := n2_; clear n0_ n1_ n2_; (try clear hb); (try clear hb2); (try clear hk); (try clear hi)))
   go_ret
   exact ⟨zz103, zz53⟩
 ·rw [if_neg c3] at H
  have c3b0 : (t302 == 0) = false := beq_eq_false_iff_ne.mpr c3
  have c3b1 : (t302 != 0) = true := bne_iff_ne.mpr c3
  obtain rfl := Option.some.inj H
  go_enter Tryd.func5, Tryd.ntmps5
  go_wp2_with (first | ((with_reducible refine qy (f := 6) rfl ?_); refine qqb (some 7) rfl rfl Tryd.func6 (by kernel_rfl) rfl #[.string (⟨#[117, 108, 62, 108, 105, 91, 97, 61, 34, 49, 34, 93, 32, 98]⟩ : ByteArray)] rfl zz94 ?_; (with_reducible refine (qz.calls k (⟨#[117, 108, 62, 108, 105, 91, 97, 61, 34, 49, 34, 93, 32, 98]⟩ : ByteArray) t299 t302 _ ?side1 A1.out).mono ?_); (case side1 => exact zz90); rintro e w57 ⟨v300, rfl, ho0, hb⟩; refine ⟨_, rfl, ?_⟩; have n0_ := qa.mk (Kd.N_lower (Kd.N_mono (ok' := fun k_ => True) ho0 (fun k_ hk_ => trivial)) (qo zz53)); have n1_ := qa.mk (qp zz53 hb); clear HB; have HO301 := n0_; have HB := n1_; clear n0_ n1_; (try clear hb); (try clear hb2); (try clear hk); (try clear hi); (try clear ho0)) | ((with_reducible refine qeb (N := 12) rfl ?_); (try (refine qkc (by rfl) ?_; dsimp only)); refine Kd.R_lit k48 _ 48 ?hg (N := 12) ?hd (xs := ([(⟨(⟨#[97]⟩ : ByteArray), (⟨#[49]⟩ : ByteArray)⟩ : S48)] : List (S48))) (inner := [.string (⟨#[97]⟩ : ByteArray), .string (⟨#[49]⟩ : ByteArray)]) (ok := fun _ => True) (okp := fun _ => True) ?hr ?hp (fun _ hk => hk) trivial (Below.refl _ _) (Nat.le_refl _) (by simp) ?_; (case hd => rfl); (case hg => rfl); (case hr => exact zz6); (case hp => exact zz146); intro v304 w58 ho59 hb hg_ hnew_; clear hg_ hnew_; (first | rw [← Ny303.out] at ho59 | (simp only [Int.reduceToNat] at ho59; rw [← Ny303.out] at ho59)); have n0_ := qa.mk (Kd.N_elder' zz63 (Kd.R_base ho59) hb); have n1_ := qa.mk (Kd.R_lower ho59 (qo zz53)); have n2_ := qa.mk (qp zz53 hb); clear HO301; clear HB; have HO301 := n0_; have HO305 := n1_; have HB := n2_; clear n0_ n1_ n2_; clear hb ho59; obtain ⟨Ao60, co60, eo60⟩ := Kd.R_slice HO305.out; subst eo60) | ((with_reducible refine qeb (N := 17) rfl ?_); (try (refine qkc (by rfl) ?_; dsimp only)); refine Kd.N_lit k46 _ 46 ?hg (N' := 17) ?hd (xs := ([(⟨0, 0, (⟨#[117, 108]⟩ : ByteArray), (⟨#[]⟩ : ByteArray), (⟨#[]⟩ : ByteArray), ([] : List (S48))⟩ : S46), (⟨0, 1, (⟨#[108, 105]⟩ : ByteArray), (⟨#[]⟩ : ByteArray), (⟨#[]⟩ : ByteArray), y303⟩ : S46), (⟨0, 2, (⟨#[112]⟩ : ByteArray), (⟨#[]⟩ : ByteArray), (⟨#[]⟩ : ByteArray), ([] : List (S48))⟩ : S46), (⟨0, 3, (⟨#[98]⟩ : ByteArray), (⟨#[]⟩ : ByteArray), (⟨#[]⟩ : ByteArray), ([] : List (S48))⟩ : S46), (⟨0, 1, (⟨#[98]⟩ : ByteArray), (⟨#[]⟩ : ByteArray), (⟨#[]⟩ : ByteArray), ([] : List (S48))⟩ : S46)] : List (S46))) (inner := [.int .i64 0, .int .i64 0, .string (⟨#[117, 108]⟩ : ByteArray), .string (⟨#[]⟩ : ByteArray), .string (⟨#[]⟩ : ByteArray), .slice none 0 0, .int .i64 0, .int .i64 1, .string (⟨#[108, 105]⟩ : ByteArray), .string (⟨#[]⟩ : ByteArray), .string (⟨#[]⟩ : ByteArray), .slice Ao60 y303.length co60, .int .i64 0, .int .i64 2, .string (⟨#[112]⟩ : ByteArray), .string (⟨#[]⟩ : ByteArray), .string (⟨#[]⟩ : ByteArray), .slice none 0 0, .int .i64 0, .int .i64 3, .string (⟨#[98]⟩ : ByteArray), .string (⟨#[]⟩ : ByteArray), .string (⟨#[]⟩ : ByteArray), .slice none 0 0, .int .i64 0, .int .i64 1, .string (⟨#[98]⟩ : ByteArray), .string (⟨#[]⟩ : ByteArray), .string (⟨#[]⟩ : ByteArray), .slice none 0 0]) (ok := (fun k_ => some k_ ≠ (v300 : Value).ownBlock)) (okp := (fun k_ => some k_ ≠ (v300 : Value).ownBlock)) ?hr ?hp (fun _ hk => hk) ((show ∀ k_, w58.heap.size ≤ k_ → (fun k_ => some k_ ≠ (v300 : Value).ownBlock) k_ from fun k_ hk => Kd.fresh' (Kd.N_lt zz63) k_ hk) _ (Nat.le_refl _)) (Below.refl _ _) (Nat.le_refl _) (by simp) ?_; (case hd => rfl); (case hg => rfl); (case hr => exact zz6); (case hp => exact (Reps.c6 (show Kd.FK k46 _ _ (⟨0, 0, (⟨#[117, 108]⟩ : ByteArray), (⟨#[]⟩ : ByteArray), (⟨#[]⟩ : ByteArray), ([] : List (S48))⟩ : S46) [.int .i64 0, .int .i64 0, .string (⟨#[117, 108]⟩ : ByteArray), .string (⟨#[]⟩ : ByteArray), .string (⟨#[]⟩ : ByteArray), .slice none 0 0] from (k46_mkF _ _ (⟨0, 0, (⟨#[117, 108]⟩ : ByteArray), (⟨#[]⟩ : ByteArray), (⟨#[]⟩ : ByteArray), ([] : List (S48))⟩ : S46) (Nat.le_refl _) (Kd.F_nil _ _ _))) (Reps.c6 (show Kd.FK k46 _ _ (⟨0, 1, (⟨#[108, 105]⟩ : ByteArray), (⟨#[]⟩ : ByteArray), (⟨#[]⟩ : ByteArray), y303⟩ : S46) [.int .i64 0, .int .i64 1, .string (⟨#[108, 105]⟩ : ByteArray), .string (⟨#[]⟩ : ByteArray), .string (⟨#[]⟩ : ByteArray), .slice Ao60 y303.length co60] from (k46_mkF _ _ (⟨0, 1, (⟨#[108, 105]⟩ : ByteArray), (⟨#[]⟩ : ByteArray), (⟨#[]⟩ : ByteArray), y303⟩ : S46) (Kd.R_reads' (Kd.R_mono (ok' := (fun k_ => some k_ ≠ (v300 : Value).ownBlock)) (Kd.R_apart' (HO305.out) (Kd.N_typed HO301.out) (by decide)) (fun k_ hk => hk.2))).2.1 (Kd.R_F (Kd.R_mono (ok' := (fun k_ => some k_ ≠ (v300 : Value).ownBlock)) (Kd.R_apart' (HO305.out) (Kd.N_typed HO301.out) (by decide)) (fun k_ hk => hk.2))))) (Reps.c6 (show Kd.FK k46 _ _ (⟨0, 2, (⟨#[112]⟩ : ByteArray), (⟨#[]⟩ : ByteArray), (⟨#[]⟩ : ByteArray), ([] : List (S48))⟩ : S46) [.int .i64 0, .int .i64 2, .string (⟨#[112]⟩ : ByteArray), .string (⟨#[]⟩ : ByteArray), .string (⟨#[]⟩ : ByteArray), .slice none 0 0] from (k46_mkF _ _ (⟨0, 2, (⟨#[112]⟩ : ByteArray), (⟨#[]⟩ : ByteArray), (⟨#[]⟩ : ByteArray), ([] : List (S48))⟩ : S46) (Nat.le_refl _) (Kd.F_nil _ _ _))) (Reps.c6 (show Kd.FK k46 _ _ (⟨0, 3, (⟨#[98]⟩ : ByteArray), (⟨#[]⟩ : ByteArray), (⟨#[]⟩ : ByteArray), ([] : List (S48))⟩ : S46) [.int .i64 0, .int .i64 3, .string (⟨#[98]⟩ : ByteArray), .string (⟨#[]⟩ : ByteArray), .string (⟨#[]⟩ : ByteArray), .slice none 0 0] from (k46_mkF _ _ (⟨0, 3, (⟨#[98]⟩ : ByteArray), (⟨#[]⟩ : ByteArray), (⟨#[]⟩ : ByteArray), ([] : List (S48))⟩ : S46) (Nat.le_refl _) (Kd.F_nil _ _ _))) (Reps.c6 (show Kd.FK k46 _ _ (⟨0, 1, (⟨#[98]⟩ : ByteArray), (⟨#[]⟩ : ByteArray), (⟨#[]⟩ : ByteArray), ([] : List (S48))⟩ : S46) [.int .i64 0, .int .i64 1, .string (⟨#[98]⟩ : ByteArray), .string (⟨#[]⟩ : ByteArray), .string (⟨#[]⟩ : ByteArray), .slice none 0 0] from (k46_mkF _ _ (⟨0, 1, (⟨#[98]⟩ : ByteArray), (⟨#[]⟩ : ByteArray), (⟨#[]⟩ : ByteArray), ([] : List (S48))⟩ : S46) (Nat.le_refl _) (Kd.F_nil _ _ _))) (Reps.none _ _))))))); intro v307 w61 ho62 hb hg_ hnew_; clear hg_ hnew_; (first | rw [← Ny306.out] at ho62 | (simp only [Int.reduceToNat] at ho62; rw [← Ny306.out] at ho62)); have n0_ := qa.mk (Kd.N_elder' zz63 (Kd.N_base ho62) hb); have n1_ := qa.mk (Kd.N_lower ho62 (qo zz53)); have n2_ := qa.mk (qp zz53 hb); clear HO301; clear HB; clear HO305; have HO301 := n0_; have HO308 := n1_; have HB := n2_; clear n0_ n1_ n2_; clear hb ho62; obtain ⟨Ao63, co63, eo63⟩ := Kd.N_slice HO301.out; subst eo63) | ((with_reducible refine qy (f := 14) rfl ?_); refine qqb (some 20) rfl rfl Tryd.func14 (by kernel_rfl) rfl #[.slice Ao63 t299.length co63] rfl zz94 ?_; (with_reducible refine (query_Print.calls _ _ t299 t309 t310 _ ?side1 ?side2 ?side3 A2.out).mono ?_); (case side1 => exact zz90); (case side2 => exact zz125); (case side3 => exact (Kd.N_reads' HO301.out).2.1); rintro e w64 ⟨rfl, hb⟩; refine ⟨_, rfl, ?_⟩; have n0_ := qa.mk (Kd.N_below zz63 hb); have n1_ := qa.mk (Kd.N_below zz64 hb); have n2_ := qa.mk (qp zz53 hb); clear HO301; clear HO308; clear HB; have HO301 := n0_; have HO308 := n1_; have HB := n2_; clear n0_ n1_ n2_; (try clear hb); (try clear hb2); (try clear hk); (try clear hi)))
  go_ret
  exact ⟨zz103, zz53⟩
end Go.Proofs.YtjbobecnlpiejaaDoor.Q
namespace Go.Proofs.YtjbobecnlpiejaaDoor.Q.P
open Go.Proofs.YtjbobecnlpiejaaDoorZ
open Go.RowKit Go.Proofs.YtjbobecnlpiejaaDoorW.PrintWords Go.Proofs.YtjbobecnlpiejaaDoorW.PrintLast Go.Proofs.YtjbobecnlpiejaaDoorW.PrintMore
theorem same_ok : qlc.f 80 = some true := by decide +kernel
theorem same_ev : Ev (fun k => qlc.f k) true := Ev.of (g := fun k => qlc.f k) (fun k => qlc.mono k) same_ok
structure ReadYes (k : Nat) (s : ByteArray) (l : List S41) (x : List S60) (t : ByteArray) : Prop where
 parse : qz.f k s = some (l, 0)
 own : qkb.f k l = some x
 rcheck : qn.f k x = some true
 rprint : qw.f k x = some t
 texts : t.toList = s.toList
def QRFacts (k : Nat) (s : ByteArray) : Prop :=
 qlc.f k = some true ∧ (2000 < s.size ∨ s.size ≤ 2000 ∧ (qz.f k s = some (([] : List S41), 2) ∨ ∃ l x t, ReadYes k s l x t))
set_option maxHeartbeats 8000000 in
set_option maxRecDepth 100000 in
theorem QueryReads_calls (k : Nat) (s : ByteArray) (w : World) (hG : Glob w) (h : QRFacts k s) :
  Calls Tryd.prog 3 #[.string s] w fun e w' => e = .returned (.bool true) ∧ Below w.heap.size w w' := by
 obtain ⟨hsame, h⟩ := h
 have HS := qa.mk hsame
 have HG := qa.mk hG
 clear hsame hG
 rcases h with h | ⟨hs, h⟩
 ·have hgt : (2000 : Int) < (s.size : Int) := by omega
  go_enter Tryd.func3, Tryd.ntmps3
  go_wp2_with (go_at_call 5; refine (qlc.calls k true _ HG.out HS.out).mono ?_; rintro e w2 ⟨rfl, hb2⟩)
  go_ret
  exact ⟨rfl, hb2⟩
 ·have hle : (s.size : Int) ≤ 2000 := by omega
  rcases h with h | ⟨l, x, t, h⟩
  ·have HP := qa.mk h
   clear h
   go_enter Tryd.func3, Tryd.ntmps3
   go_wp2_with (first
    | (go_at_call 6; refine (qz.calls k s _ _ _ HG.out HP.out).mono ?_; rintro e w5 ⟨v, rfl, hv, hb5⟩; obtain ⟨Am, cm, rfl, hcm, hrm⟩ := Kd.N_reads hv; have HB5 := qa.mk hb5; clear hb5 hv hcm hrm; simp only [List.length_nil])
    | (go_at_call 5; refine (qlc.calls k true _ (Glob.below HG.out HB5.out) HS.out).mono ?_; rintro e w6 ⟨rfl, hb6⟩; have HB6 := qa.mk (qp HB5.out hb6); clear hb6))
   go_ret
   exact ⟨rfl, HB6.out⟩
  ·have HP := qa.mk h
   clear h
   have ht : (t.toList == s.toList) = true := by rw [HP.out.texts]; simp
   go_enter Tryd.func3, Tryd.ntmps3
   go_wp2_with (first
    | (go_at_call 6; refine (qz.calls k s l 0 _ HG.out HP.out.parse).mono ?_; rintro e w5 ⟨v, rfl, hv, hb5⟩; obtain ⟨Am, cm, rfl, hcm, hrm⟩ := Kd.N_reads hv; have HM5 := qa.mk (And.intro hrm hcm); have HB5 := qa.mk hb5; clear hb5 hv hcm hrm)
    | (go_at_call 7; refine (qkb.calls k _ _ l x _ HM5.out.1 HM5.out.2 HP.out.own).mono ?_; rintro e w8 ⟨v, rfl, hv, hb8⟩; obtain ⟨Ay, cy, rfl, hcy, hry⟩ := Kd.S_reads hv; have HX8 := qa.mk (And.intro hry hcy); have HB8 := qa.mk (qp HB5.out hb8); clear hb8 hv hcy hry)
    | (go_at_call 8; refine (qn.calls k _ _ x true _ HX8.out.1 HX8.out.2 HP.out.rcheck).mono ?_; rintro e w4 ⟨rfl, hb4⟩; have HX4 := qa.mk (And.intro (Kd.C_below HX8.out.1 hb4) HX8.out.2); have HB4 := qa.mk (qp HB8.out hb4); clear hb4)
    | (go_at_call 9; refine (qw.calls k _ _ x t _ HX4.out.1 HX4.out.2 HP.out.rprint).mono ?_; rintro e w7 ⟨rfl, hb7⟩; have HB7 := qa.mk (qp HB4.out hb7); clear hb7)
    | (go_at_call 5; refine (qlc.calls k true _ (Glob.below HG.out HB7.out) HS.out).mono ?_; rintro e w10 ⟨rfl, hb10⟩; have HB10 := qa.mk (qp HB7.out hb10); clear hb10))
   go_ret
   exact ⟨rfl, HB10.out⟩
theorem selOK_len {l : List S41} (h : selOK l = true) : l.length ≤ 1000 ∧ ∀ p ∈ l, p.f4.length ≤ 1000 := by
 obtain ⟨h1, h2⟩ := selOK_parts h
 refine ⟨by omega, fun p hp => ?_⟩
 have h3 := List.all_eq_true.1 h2 p hp
 rw [partOK_head, Bool.and_eq_true] at h3
 have := (headOK_len h3.1).2.2
 omega
theorem qr_pure (s : ByteArray) : ∃ k, QRFacts k s := by
 obtain ⟨Ks, hs⟩ := same_ev
 by_cases h : s.size ≤ 2000
 ·obtain ⟨r, ⟨Kp, hp⟩, hR⟩ := parse_any s.data.toList zz0
  rw [mk_of] at hp
  rcases hR with rfl | ⟨l, rfl, hok, hsel⟩
  ·exact ⟨Ks + Kp, hs _ (by omega), .inr ⟨h, .inl (hp _ (by omega))⟩⟩
  ·obtain ⟨h1, h2⟩ := selOK_len hok
   obtain ⟨Ko, ho⟩ := own_spec l h1 h2
   obtain ⟨Kr, hr⟩ := rcheck_spec l
   obtain ⟨Kt, ht⟩ := rprint_spec l hok
   rw [hok] at hr
   exact ⟨Ks + Kp + Ko + Kr + Kt, hs _ (by omega), .inr ⟨h, .inr ⟨l, l.map toP, ⟨(selL l).toArray⟩, hp _ (by omega), ho _ (by omega), hr _ (by omega), ht _ (by omega), by rw [Lib.toList_data, Lib.toList_data]; exact hsel⟩⟩⟩
 ·exact ⟨Ks, hs _ (by omega), .inl (by omega)⟩
end Go.Proofs.YtjbobecnlpiejaaDoor.Q.P
namespace Go.Proofs.YtjbobecnlpiejaaDoor.Q.P
open Go.Proofs.YtjbobecnlpiejaaDoorZ
open Go.RowKit Go.Proofs.YtjbobecnlpiejaaDoorW.PrintWords Go.Proofs.YtjbobecnlpiejaaDoorW.PrintLast Go.Proofs.YtjbobecnlpiejaaDoorW.PrintMore Go.ChangeShapes Go.WideShapes Go.ChangeAt Go.ChangeMaps
theorem door_met (os : Os) (args : Array Value) : laidMetH Tryd.prog Rows.queryReadsRow.laid ((World.doorLaid Tryd.prog 400 os).forCall (fun _ _ => 0) ⟨#[], args, []⟩).memory :=
 laidMetH_of_parts3 (fuel := 8) (laidMet_of_run' 8 (by kernel_rfl) (by kernel_rfl)) (by kernel_rfl) (by kernel_rfl)
set_option maxRecDepth 100000 in
theorem reads_lifted (os : Os) (started : os.Started) (H : Type) (enc : TypeId × Value → H) :
  ReturnsInHanded {} Tryd.checked os 3 .any (fun w args => (Rows.queryReadsSpec.pre enc Tryd.prog Tryd.f3 [] false w args ∧ laidMetH Tryd.prog Rows.queryReadsRow.laid w) ∧ sizedMet enc Tryd.prog Tryd.f3 (OpenSpec.ofChange Rows.queryReadsSpec) false w args)
   (Rows.queryReadsSpec.post enc Tryd.prog Tryd.f3 false true false false) := by
 refine returnsInHanded_of_change_and (C := Tryd.checked) (X := fun w _ => laidMetH Tryd.prog Rows.queryReadsRow.laid w) (fun _ _ _ hh h => h.of_heap hh) own started (by kernel_rfl) Tryd.func3
  (ChangeSpec.witness_shaped (enc := enc) (C := Tryd.checked) (os := os) (X := fun w _ => laidMetH Tryd.prog Rows.queryReadsRow.laid w) false (World.doorLaid Tryd.prog 400 os) #[.string ByteArray.empty] 8 rfl (World.shaped_of_RefB (by kernel_rfl) (by kernel_rfl)) (by kernel_rfl) (by kernel_rfl) (by kernel_rfl) (door_met os _)) ?_
 intro W base args ds gs before hval0 hW _ hsz0 hL _
 have hsz : (DataW.weightsEach Tryd.prog (Tryd.f3.params.toList ++ Rows.queryReadsSpec.plain.varTypes Tryd.prog) (ds ++ gs)).all (· ≤ reachBytes) = true := hsz0
 have hval : ∀ (j : Nat) t v, Tryd.f3.params[j]? = some t → args[j]? = some v → Value.okWide Tryd.prog W .any base t v := hval0
 have hW' := hW
 obtain ⟨p, q, hA0, hV, rfl, hfz, hnd⟩ := hW
 have hA : DataW.TrodAll enc Tryd.prog W 0 (fun _ => true) true Tryd.f3.params.toList args.toList ds p := hA0
 rw [Tryd.params3] at hA hval hsz
 obtain ⟨v0, vs0, d0, ds0, p0, q0, hargs, rfl, rfl, h0, r0⟩ := trodAll_cons hA
 obtain ⟨rfl, rfl, rfl⟩ := trodAll_nil r0
 obtain rfl : args = #[v0] := by cases args; simp_all
 obtain ⟨rfl, rfl⟩ := trodVars_none hV
 obtain ⟨s, rfl, rfl, rfl, y0⟩ := open_string Tryd.underlying9 (hval 0 9 v0 rfl rfl) h0
 have hG : Glob W := by
  rw [show laidMetH Tryd.prog Rows.queryReadsRow.laid W = laidMet Tryd.prog Rows.queryReadsRow.laid W from MakeChecks.laidMetH_plain _ _ _ (by kernel_rfl)] at hL
  exact glob_of_laid hL
 clear hA0 hval0 hsz hsz0
 obtain ⟨k, hk⟩ := qr_pure s
 refine (QueryReads_calls k s W hG hk).mono fun e W' ⟨he, bel⟩ => ?_
 subst he
 exact ⟨_, rfl, _, _, _, [], _, [], hW', trodAll_mk1 (shut_bool Tryd.underlying4 _), (trodAll_cons_mk (shut_string Tryd.underlying9 y0) trodAll_mk0), rfl, bel.frame _, fun h => by cases h⟩
theorem reads_holds : Rows.QueryReadsSaid :=
 OpenClaim.holds_of_wide 3 Tryd.f3 rfl rfl rfl rfl rfl rfl rfl ⟨rfl, rfl, rfl, rfl, rfl⟩ rfl rfl rfl rfl rfl (by kernel_rfl) Tryd.func3 (by kernel_rfl)
  (of_decide_eq_true (by kernel_rfl)) (by unfold Func.isWrapper; first | (rw [if_pos (by decide +kernel)]; kernel_rfl) | (rw [if_neg (by decide +kernel)]; exact ⟨rfl, rfl⟩))
  (fun os started H enc _ => reads_lifted os started H enc)
theorem reads_card : Rows.QueryReadsCardSaid :=
 Claim7.holds_tied_plain_at .later [] [.data, .data, .data, .sentinel, .sentinel] true (true, "216a43bf2c0ffdf810b928012f0be2576e05298b56ecf024a156cf9eaf3d7a53") true
  reads_holds (fun _ h => by cases h) (by kernel_rfl) (fun _ h => by cases h) queryReads_row_tie rfl ⟨rfl, rfl⟩ (by kernel_rfl) rfl
  (fun f fn hf hfn => by
   obtain rfl : f = 3 := Option.some.inj ((show Tryd.prog.funcNamed "tendril/tendrillaw22.QueryReads" = some 3 by kernel_rfl).symm.trans hf) |>.symm
   obtain rfl : fn = Tryd.f3 := (Option.some.inj (Tryd.func3.symm.trans hfn)).symm
   exact ⟨by kernel_rfl, fun j t ht => by
    rw [Tryd.params3] at ht
    have hm : t ∈ [9] := by simpa using Array.mem_of_getElem? ht
    have hall : ([9].all fun u => !Tryd.prog.wantsStandIn u) = true := by kernel_rfl
    exact (show Tryd.prog.wantsStandIn t = false by simpa using List.all_eq_true.1 hall t hm)⟩)
  (by kernel_rfl)
end Go.Proofs.YtjbobecnlpiejaaDoor.Q.P
