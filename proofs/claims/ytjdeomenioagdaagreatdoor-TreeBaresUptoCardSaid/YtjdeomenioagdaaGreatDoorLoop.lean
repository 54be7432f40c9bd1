/- Loops, by the program. -/
import Derived.Test.YtjdeomenioagdaaGreatDoorBlock
set_option linter.unusedVariables false
set_option linter.unusedSimpArgs false
namespace Go.Proofs.YtjdeomenioagdaaGreatDoor
open Go.RowKit
def loopE (n : Node) : Bool := decide (0 ≤ n.n) && decide (n.n ≤ 3) && n.kids.length == loopN n.n && bareB n (n.n == 3) false true && lastB n.kids && loopB n
theorem RoW.cells {W : World} {B : Nat} : ∀ (p : RoW W B) (a : Addr), a.block < B → p.w.cell? a = W.cell? a := fun p a h => p.cell a h
theorem Ro.nonempty (W : World) : Nonempty (RoW W W.heap.size) := ⟨⟨W, Ro.self W⟩⟩
def sizesO : Obj := .cells #[.int .i64 1, .int .i64 2, .int .i64 4, .int .i64 3] 98
theorem sizes_at (w : World) : (w.alloc sizesO).cell? ⟨w.heap.size, 0, none⟩ = some (.int .i64 1) ∧ (w.alloc sizesO).cell? ⟨w.heap.size, 1, none⟩ = some (.int .i64 2) ∧ (w.alloc sizesO).cell? ⟨w.heap.size, 2, none⟩ = some (.int .i64 4) ∧
    (w.alloc sizesO).cell? ⟨w.heap.size, 3, none⟩ = some (.int .i64 3) ∧ w.heap.size < (w.alloc sizesO).heap.size := ⟨cell_new _ _ _ _, cell_new _ _ _ _, cell_new _ _ _ _, cell_new _ _ _ _, by simp⟩
theorem kid1_at {w : World} {B : Nat} {ad : Addr} {l : List Node} {c : Nat} (hk : KidsAt w B (some ad) l c) {i : Nat} (h : i < l.length) (hi : i * 8 ≠ 0) : NodeAt w B (fld ad (i * 8)) l[i] := by
  have := hk.at_ ad rfl i h
  rwa [add_fld ad hi] at this
set_option maxHeartbeats 40000000 in
set_option maxRecDepth 100000 in
theorem loop_no1 {w0 w : World} {B : Nat} {a : Addr} {n : Node} (hn : NodeAt w0 B a n) (hr : Ro w0 B w) (hN : decide (n.n < 0) = true ∨ decide (n.n < 0) = false ∧ decide (3 < n.n) = true) :
    Calls Tryz.prog 63 #[.pointer (some a)] w fun e w' => e = .returned (.bool (loopE n)) ∧ Ro w0 B w' := by
  obtain ⟨A, c, hb, c0, c1, c2, c3, c7, hk⟩ := hn.open_
  have hc := hr.cell
  have hl := hk.le
  have hl' := hk.le'
  have hz := hr.lt hb
  have E : Hid (loopE n = false) := by
    show _ = _
    simp only [decide_eq_true_eq, decide_eq_false_iff_not] at hN
    unfold loopE
    rcases hN with h | ⟨_, h⟩
    · rw [decide_eq_false (by omega)]; rfl
    · rw [decide_eq_false (p := n.n ≤ 3) (by omega)]; simp
  clear hk
  rcases hN with hN | ⟨hN, hN'⟩
  all_goals go_enter Tryz.func63, Tryz.ntmps63
  all_goals go_wp2_with fail
  all_goals (obtain ⟨W, hW⟩ : ∃ W, W = w.alloc sizesO := ⟨_, rfl⟩)
  all_goals (have hW' : w.alloc sizesO = W := hW.symm)
  all_goals unfold sizesO at hW'
  all_goals rw [hW']
  all_goals clear hW'
  all_goals (have hrW : Ro w0 B W := hW ▸ hr.alloc _)
  all_goals (obtain ⟨g0, g1, g2, g3, gz⟩ := sizes_at w)
  all_goals rw [← hW] at g0 g1 g2 g3 gz
  all_goals clear hW
  all_goals generalize w.heap.size = g at g0 g1 g2 g3 gz ⊢
  all_goals (have hnW := hrW.node hn)
  all_goals clear c0 c1 c2 c3 c7 hc hl hl' hz hb
  all_goals (obtain ⟨A', c', hb, c0, c1, c2, c3, c7, hk'⟩ := hnW.open_)
  all_goals (have hne := Ro.nonempty W)
  all_goals (have hcq := @RoW.cells W W.heap.size)
  all_goals refine wp_region_ro (Ro.self W) (by kernel_rfl) (by kernel_rfl) ?_
  all_goals repeat (any_goals (first
    | go_big_quiet_step (first
        | fail)
    | quiet_step (first
        | fail)))
  all_goals refine wpQuiet_nil ?_
  all_goals (intro w1 hr1; have hc1 := hr1.cell)
  all_goals go_wp2
  all_goals go_ret
  all_goals exact ⟨ret_bool E.out.symm, hrW.trans_ hr1⟩
set_option maxHeartbeats 40000000 in
set_option maxRecDepth 100000 in
theorem loop_no2 {w0 w : World} {B : Nat} {a : Addr} {n : Node} (hn : NodeAt w0 B a n) (hr : Ro w0 B w) (hN : n.n = 0 ∨ n.n = 1 ∨ n.n = 2 ∨ n.n = 3) (hlen : n.kids.length ≠ loopN n.n) :
    Calls Tryz.prog 63 #[.pointer (some a)] w fun e w' => e = .returned (.bool (loopE n)) ∧ Ro w0 B w' := by
  obtain ⟨A, c, hb, c0, c1, c2, c3, c7, hk⟩ := hn.open_
  have hc := hr.cell
  have hl := hk.le
  have hl' := hk.le'
  have hz := hr.lt hb
  have E : Hid (loopE n = false) := by
    show _ = _
    unfold loopE
    rw [beq_eq_false_iff_ne.2 hlen]
    simp
  clear hk
  have hq : ((n.kids.length : Int) != loopN n.n) = true := by rw [bne_iff_ne]; omega
  clear hlen
  rcases hN with hv | hv | hv | hv
  all_goals rw [hv] at hq
  all_goals simp only [loopN, Int.reduceBEq, reduceIte, Int.cast_ofNat_Int, Bool.false_eq_true] at hq
  all_goals go_enter Tryz.func63, Tryz.ntmps63
  all_goals go_wp2_with fail
  all_goals (obtain ⟨W, hW⟩ : ∃ W, W = w.alloc sizesO := ⟨_, rfl⟩)
  all_goals (have hW' : w.alloc sizesO = W := hW.symm)
  all_goals unfold sizesO at hW'
  all_goals rw [hW']
  all_goals clear hW'
  all_goals (have hrW : Ro w0 B W := hW ▸ hr.alloc _)
  all_goals (obtain ⟨g0, g1, g2, g3, gz⟩ := sizes_at w)
  all_goals rw [← hW] at g0 g1 g2 g3 gz
  all_goals clear hW
  all_goals generalize w.heap.size = g at g0 g1 g2 g3 gz ⊢
  all_goals (have hnW := hrW.node hn)
  all_goals clear c0 c1 c2 c3 c7 hc hl hl' hz hb
  all_goals (obtain ⟨A', c', hb, c0, c1, c2, c3, c7, hk'⟩ := hnW.open_)
  all_goals (have hne := Ro.nonempty W)
  all_goals (have hcq := @RoW.cells W W.heap.size)
  all_goals refine wp_region_ro (Ro.self W) (by kernel_rfl) (by kernel_rfl) ?_
  all_goals repeat (any_goals (first
    | go_big_quiet_step (first
        | fail)
    | quiet_step (first
        | fail)))
  all_goals refine wpQuiet_nil ?_
  all_goals (intro w1 hr1; have hc1 := hr1.cell)
  all_goals go_wp2
  all_goals go_ret
  all_goals exact ⟨ret_bool E.out.symm, hrW.trans_ hr1⟩
set_option maxHeartbeats 40000000 in
set_option maxRecDepth 100000 in
theorem loop_v0 {w0 w : World} {B : Nat} {a : Addr} {n : Node} {m : Nat} (ih : StmtIH m) (hn : NodeAt w0 B a n) (hm : n.size ≤ m + 1) (hr : Ro w0 B w) (hv : n.n = 0) (hlen : n.kids.length = 1) :
    Calls Tryz.prog 63 #[.pointer (some a)] w fun e w' => e = .returned (.bool (loopE n)) ∧ Ro w0 B w' := by
  obtain ⟨A, c, hb, c0, c1, c2, c3, c7, hk⟩ := hn.open_
  have hc := hr.cell
  have hl := hk.le
  have hl' := hk.le'
  have hz := hr.lt hb
  obtain ⟨k0, hks⟩ : ∃ k0, n.kids = [k0] := by
    match hx : n.kids, hlen with
    | [k0], _ => exact ⟨k0, rfl⟩
  have E : Hid (loopE n = (blockB k0 && bareB n false false true)) := by
    show _ = _
    unfold loopE
    simp only [hv, loopN, hks, lastB_eq, loopB, kidB]
    simp [name21]
    try grind
  have hsz : k0.size ≤ m := by
    have := n.size_kid (k := k0) (by rw [hks]; simp)
    omega
  clear hk
  all_goals go_enter Tryz.func63, Tryz.ntmps63
  all_goals go_wp2_with fail
  all_goals (obtain ⟨W, hW⟩ : ∃ W, W = w.alloc sizesO := ⟨_, rfl⟩)
  all_goals (have hW' : w.alloc sizesO = W := hW.symm)
  all_goals unfold sizesO at hW'
  all_goals rw [hW']
  all_goals clear hW'
  all_goals (have hrW : Ro w0 B W := hW ▸ hr.alloc _)
  all_goals (obtain ⟨g0, g1, g2, g3, gz⟩ := sizes_at w)
  all_goals rw [← hW] at g0 g1 g2 g3 gz
  all_goals clear hW
  all_goals generalize w.heap.size = g at g0 g1 g2 g3 gz ⊢
  all_goals (have hnW := hrW.node hn)
  all_goals clear c0 c1 c2 c3 c7 hc hl hl' hz hb
  all_goals (obtain ⟨A', c', hb, c0, c1, c2, c3, c7, hk'⟩ := hnW.open_)
  all_goals (have hne := Ro.nonempty W)
  all_goals (have hcq := @RoW.cells W W.heap.size)
  obtain ⟨ad, rfl⟩ := hk'.some_ (by omega)
  have q0 := kid0_at hk' (by omega)
  simp only [hks, List.getElem_cons_zero, List.getElem_cons_succ, Nat.reduceMul] at q0
  obtain ⟨_, _, qb0, qc0, _, _, _, _, _⟩ := q0.open_
  clear hks
  all_goals refine wp_region_ro (Ro.self W) (by kernel_rfl) (by kernel_rfl) ?_
  all_goals repeat (any_goals (first
    | go_big_quiet_step (first
        | (go_at_call 38; exact Calls.ro_of (block_step ih q0 (by omega) (RoW.ro _))))
    | quiet_step (first
        | (go_at_call 38; exact Calls.ro_of (block_step ih q0 (by omega) (RoW.ro _))))))
  all_goals refine wpQuiet_nil ?_
  all_goals (intro w1 hr1; have hc1 := hr1.cell)
  all_goals go_wp2_with (first
      | (go_at_call 24; (with_reducible refine (has_c4 hnW ?hr).mono ?_); (case hr => first | assumption | exact Ro.alloc (by assumption) _); rintro e w' ⟨rfl, rfl⟩)
      | (go_at_call 104; (with_reducible refine (none_c q0 ?hr).mono ?_); (case hr => first | assumption | exact Ro.alloc (by assumption) _); rintro e w' ⟨rfl, rfl⟩)
      | (go_at_call 62; (with_reducible refine (expr_c q0 ?hr).mono ?_); (case hr => first | assumption | exact Ro.alloc (by assumption) _); rintro e w1 ⟨rfl, hr1⟩; have hc1 := hr1.cell)
      | (go_at_call 66; (with_reducible refine (simple_c q0 ?hr).mono ?_); (case hr => first | assumption | exact Ro.alloc (by assumption) _); rintro e w1 ⟨rfl, hr1⟩; have hc1 := hr1.cell))
  all_goals go_ret
  all_goals refine ⟨ret_bool ?_, hrW.trans_ (by assumption)⟩
  all_goals go_light
  all_goals rw [E.out]
  all_goals first | (simp [isT, *]; done) | (simp_all [isT]; done) | grind [isT]
set_option maxHeartbeats 40000000 in
set_option maxRecDepth 100000 in
theorem loop_v1 {w0 w : World} {B : Nat} {a : Addr} {n : Node} {m : Nat} (ih : StmtIH m) (hn : NodeAt w0 B a n) (hm : n.size ≤ m + 1) (hr : Ro w0 B w) (hv : n.n = 1) (hlen : n.kids.length = 2) :
    Calls Tryz.prog 63 #[.pointer (some a)] w fun e w' => e = .returned (.bool (loopE n)) ∧ Ro w0 B w' := by
  obtain ⟨A, c, hb, c0, c1, c2, c3, c7, hk⟩ := hn.open_
  have hc := hr.cell
  have hl := hk.le
  have hl' := hk.le'
  have hz := hr.lt hb
  obtain ⟨k0, k1, hks⟩ : ∃ k0 k1, n.kids = [k0, k1] := by
    match hx : n.kids, hlen with
    | [k0, k1], _ => exact ⟨k0, k1, rfl⟩
  have E : Hid (loopE n = (blockB k1 && (bareB n false false true && exprB k0))) := by
    show _ = _
    unfold loopE
    simp only [hv, loopN, hks, lastB_eq, loopB, kidB]
    simp [name21]
    try grind
  have hsz : k1.size ≤ m := by
    have := n.size_kid (k := k1) (by rw [hks]; simp)
    omega
  clear hk
  all_goals go_enter Tryz.func63, Tryz.ntmps63
  all_goals go_wp2_with fail
  all_goals (obtain ⟨W, hW⟩ : ∃ W, W = w.alloc sizesO := ⟨_, rfl⟩)
  all_goals (have hW' : w.alloc sizesO = W := hW.symm)
  all_goals unfold sizesO at hW'
  all_goals rw [hW']
  all_goals clear hW'
  all_goals (have hrW : Ro w0 B W := hW ▸ hr.alloc _)
  all_goals (obtain ⟨g0, g1, g2, g3, gz⟩ := sizes_at w)
  all_goals rw [← hW] at g0 g1 g2 g3 gz
  all_goals clear hW
  all_goals generalize w.heap.size = g at g0 g1 g2 g3 gz ⊢
  all_goals (have hnW := hrW.node hn)
  all_goals clear c0 c1 c2 c3 c7 hc hl hl' hz hb
  all_goals (obtain ⟨A', c', hb, c0, c1, c2, c3, c7, hk'⟩ := hnW.open_)
  all_goals (have hne := Ro.nonempty W)
  all_goals (have hcq := @RoW.cells W W.heap.size)
  obtain ⟨ad, rfl⟩ := hk'.some_ (by omega)
  have q0 := kid0_at hk' (by omega)
  have q1 := kid1_at hk' (i := 1) (by omega) (by decide)
  simp only [hks, List.getElem_cons_zero, List.getElem_cons_succ, Nat.reduceMul] at q0 q1
  obtain ⟨_, _, qb0, qc0, _, _, _, _, _⟩ := q0.open_
  obtain ⟨_, _, qb1, qc1, _, _, _, _, _⟩ := q1.open_
  clear hks
  all_goals refine wp_region_ro (Ro.self W) (by kernel_rfl) (by kernel_rfl) ?_
  all_goals repeat (any_goals (first
    | go_big_quiet_step (first
        | (go_at_call 38; exact Calls.ro_of (block_step ih q1 (by omega) (RoW.ro _))))
    | quiet_step (first
        | (go_at_call 38; exact Calls.ro_of (block_step ih q1 (by omega) (RoW.ro _))))))
  all_goals refine wpQuiet_nil ?_
  all_goals (intro w1 hr1; have hc1 := hr1.cell)
  all_goals go_wp2_with (first
      | (go_at_call 24; (with_reducible refine (has_c4 hnW ?hr).mono ?_); (case hr => first | assumption | exact Ro.alloc (by assumption) _); rintro e w' ⟨rfl, rfl⟩)
      | (go_at_call 104; (with_reducible refine (none_c q0 ?hr).mono ?_); (case hr => first | assumption | exact Ro.alloc (by assumption) _); rintro e w' ⟨rfl, rfl⟩)
      | (go_at_call 104; (with_reducible refine (none_c q1 ?hr).mono ?_); (case hr => first | assumption | exact Ro.alloc (by assumption) _); rintro e w' ⟨rfl, rfl⟩)
      | (go_at_call 62; (with_reducible refine (expr_c q0 ?hr).mono ?_); (case hr => first | assumption | exact Ro.alloc (by assumption) _); rintro e w1 ⟨rfl, hr1⟩; have hc1 := hr1.cell)
      | (go_at_call 62; (with_reducible refine (expr_c q1 ?hr).mono ?_); (case hr => first | assumption | exact Ro.alloc (by assumption) _); rintro e w1 ⟨rfl, hr1⟩; have hc1 := hr1.cell)
      | (go_at_call 66; (with_reducible refine (simple_c q0 ?hr).mono ?_); (case hr => first | assumption | exact Ro.alloc (by assumption) _); rintro e w1 ⟨rfl, hr1⟩; have hc1 := hr1.cell)
      | (go_at_call 66; (with_reducible refine (simple_c q1 ?hr).mono ?_); (case hr => first | assumption | exact Ro.alloc (by assumption) _); rintro e w1 ⟨rfl, hr1⟩; have hc1 := hr1.cell))
  all_goals go_ret
  all_goals refine ⟨ret_bool ?_, hrW.trans_ (by assumption)⟩
  all_goals go_light
  all_goals rw [E.out]
  all_goals first | (simp [isT, *]; done) | (simp_all [isT]; done) | grind [isT]
set_option maxHeartbeats 40000000 in
set_option maxRecDepth 100000 in
theorem loop_v2 {w0 w : World} {B : Nat} {a : Addr} {n : Node} {m : Nat} (ih : StmtIH m) (hn : NodeAt w0 B a n) (hm : n.size ≤ m + 1) (hr : Ro w0 B w) (hv : n.n = 2) (hlen : n.kids.length = 4) :
    Calls Tryz.prog 63 #[.pointer (some a)] w fun e w' => e = .returned (.bool (loopE n)) ∧ Ro w0 B w' := by
  obtain ⟨A, c, hb, c0, c1, c2, c3, c7, hk⟩ := hn.open_
  have hc := hr.cell
  have hl := hk.le
  have hl' := hk.le'
  have hz := hr.lt hb
  obtain ⟨k0, k1, k2, k3, hks⟩ : ∃ k0 k1 k2 k3, n.kids = [k0, k1, k2, k3] := by
    match hx : n.kids, hlen with
    | [k0, k1, k2, k3], _ => exact ⟨k0, k1, k2, k3, rfl⟩
  have E : Hid (loopE n = (blockB k3 && (bareB n false false true && (nothingB k0 || simpleB k0) && (nothingB k1 || exprB k1) && (nothingB k2 || (k2.kind != 6 && simpleB k2))))) := by
    show _ = _
    unfold loopE
    simp only [hv, loopN, hks, lastB_eq, loopB, kidB]
    simp [name21]
    try grind
  have hsz : k3.size ≤ m := by
    have := n.size_kid (k := k3) (by rw [hks]; simp)
    omega
  clear hk
  all_goals go_enter Tryz.func63, Tryz.ntmps63
  all_goals go_wp2_with fail
  all_goals (obtain ⟨W, hW⟩ : ∃ W, W = w.alloc sizesO := ⟨_, rfl⟩)
  all_goals (have hW' : w.alloc sizesO = W := hW.symm)
  all_goals unfold sizesO at hW'
  all_goals rw [hW']
  all_goals clear hW'
  all_goals (have hrW : Ro w0 B W := hW ▸ hr.alloc _)
  all_goals (obtain ⟨g0, g1, g2, g3, gz⟩ := sizes_at w)
  all_goals rw [← hW] at g0 g1 g2 g3 gz
  all_goals clear hW
  all_goals generalize w.heap.size = g at g0 g1 g2 g3 gz ⊢
  all_goals (have hnW := hrW.node hn)
  all_goals clear c0 c1 c2 c3 c7 hc hl hl' hz hb
  all_goals (obtain ⟨A', c', hb, c0, c1, c2, c3, c7, hk'⟩ := hnW.open_)
  all_goals (have hne := Ro.nonempty W)
  all_goals (have hcq := @RoW.cells W W.heap.size)
  obtain ⟨ad, rfl⟩ := hk'.some_ (by omega)
  have q0 := kid0_at hk' (by omega)
  have q1 := kid1_at hk' (i := 1) (by omega) (by decide)
  have q2 := kid1_at hk' (i := 2) (by omega) (by decide)
  have q3 := kid1_at hk' (i := 3) (by omega) (by decide)
  simp only [hks, List.getElem_cons_zero, List.getElem_cons_succ, Nat.reduceMul] at q0 q1 q2 q3
  obtain ⟨_, _, qb0, qc0, _, _, _, _, _⟩ := q0.open_
  obtain ⟨_, _, qb1, qc1, _, _, _, _, _⟩ := q1.open_
  obtain ⟨_, _, qb2, qc2, _, _, _, _, _⟩ := q2.open_
  obtain ⟨_, _, qb3, qc3, _, _, _, _, _⟩ := q3.open_
  clear hks
  all_goals refine wp_region_ro (Ro.self W) (by kernel_rfl) (by kernel_rfl) ?_
  all_goals repeat (any_goals (first
    | go_big_quiet_step (first
        | (go_at_call 38; exact Calls.ro_of (block_step ih q3 (by omega) (RoW.ro _))))
    | quiet_step (first
        | (go_at_call 38; exact Calls.ro_of (block_step ih q3 (by omega) (RoW.ro _))))))
  all_goals refine wpQuiet_nil ?_
  all_goals (intro w1 hr1; have hc1 := hr1.cell)
  all_goals go_wp2_with fail
  all_goals try refine wp_region_ro hr1 (by kernel_rfl) (by kernel_rfl) ?_
  all_goals try repeat (any_goals (first
    | go_big_quiet_step (first
        | fail)
    | quiet_step (first
        | fail)))
  all_goals try refine wpQuiet_nil ?_
  all_goals try (intro w2 hr2; have hc2 := hr2.cell)
  all_goals go_wp2_with (first
      | (go_at_call 24; (with_reducible refine (has_c4 hnW ?hr).mono ?_); (case hr => first | assumption | exact Ro.alloc (by assumption) _); rintro e w' ⟨rfl, rfl⟩)
      | (go_at_call 104; (with_reducible refine (none_c q0 ?hr).mono ?_); (case hr => first | assumption | exact Ro.alloc (by assumption) _); rintro e w' ⟨rfl, rfl⟩)
      | (go_at_call 104; (with_reducible refine (none_c q1 ?hr).mono ?_); (case hr => first | assumption | exact Ro.alloc (by assumption) _); rintro e w' ⟨rfl, rfl⟩)
      | (go_at_call 104; (with_reducible refine (none_c q2 ?hr).mono ?_); (case hr => first | assumption | exact Ro.alloc (by assumption) _); rintro e w' ⟨rfl, rfl⟩)
      | (go_at_call 104; (with_reducible refine (none_c q3 ?hr).mono ?_); (case hr => first | assumption | exact Ro.alloc (by assumption) _); rintro e w' ⟨rfl, rfl⟩)
      | (go_at_call 62; (with_reducible refine (expr_c q0 ?hr).mono ?_); (case hr => first | assumption | exact Ro.alloc (by assumption) _); rintro e w1 ⟨rfl, hr1⟩; have hc1 := hr1.cell)
      | (go_at_call 62; (with_reducible refine (expr_c q1 ?hr).mono ?_); (case hr => first | assumption | exact Ro.alloc (by assumption) _); rintro e w1 ⟨rfl, hr1⟩; have hc1 := hr1.cell)
      | (go_at_call 62; (with_reducible refine (expr_c q2 ?hr).mono ?_); (case hr => first | assumption | exact Ro.alloc (by assumption) _); rintro e w1 ⟨rfl, hr1⟩; have hc1 := hr1.cell)
      | (go_at_call 62; (with_reducible refine (expr_c q3 ?hr).mono ?_); (case hr => first | assumption | exact Ro.alloc (by assumption) _); rintro e w1 ⟨rfl, hr1⟩; have hc1 := hr1.cell)
      | (go_at_call 66; (with_reducible refine (simple_c q0 ?hr).mono ?_); (case hr => first | assumption | exact Ro.alloc (by assumption) _); rintro e w1 ⟨rfl, hr1⟩; have hc1 := hr1.cell)
      | (go_at_call 66; (with_reducible refine (simple_c q1 ?hr).mono ?_); (case hr => first | assumption | exact Ro.alloc (by assumption) _); rintro e w1 ⟨rfl, hr1⟩; have hc1 := hr1.cell)
      | (go_at_call 66; (with_reducible refine (simple_c q2 ?hr).mono ?_); (case hr => first | assumption | exact Ro.alloc (by assumption) _); rintro e w1 ⟨rfl, hr1⟩; have hc1 := hr1.cell)
      | (go_at_call 66; (with_reducible refine (simple_c q3 ?hr).mono ?_); (case hr => first | assumption | exact Ro.alloc (by assumption) _); rintro e w1 ⟨rfl, hr1⟩; have hc1 := hr1.cell))
  all_goals go_ret
  all_goals refine ⟨ret_bool ?_, hrW.trans_ (by assumption)⟩
  all_goals go_light
  all_goals rw [E.out]
  all_goals first | (simp [isT, *]; done) | (simp_all [isT]; done) | grind [isT]
set_option maxHeartbeats 40000000 in
set_option maxRecDepth 100000 in
theorem loop_v3 {w0 w : World} {B : Nat} {a : Addr} {n : Node} {m : Nat} (ih : StmtIH m) (hn : NodeAt w0 B a n) (hm : n.size ≤ m + 1) (hr : Ro w0 B w) (hv : n.n = 3) (hlen : n.kids.length = 3) :
    Calls Tryz.prog 63 #[.pointer (some a)] w fun e w' => e = .returned (.bool (loopE n)) ∧ Ro w0 B w' := by
  obtain ⟨A, c, hb, c0, c1, c2, c3, c7, hk⟩ := hn.open_
  have hc := hr.cell
  have hl := hk.le
  have hl' := hk.le'
  have hz := hr.lt hb
  obtain ⟨k0, k1, k2, hks⟩ : ∃ k0 k1 k2, n.kids = [k0, k1, k2] := by
    match hx : n.kids, hlen with
    | [k0, k1, k2], _ => exact ⟨k0, k1, k2, rfl⟩
  have E : Hid (loopE n = (blockB k2 && (bareB n true false true && exprB k1 && ((n.text.toList.isEmpty && nothingB k0) || ((isT n.text [58, 61] || isT n.text [61]) && (k0.kind == 21) && exprB k0))))) := by
    show _ = _
    unfold loopE
    simp only [hv, loopN, hks, lastB_eq, loopB, kidB]
    simp [name21]
    try grind
  have hsz : k2.size ≤ m := by
    have := n.size_kid (k := k2) (by rw [hks]; simp)
    omega
  clear hk
  all_goals go_enter Tryz.func63, Tryz.ntmps63
  all_goals go_wp2_with fail
  all_goals (obtain ⟨W, hW⟩ : ∃ W, W = w.alloc sizesO := ⟨_, rfl⟩)
  all_goals (have hW' : w.alloc sizesO = W := hW.symm)
  all_goals unfold sizesO at hW'
  all_goals rw [hW']
  all_goals clear hW'
  all_goals (have hrW : Ro w0 B W := hW ▸ hr.alloc _)
  all_goals (obtain ⟨g0, g1, g2, g3, gz⟩ := sizes_at w)
  all_goals rw [← hW] at g0 g1 g2 g3 gz
  all_goals clear hW
  all_goals generalize w.heap.size = g at g0 g1 g2 g3 gz ⊢
  all_goals (have hnW := hrW.node hn)
  all_goals clear c0 c1 c2 c3 c7 hc hl hl' hz hb
  all_goals (obtain ⟨A', c', hb, c0, c1, c2, c3, c7, hk'⟩ := hnW.open_)
  all_goals (have hne := Ro.nonempty W)
  all_goals (have hcq := @RoW.cells W W.heap.size)
  obtain ⟨ad, rfl⟩ := hk'.some_ (by omega)
  have q0 := kid0_at hk' (by omega)
  have q1 := kid1_at hk' (i := 1) (by omega) (by decide)
  have q2 := kid1_at hk' (i := 2) (by omega) (by decide)
  simp only [hks, List.getElem_cons_zero, List.getElem_cons_succ, Nat.reduceMul] at q0 q1 q2
  obtain ⟨_, _, qb0, qc0, _, _, _, _, _⟩ := q0.open_
  obtain ⟨_, _, qb1, qc1, _, _, _, _, _⟩ := q1.open_
  obtain ⟨_, _, qb2, qc2, _, _, _, _, _⟩ := q2.open_
  clear hks
  all_goals refine wp_region_ro (Ro.self W) (by kernel_rfl) (by kernel_rfl) ?_
  all_goals repeat (any_goals (first
    | go_big_quiet_step (first
        | (go_at_call 38; exact Calls.ro_of (block_step ih q2 (by omega) (RoW.ro _))))
    | quiet_step (first
        | (go_at_call 38; exact Calls.ro_of (block_step ih q2 (by omega) (RoW.ro _))))))
  all_goals refine wpQuiet_nil ?_
  all_goals (intro w1 hr1; have hc1 := hr1.cell)
  all_goals go_wp2_with (first
      | (go_at_call 24; (with_reducible refine (has_c5 hnW ?hr).mono ?_); (case hr => first | assumption | exact Ro.alloc (by assumption) _); rintro e w' ⟨rfl, rfl⟩)
      | (go_at_call 104; (with_reducible refine (none_c q0 ?hr).mono ?_); (case hr => first | assumption | exact Ro.alloc (by assumption) _); rintro e w' ⟨rfl, rfl⟩)
      | (go_at_call 104; (with_reducible refine (none_c q1 ?hr).mono ?_); (case hr => first | assumption | exact Ro.alloc (by assumption) _); rintro e w' ⟨rfl, rfl⟩)
      | (go_at_call 104; (with_reducible refine (none_c q2 ?hr).mono ?_); (case hr => first | assumption | exact Ro.alloc (by assumption) _); rintro e w' ⟨rfl, rfl⟩)
      | (go_at_call 62; (with_reducible refine (expr_c q0 ?hr).mono ?_); (case hr => first | assumption | exact Ro.alloc (by assumption) _); rintro e w1 ⟨rfl, hr1⟩; have hc1 := hr1.cell)
      | (go_at_call 62; (with_reducible refine (expr_c q1 ?hr).mono ?_); (case hr => first | assumption | exact Ro.alloc (by assumption) _); rintro e w1 ⟨rfl, hr1⟩; have hc1 := hr1.cell)
      | (go_at_call 62; (with_reducible refine (expr_c q2 ?hr).mono ?_); (case hr => first | assumption | exact Ro.alloc (by assumption) _); rintro e w1 ⟨rfl, hr1⟩; have hc1 := hr1.cell)
      | (go_at_call 66; (with_reducible refine (simple_c q0 ?hr).mono ?_); (case hr => first | assumption | exact Ro.alloc (by assumption) _); rintro e w1 ⟨rfl, hr1⟩; have hc1 := hr1.cell)
      | (go_at_call 66; (with_reducible refine (simple_c q1 ?hr).mono ?_); (case hr => first | assumption | exact Ro.alloc (by assumption) _); rintro e w1 ⟨rfl, hr1⟩; have hc1 := hr1.cell)
      | (go_at_call 66; (with_reducible refine (simple_c q2 ?hr).mono ?_); (case hr => first | assumption | exact Ro.alloc (by assumption) _); rintro e w1 ⟨rfl, hr1⟩; have hc1 := hr1.cell))
  all_goals go_ret
  all_goals refine ⟨ret_bool ?_, hrW.trans_ (by assumption)⟩
  all_goals go_light
  all_goals rw [E.out]
  all_goals first | (simp [isT, *]; done) | (simp_all [isT]; done) | grind [isT]
theorem loop_step {w0 w : World} {B : Nat} {a : Addr} {n : Node} {m : Nat} (ih : StmtIH m) (hn : NodeAt w0 B a n) (hm : n.size ≤ m + 1) (hr : Ro w0 B w) :
    Calls Tryz.prog 63 #[.pointer (some a)] w fun e w' => e = .returned (.bool (loopE n)) ∧ Ro w0 B w' := by
  by_cases h0 : n.n < 0
  · exact loop_no1 hn hr (.inl (by simpa using h0))
  by_cases h3 : 3 < n.n
  · exact loop_no1 hn hr (.inr ⟨by simpa using h0, by simpa using h3⟩)
  have hN : n.n = 0 ∨ n.n = 1 ∨ n.n = 2 ∨ n.n = 3 := by omega
  by_cases hlen : n.kids.length = loopN n.n
  · rcases hN with h | h | h | h <;> rw [h] at hlen
    · exact loop_v0 ih hn hm hr h hlen
    · exact loop_v1 ih hn hm hr h hlen
    · exact loop_v2 ih hn hm hr h hlen
    · exact loop_v3 ih hn hm hr h hlen
  · exact loop_no2 hn hr hN hlen
end Go.Proofs.YtjdeomenioagdaaGreatDoor
