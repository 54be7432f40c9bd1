/- Statements, by the program. -/
import Derived.Test.YtjdeomenioagdaaGreatDoorSwitch3
set_option linter.unusedVariables false
set_option linter.unusedSimpArgs false
namespace Go.Proofs.YtjdeomenioagdaaGreatDoor
open Go.RowKit
set_option maxHeartbeats 40000000 in
set_option maxRecDepth 100000 in
theorem stmt4 {w0 w : World} {B : Nat} {a : Addr} {n : Node} {m : Nat} (ih : StmtIH m) (hn : NodeAt w0 B a n) (hm : n.size ≤ m + 1) (hr : Ro w0 B w) (h0 : n.kind = 4) :
    Calls Tryz.prog 50 #[.pointer (some a)] w fun e w' => e = .returned (.bool (stmtB n)) ∧ Ro w0 B w' := by
  obtain ⟨A, c, hb, c0, c1, c2, c3, c7, hk⟩ := hn.open_
  have hc := hr.cell
  have hl := hk.le
  have hl' := hk.le'
  have hz := hr.lt hb
  have E : Hid (stmtB n = (blockB n)) := by
    show _ = _
    rw [stmtB_eq]
    rw [blockB_eq]; simp [h0]
  go_enter Tryz.func50, Tryz.ntmps50
  go_wp2_with (first
    | (go_at_call 38; (with_reducible refine (block_step ih hn hm ?hr).mono ?_); (case hr => first | assumption | exact Ro.alloc (by assumption) _); rintro e w1 ⟨rfl, hr1⟩; have hc1 := hr1.cell))
  all_goals go_ret
  all_goals refine ⟨ret_bool ?_, by first | assumption | exact Ro.alloc (by assumption) _⟩
  all_goals go_light
  all_goals rw [E.out]
  all_goals first | (simp [lenI, *]; done) | (simp_all; done) | grind [lenI]
set_option maxHeartbeats 40000000 in
set_option maxRecDepth 100000 in
theorem stmt5 {w0 w : World} {B : Nat} {a : Addr} {n : Node} {m : Nat} (ih : StmtIH m) (hn : NodeAt w0 B a n) (hm : n.size ≤ m + 1) (hr : Ro w0 B w) (h0 : n.kind = 5) :
    Calls Tryz.prog 50 #[.pointer (some a)] w fun e w' => e = .returned (.bool (stmtB n)) ∧ Ro w0 B w' := by
  obtain ⟨A, c, hb, c0, c1, c2, c3, c7, hk⟩ := hn.open_
  have hc := hr.cell
  have hl := hk.le
  have hl' := hk.le'
  have hz := hr.lt hb
  have E : Hid (stmtB n = (properB n.text && tyB n.type && decide (lenI n ≤ 1) && bareB n true true false && exprsB false n.kids)) := by
    show _ = _
    rw [stmtB_eq]
    rw [lenI_le]; simp [h0]; grind
  have ht := hn.text_le
  have hty := hn.type_le
  go_enter Tryz.func50, Tryz.ntmps50
  go_wp2_with (first
    | (go_at_call 36; (with_reducible refine (proper_c (w0 := w0) (B := B) _ ?hr ht).mono ?_); (case hr => first | assumption | exact Ro.alloc (by assumption) _); rintro e w1 ⟨rfl, hr1⟩; have hc1 := hr1.cell)
    | (go_at_call 37; (with_reducible refine (tyright_c _ _ hty).mono ?_); rintro e w' ⟨rfl, rfl⟩)
    | (go_at_call 24; (with_reducible refine (has_c3 hn ?hr).mono ?_); (case hr => first | assumption | exact Ro.alloc (by assumption) _); rintro e w' ⟨rfl, rfl⟩)
    | (go_at_call 25; (with_reducible refine (exprs_c hk ?hr).mono ?_); (case hr => first | assumption | exact Ro.alloc (by assumption) _); rintro e w1 ⟨rfl, hr1⟩; have hc1 := hr1.cell))
  all_goals go_ret
  all_goals refine ⟨ret_bool ?_, by first | assumption | exact Ro.alloc (by assumption) _⟩
  all_goals go_light
  all_goals rw [E.out]
  all_goals first | (simp [lenI, *]; done) | (simp_all; done) | grind [lenI]
set_option maxHeartbeats 40000000 in
set_option maxRecDepth 100000 in
theorem stmt12 {w0 w : World} {B : Nat} {a : Addr} {n : Node} {m : Nat} (ih : StmtIH m) (hn : NodeAt w0 B a n) (hm : n.size ≤ m + 1) (hr : Ro w0 B w) (h0 : n.kind = 12) :
    Calls Tryz.prog 50 #[.pointer (some a)] w fun e w' => e = .returned (.bool (stmtB n)) ∧ Ro w0 B w' := by
  obtain ⟨A, c, hb, c0, c1, c2, c3, c7, hk⟩ := hn.open_
  have hc := hr.cell
  have hl := hk.le
  have hl' := hk.le'
  have hz := hr.lt hb
  have E : Hid (stmtB n = (loopE n)) := by
    show _ = _
    rw [stmtB_eq]
    simp [h0, loopE]
  go_enter Tryz.func50, Tryz.ntmps50
  go_wp2_with (first
    | (go_at_call 63; (with_reducible refine (loop_step ih hn hm ?hr).mono ?_); (case hr => first | assumption | exact Ro.alloc (by assumption) _); rintro e w1 ⟨rfl, hr1⟩; have hc1 := hr1.cell))
  all_goals go_ret
  all_goals refine ⟨ret_bool ?_, by first | assumption | exact Ro.alloc (by assumption) _⟩
  all_goals go_light
  all_goals rw [E.out]
  all_goals first | (simp [lenI, *]; done) | (simp_all; done) | grind [lenI]
set_option maxHeartbeats 40000000 in
set_option maxRecDepth 100000 in
theorem stmt13 {w0 w : World} {B : Nat} {a : Addr} {n : Node} {m : Nat} (ih : StmtIH m) (hn : NodeAt w0 B a n) (hm : n.size ≤ m + 1) (hr : Ro w0 B w) (h0 : n.kind = 13) :
    Calls Tryz.prog 50 #[.pointer (some a)] w fun e w' => e = .returned (.bool (stmtB n)) ∧ Ro w0 B w' := by
  obtain ⟨A, c, hb, c0, c1, c2, c3, c7, hk⟩ := hn.open_
  have hc := hr.cell
  have hl := hk.le
  have hl' := hk.le'
  have hz := hr.lt hb
  have E : Hid (stmtB n = (switchE n)) := by
    show _ = _
    rw [stmtB_eq]
    simp only [h0]; rfl
  go_enter Tryz.func50, Tryz.ntmps50
  go_wp2_with (first
    | (go_at_call 64; (with_reducible refine (switches_step ih hn hm ?hr).mono ?_); (case hr => first | assumption | exact Ro.alloc (by assumption) _); rintro e w1 ⟨rfl, hr1⟩; have hc1 := hr1.cell))
  all_goals go_ret
  all_goals refine ⟨ret_bool ?_, by first | assumption | exact Ro.alloc (by assumption) _⟩
  all_goals go_light
  all_goals rw [E.out]
  all_goals first | (simp [lenI, *]; done) | (simp_all; done) | grind [lenI]
set_option maxHeartbeats 40000000 in
set_option maxRecDepth 100000 in
theorem stmt15 {w0 w : World} {B : Nat} {a : Addr} {n : Node} {m : Nat} (ih : StmtIH m) (hn : NodeAt w0 B a n) (hm : n.size ≤ m + 1) (hr : Ro w0 B w) (h0 : n.kind = 15) :
    Calls Tryz.prog 50 #[.pointer (some a)] w fun e w' => e = .returned (.bool (stmtB n)) ∧ Ro w0 B w' := by
  obtain ⟨A, c, hb, c0, c1, c2, c3, c7, hk⟩ := hn.open_
  have hc := hr.cell
  have hl := hk.le
  have hl' := hk.le'
  have hz := hr.lt hb
  have E : Hid (stmtB n = (selectE n)) := by
    show _ = _
    rw [stmtB_eq]
    simp [h0, selectE]
  go_enter Tryz.func50, Tryz.ntmps50
  go_wp2_with (first
    | (go_at_call 65; (with_reducible refine (selects_step ih hn hm ?hr).mono ?_); (case hr => first | assumption | exact Ro.alloc (by assumption) _); rintro e w1 ⟨rfl, hr1⟩; have hc1 := hr1.cell))
  all_goals go_ret
  all_goals refine ⟨ret_bool ?_, by first | assumption | exact Ro.alloc (by assumption) _⟩
  all_goals go_light
  all_goals rw [E.out]
  all_goals first | (simp [lenI, *]; done) | (simp_all; done) | grind [lenI]
set_option maxHeartbeats 40000000 in
set_option maxRecDepth 100000 in
theorem stmt18 {w0 w : World} {B : Nat} {a : Addr} {n : Node} {m : Nat} (ih : StmtIH m) (hn : NodeAt w0 B a n) (hm : n.size ≤ m + 1) (hr : Ro w0 B w) (h0 : n.kind = 18) :
    Calls Tryz.prog 50 #[.pointer (some a)] w fun e w' => e = .returned (.bool (stmtB n)) ∧ Ro w0 B w' := by
  obtain ⟨A, c, hb, c0, c1, c2, c3, c7, hk⟩ := hn.open_
  have hc := hr.cell
  have hl := hk.le
  have hl' := hk.le'
  have hz := hr.lt hb
  have E : Hid (stmtB n = (decide (lenI n ≤ 1) && bareB n false false false && exprsB false n.kids)) := by
    show _ = _
    rw [stmtB_eq]
    rw [lenI_le]; simp [h0]; grind
  go_enter Tryz.func50, Tryz.ntmps50
  go_wp2_with (first
    | (go_at_call 24; (with_reducible refine (has_c0 hn ?hr).mono ?_); (case hr => first | assumption | exact Ro.alloc (by assumption) _); rintro e w' ⟨rfl, rfl⟩)
    | (go_at_call 25; (with_reducible refine (exprs_c hk ?hr).mono ?_); (case hr => first | assumption | exact Ro.alloc (by assumption) _); rintro e w1 ⟨rfl, hr1⟩; have hc1 := hr1.cell))
  all_goals go_ret
  all_goals refine ⟨ret_bool ?_, by first | assumption | exact Ro.alloc (by assumption) _⟩
  all_goals go_light
  all_goals rw [E.out]
  all_goals first | (simp [lenI, *]; done) | (simp_all; done) | grind [lenI]
set_option maxHeartbeats 40000000 in
set_option maxRecDepth 100000 in
theorem stmt19 {w0 w : World} {B : Nat} {a : Addr} {n : Node} {m : Nat} (ih : StmtIH m) (hn : NodeAt w0 B a n) (hm : n.size ≤ m + 1) (hr : Ro w0 B w) (h0 : n.kind = 19 ∨ n.kind = 20) :
    Calls Tryz.prog 50 #[.pointer (some a)] w fun e w' => e = .returned (.bool (stmtB n)) ∧ Ro w0 B w' := by
  obtain ⟨A, c, hb, c0, c1, c2, c3, c7, hk⟩ := hn.open_
  have hc := hr.cell
  have hl := hk.le
  have hl' := hk.le'
  have hz := hr.lt hb
  have E : Hid (stmtB n = ((lenI n == 0) && bareB n false false false)) := by
    show _ = _
    rw [stmtB_eq]
    rw [lenI_zero]; rcases h0 with h0 | h0 <;> simp [h0]
  rcases h0 with h0 | h0
  all_goals go_enter Tryz.func50, Tryz.ntmps50
  all_goals go_wp2_with (first
    | (go_at_call 24; (with_reducible refine (has_c0 hn ?hr).mono ?_); (case hr => first | assumption | exact Ro.alloc (by assumption) _); rintro e w' ⟨rfl, rfl⟩))
  all_goals go_ret
  all_goals refine ⟨ret_bool ?_, by first | assumption | exact Ro.alloc (by assumption) _⟩
  all_goals go_light
  all_goals rw [E.out]
  all_goals first | (simp [lenI, *]; done) | (simp_all; done) | grind [lenI]
set_option maxHeartbeats 40000000 in
set_option maxRecDepth 100000 in
theorem stmtX {w0 w : World} {B : Nat} {a : Addr} {n : Node} {m : Nat} (ih : StmtIH m) (hn : NodeAt w0 B a n) (hm : n.size ≤ m + 1) (hr : Ro w0 B w) (h : (n.kind == 4) = false ∧ (n.kind == 5) = false ∧ (n.kind == 11) = false ∧ (n.kind == 12) = false ∧ (n.kind == 13) = false ∧ (n.kind == 15) = false ∧ (n.kind == 17) = false ∧ (n.kind == 18) = false ∧ (n.kind == 19) = false ∧ (n.kind == 20) = false) :
    Calls Tryz.prog 50 #[.pointer (some a)] w fun e w' => e = .returned (.bool (stmtB n)) ∧ Ro w0 B w' := by
  obtain ⟨A, c, hb, c0, c1, c2, c3, c7, hk⟩ := hn.open_
  have hc := hr.cell
  have hl := hk.le
  have hl' := hk.le'
  have hz := hr.lt hb
  have E : Hid (stmtB n = (simpleB n)) := by
    show _ = _
    rw [stmtB_eq]
    obtain ⟨k4, k5, k11, k12, k13, k15, k17, k18, k19, k20⟩ := h
    simp [k4, k5, k11, k12, k13, k15, k17, k18, k19, k20]
  obtain ⟨k4, k5, k11, k12, k13, k15, k17, k18, k19, k20⟩ := h
  go_enter Tryz.func50, Tryz.ntmps50
  go_wp2_with (first
    | (go_at_call 66; (with_reducible refine (simple_c hn ?hr).mono ?_); (case hr => first | assumption | exact Ro.alloc (by assumption) _); rintro e w1 ⟨rfl, hr1⟩; have hc1 := hr1.cell))
  all_goals go_ret
  all_goals refine ⟨ret_bool ?_, by first | assumption | exact Ro.alloc (by assumption) _⟩
  all_goals go_light
  all_goals rw [E.out]
  all_goals first | (simp [lenI, *]; done) | (simp_all; done) | grind [lenI]
set_option maxHeartbeats 40000000 in
set_option maxRecDepth 100000 in
theorem stmt11_2 {w0 w : World} {B : Nat} {a : Addr} {n : Node} {m : Nat} (ih : StmtIH m) (hn : NodeAt w0 B a n) (hm : n.size ≤ m + 1) (hr : Ro w0 B w) (h0 : n.kind = 11) (hlen : n.kids.length = 2) :
    Calls Tryz.prog 50 #[.pointer (some a)] w fun e w' => e = .returned (.bool (stmtB n)) ∧ Ro w0 B w' := by
  obtain ⟨A, c, hb, c0, c1, c2, c3, c7, hk⟩ := hn.open_
  have hc := hr.cell
  have hl := hk.le
  have hl' := hk.le'
  have hz := hr.lt hb
  obtain ⟨k0, k1, hks⟩ : ∃ k0 k1, n.kids = [k0, k1] := by
    match hx : n.kids, hlen with
    | [k0, k1], _ => exact ⟨k0, k1, rfl⟩
  obtain ⟨ad, rfl⟩ := hk.some_ (by omega)
  have q0 := kid0_at hk (by omega)
  have q1 := kid1_at hk (i := 1) (by omega) (by decide)
  simp only [hks, List.getElem_cons_zero, List.getElem_cons_succ, Nat.reduceMul] at q0 q1
  have z0 : k0.size ≤ m := by
    have := n.size_kid (k := k0) (by rw [hks]; simp)
    omega
  have z1 : k1.size ≤ m := by
    have := n.size_kid (k := k1) (by rw [hks]; simp)
    omega
  obtain ⟨_, _, qb0, qc0, qd0, _, _, _, _⟩ := q0.open_
  obtain ⟨_, _, qb1, qc1, qd1, _, _, _, _⟩ := q1.open_
  have E : Hid (stmtB n = (bareB n false false false && exprB k0 && blockB k1)) := by
    show _ = _
    rw [stmtB_eq]
    simp [h0, hks, ifB, blockB]; grind
  clear hks

  go_enter Tryz.func50, Tryz.ntmps50
  go_wp2_with (first
    | (go_at_call 24; (with_reducible refine (has_c0 hn ?hr).mono ?_); (case hr => first | assumption | exact Ro.alloc (by assumption) _); rintro e w' ⟨rfl, rfl⟩)
    | (go_at_call 62; (with_reducible refine (expr_c q0 ?hr).mono ?_); (case hr => first | assumption | exact Ro.alloc (by assumption) _); rintro e w1 ⟨rfl, hr1⟩; have hc1 := hr1.cell)
    | (go_at_call 38; (with_reducible refine (block_step ih q1 (by omega) ?hr).mono ?_); (case hr => first | assumption | exact Ro.alloc (by assumption) _); rintro e w1 ⟨rfl, hr1⟩; have hc1 := hr1.cell))
  all_goals go_ret
  all_goals refine ⟨ret_bool ?_, by first | assumption | exact Ro.alloc (by assumption) _⟩
  all_goals go_light
  all_goals rw [E.out]
  all_goals first | (simp [lenI, *]; done) | (simp_all; done) | grind [lenI]
set_option maxHeartbeats 40000000 in
set_option maxRecDepth 100000 in
theorem stmt11_3 {w0 w : World} {B : Nat} {a : Addr} {n : Node} {m : Nat} (ih : StmtIH m) (hn : NodeAt w0 B a n) (hm : n.size ≤ m + 1) (hr : Ro w0 B w) (h0 : n.kind = 11) (hlen : n.kids.length = 3) :
    Calls Tryz.prog 50 #[.pointer (some a)] w fun e w' => e = .returned (.bool (stmtB n)) ∧ Ro w0 B w' := by
  obtain ⟨A, c, hb, c0, c1, c2, c3, c7, hk⟩ := hn.open_
  have hc := hr.cell
  have hl := hk.le
  have hl' := hk.le'
  have hz := hr.lt hb
  obtain ⟨k0, k1, k2, hks⟩ : ∃ k0 k1 k2, n.kids = [k0, k1, k2] := by
    match hx : n.kids, hlen with
    | [k0, k1, k2], _ => exact ⟨k0, k1, k2, rfl⟩
  obtain ⟨ad, rfl⟩ := hk.some_ (by omega)
  have q0 := kid0_at hk (by omega)
  have q1 := kid1_at hk (i := 1) (by omega) (by decide)
  have q2 := kid1_at hk (i := 2) (by omega) (by decide)
  simp only [hks, List.getElem_cons_zero, List.getElem_cons_succ, Nat.reduceMul] at q0 q1 q2
  have z0 : k0.size ≤ m := by
    have := n.size_kid (k := k0) (by rw [hks]; simp)
    omega
  have z1 : k1.size ≤ m := by
    have := n.size_kid (k := k1) (by rw [hks]; simp)
    omega
  have z2 : k2.size ≤ m := by
    have := n.size_kid (k := k2) (by rw [hks]; simp)
    omega
  obtain ⟨_, _, qb0, qc0, qd0, _, _, _, _⟩ := q0.open_
  obtain ⟨_, _, qb1, qc1, qd1, _, _, _, _⟩ := q1.open_
  obtain ⟨_, _, qb2, qc2, qd2, _, _, _, _⟩ := q2.open_
  have E : Hid (stmtB n = (bareB n false false false && exprB k0 && blockB k1 && ((k2.kind == 11 || k2.kind == 4) && stmtB k2))) := by
    show _ = _
    rw [stmtB_eq]
    simp [h0, hks, ifB, blockB]; grind
  clear hks
  have HK : Hid (∀ w, Ro w0 B w → Calls Tryz.prog 50 #[.pointer (some (fld ad 16))] w fun e w' => e = .returned (.bool (stmtB k2)) ∧ Ro w0 B w') := fun w hr => ih _ _ _ _ w q2 z2 hr
  go_enter Tryz.func50, Tryz.ntmps50
  go_wp2_with (first
    | (go_at_call 24; (with_reducible refine (has_c0 hn ?hr).mono ?_); (case hr => first | assumption | exact Ro.alloc (by assumption) _); rintro e w' ⟨rfl, rfl⟩)
    | (go_at_call 62; (with_reducible refine (expr_c q0 ?hr).mono ?_); (case hr => first | assumption | exact Ro.alloc (by assumption) _); rintro e w1 ⟨rfl, hr1⟩; have hc1 := hr1.cell)
    | (go_at_call 38; (with_reducible refine (block_step ih q1 (by omega) ?hr).mono ?_); (case hr => first | assumption | exact Ro.alloc (by assumption) _); rintro e w1 ⟨rfl, hr1⟩; have hc1 := hr1.cell)
    | (go_at_call 50; (with_reducible refine (HK.out _ ?hr).mono ?_); (case hr => first | assumption | exact Ro.alloc (by assumption) _); rintro e w1 ⟨rfl, hr1⟩; have hc1 := hr1.cell))
  all_goals go_ret
  all_goals refine ⟨ret_bool ?_, by first | assumption | exact Ro.alloc (by assumption) _⟩
  all_goals go_light
  all_goals rw [E.out]
  all_goals first | (simp [lenI, *]; done) | (simp_all; done) | grind [lenI]
set_option maxHeartbeats 40000000 in
set_option maxRecDepth 100000 in
theorem stmt11_no {w0 w : World} {B : Nat} {a : Addr} {n : Node} {m : Nat} (ih : StmtIH m) (hn : NodeAt w0 B a n) (hm : n.size ≤ m + 1) (hr : Ro w0 B w) (h0 : n.kind = 11) (hlen : n.kids.length ≠ 2 ∧ n.kids.length ≠ 3) :
    Calls Tryz.prog 50 #[.pointer (some a)] w fun e w' => e = .returned (.bool (stmtB n)) ∧ Ro w0 B w' := by
  obtain ⟨A, c, hb, c0, c1, c2, c3, c7, hk⟩ := hn.open_
  have hc := hr.cell
  have hl := hk.le
  have hl' := hk.le'
  have hz := hr.lt hb
  have E : Hid (stmtB n = (false)) := by
    show _ = _
    rw [stmtB_eq]
    have : ifB n.kids = false := by
      match hx : n.kids, hlen with
      | [], _ => rfl
      | [_], _ => rfl
      | [_, _], h => exact absurd rfl h.1
      | [_, _, _], h => exact absurd rfl h.2
      | _ :: _ :: _ :: _ :: _, _ => rfl
    simp [h0, this]
  rcases (by omega : (n.kids.length : Int) < 2 ∨ (3 < (n.kids.length : Int) ∧ ¬ (n.kids.length : Int) < 2)) with hq | ⟨hq, hq2⟩
  all_goals clear hlen
  all_goals go_enter Tryz.func50, Tryz.ntmps50
  all_goals go_wp2_with (first
    | (go_at_call 24; (with_reducible refine (has_c0 hn ?hr).mono ?_); (case hr => first | assumption | exact Ro.alloc (by assumption) _); rintro e w' ⟨rfl, rfl⟩))
  all_goals go_ret
  all_goals refine ⟨ret_bool ?_, by first | assumption | exact Ro.alloc (by assumption) _⟩
  all_goals go_light
  all_goals rw [E.out]
  all_goals first | (simp [lenI, *]; done) | (simp_all; done) | grind [lenI]
set_option maxHeartbeats 40000000 in
set_option maxRecDepth 100000 in
theorem stmt17_1 {w0 w : World} {B : Nat} {a : Addr} {n : Node} {m : Nat} (ih : StmtIH m) (hn : NodeAt w0 B a n) (hm : n.size ≤ m + 1) (hr : Ro w0 B w) (h0 : n.kind = 17) (hlen : n.kids.length = 1) :
    Calls Tryz.prog 50 #[.pointer (some a)] w fun e w' => e = .returned (.bool (stmtB n)) ∧ Ro w0 B w' := by
  obtain ⟨A, c, hb, c0, c1, c2, c3, c7, hk⟩ := hn.open_
  have hc := hr.cell
  have hl := hk.le
  have hl' := hk.le'
  have hz := hr.lt hb
  obtain ⟨k0, hks⟩ : ∃ k0, n.kids = [k0] := by
    match hx : n.kids, hlen with
    | [k0], _ => exact ⟨k0, rfl⟩
  obtain ⟨ad, rfl⟩ := hk.some_ (by omega)
  have q0 := kid0_at hk (by omega)
  simp only [hks, List.getElem_cons_zero, List.getElem_cons_succ, Nat.reduceMul] at q0
  have z0 : k0.size ≤ m := by
    have := n.size_kid (k := k0) (by rw [hks]; simp)
    omega
  obtain ⟨_, _, qb0, qc0, qd0, _, _, _, _⟩ := q0.open_
  have E : Hid (stmtB n = (bareB n false false false && ((k0.kind == 28) && properB k0.text && exprB k0))) := by
    show _ = _
    rw [stmtB_eq]
    have : (k0.kind == 28 && properB k0.text && callB k0) = (k0.kind == 28 && properB k0.text && exprB k0) := by
      by_cases h : k0.kind = 28
      · rw [exprB_eq]; simp [h]
      · rw [beq_eq_false_iff_ne.2 h]; rfl
    simp [h0, hks, kidB, this]
  clear hks
  have ht0 := q0.text_le
  go_enter Tryz.func50, Tryz.ntmps50
  go_wp2_with (first
    | (go_at_call 24; (with_reducible refine (has_c0 hn ?hr).mono ?_); (case hr => first | assumption | exact Ro.alloc (by assumption) _); rintro e w' ⟨rfl, rfl⟩)
    | (go_at_call 62; (with_reducible refine (expr_c q0 ?hr).mono ?_); (case hr => first | assumption | exact Ro.alloc (by assumption) _); rintro e w1 ⟨rfl, hr1⟩; have hc1 := hr1.cell)
    | (go_at_call 36; (with_reducible refine (proper_c (w0 := w0) (B := B) _ ?hr ht0).mono ?_); (case hr => first | assumption | exact Ro.alloc (by assumption) _); rintro e w1 ⟨rfl, hr1⟩; have hc1 := hr1.cell))
  all_goals go_ret
  all_goals refine ⟨ret_bool ?_, by first | assumption | exact Ro.alloc (by assumption) _⟩
  all_goals go_light
  all_goals rw [E.out]
  all_goals first | (simp [lenI, *]; done) | (simp_all; done) | grind [lenI]
set_option maxHeartbeats 40000000 in
set_option maxRecDepth 100000 in
theorem stmt17_no {w0 w : World} {B : Nat} {a : Addr} {n : Node} {m : Nat} (ih : StmtIH m) (hn : NodeAt w0 B a n) (hm : n.size ≤ m + 1) (hr : Ro w0 B w) (h0 : n.kind = 17) (hlen : n.kids.length ≠ 1) :
    Calls Tryz.prog 50 #[.pointer (some a)] w fun e w' => e = .returned (.bool (stmtB n)) ∧ Ro w0 B w' := by
  obtain ⟨A, c, hb, c0, c1, c2, c3, c7, hk⟩ := hn.open_
  have hc := hr.cell
  have hl := hk.le
  have hl' := hk.le'
  have hz := hr.lt hb
  have E : Hid (stmtB n = (false)) := by
    show _ = _
    rw [stmtB_eq]
    simp [h0, hlen]
  have hq : ((n.kids.length : Int) == 1) = false := by rw [beq_eq_false_iff_ne]; omega
  go_enter Tryz.func50, Tryz.ntmps50
  go_wp2_with (first
    | (go_at_call 24; (with_reducible refine (has_c0 hn ?hr).mono ?_); (case hr => first | assumption | exact Ro.alloc (by assumption) _); rintro e w' ⟨rfl, rfl⟩))
  all_goals go_ret
  all_goals refine ⟨ret_bool ?_, by first | assumption | exact Ro.alloc (by assumption) _⟩
  all_goals go_light
  all_goals rw [E.out]
  all_goals first | (simp [lenI, *]; done) | (simp_all; done) | grind [lenI]
theorem stmt_step {w0 w : World} {B : Nat} {a : Addr} {n : Node} {m : Nat} (ih : StmtIH m) (hn : NodeAt w0 B a n) (hm : n.size ≤ m + 1) (hr : Ro w0 B w) :
    Calls Tryz.prog 50 #[.pointer (some a)] w fun e w' => e = .returned (.bool (stmtB n)) ∧ Ro w0 B w' := by
  by_cases h4 : n.kind = 4
  · exact stmt4 ih hn hm hr h4
  by_cases h5 : n.kind = 5
  · exact stmt5 ih hn hm hr h5
  by_cases h11 : n.kind = 11
  · by_cases l2 : n.kids.length = 2
    · exact stmt11_2 ih hn hm hr h11 l2
    · by_cases l3 : n.kids.length = 3
      · exact stmt11_3 ih hn hm hr h11 l3
      · exact stmt11_no ih hn hm hr h11 ⟨l2, l3⟩
  by_cases h12 : n.kind = 12
  · exact stmt12 ih hn hm hr h12
  by_cases h13 : n.kind = 13
  · exact stmt13 ih hn hm hr h13
  by_cases h15 : n.kind = 15
  · exact stmt15 ih hn hm hr h15
  by_cases h17 : n.kind = 17
  · by_cases l1 : n.kids.length = 1
    · exact stmt17_1 ih hn hm hr h17 l1
    · exact stmt17_no ih hn hm hr h17 l1
  by_cases h18 : n.kind = 18
  · exact stmt18 ih hn hm hr h18
  by_cases h19 : n.kind = 19 ∨ n.kind = 20
  · exact stmt19 ih hn hm hr h19
  exact stmtX ih hn hm hr (by simp only [beq_eq_false_iff_ne]; exact ⟨h4, h5, h11, h12, h13, h15, h17, h18, fun h => h19 (.inl h), fun h => h19 (.inr h)⟩)
theorem stmt_ih : ∀ m, StmtIH m
  | 0 => fun w0 B a n w hn hm hr => absurd n.size_pos (by omega)
  | m + 1 => fun w0 B a n w hn hm hr => stmt_step (stmt_ih m) hn hm hr
theorem block_c {w0 w : World} {B : Nat} {a : Addr} {n : Node} (hn : NodeAt w0 B a n) (hr : Ro w0 B w) :
    Calls Tryz.prog 38 #[.pointer (some a)] w fun e w' => e = .returned (.bool (blockB n)) ∧ Ro w0 B w' := block_step (stmt_ih n.size) hn (by omega) hr
end Go.Proofs.YtjdeomenioagdaaGreatDoor
